/- Witness -/
import Derived.Test.YteooinddnfbglaaGreatDoorProg
import Derived.KernelRfl
import Derived.Test.YteooinddnfbglaaGreatDoorWqT3
set_option linter.unusedVariables false
set_option linter.unusedSimpArgs false
set_option linter.unusedSectionVars false
namespace Go.Proofs.YteooinddnfbglaaGreatDoor.G
open Go Go.Ab
noncomputable section
section
set_option maxRecDepth 100000
def m16(x0:AV)(S:Aa)(Q:Aq):Prop:=
 Az 61 2 x0 S fun a S=>Lf a 0 S fun c S=>bin .add 0 c (aI 1) S fun d S=>Lf a 1 S fun e S=>AF e S fun f S=>bin .add 0 d f S fun g S=>Q (.ret g) S
theorem Vf{x0:AV}{S:Aa}{Q:Aq}(h:m16 x0 S Q):Ad Pg 16 [x0] S Q:=
 Bj (n:=10) [[]] Tryz.func16 (by kernel_rfl) (Eq.mpr (by kernel_rfl) h)
def m43(x0 x1:AV)(S:Aa)(Q:Aq):Prop:=
 Az 61 2 x0 S fun a S=>Lf a 0 S fun c S=>bin .geq 0 c (aI 0) S fun d S=>Fi d (Lf a 0 S fun e S=>bin .leq 0 e (aI 2000) S fun f S=>Fi f (bin .geq 0 x1 (aI 0) S fun g S=>Fi g (bin .quo 0 x1 (aI 2) S fun h S=>AB 2 a S fun i S=>Ah Pg 16 [i] S Q fun k S=>bin .lss 0 h k S fun l S=>Q (.ret l) S) (Q (.ret (.v (.bool false))) S)) (Q (.ret (.v (.bool false))) S)) (Q (.ret (.v (.bool false))) S)
theorem oX{x0 x1:AV}{S:Aa}{Q:Aq}(h:m43 x0 x1 S Q):Ad Pg 43 [x0,x1] S Q:=
 Bj (n:=24) [[]] Tryz.func43 (by kernel_rfl) (Eq.mpr (by kernel_rfl) h)
def jW:Code:=(Tryz.f42.body).getD .skip
def r42:List ResultVar:=Tryz.f42.results.toList
def L2(y1 y3:AV):List AV:=[y1,y3]
def MQ:List Nat:=[1,3]
def L1(y1 y3 y6:AV):List AV:=[y1,y3,y6]
def Th:List Nat:=[1,3,6]
def MG:List (List Nat):=[MQ,Th,[]]
def m42(x0:AV)(S:Aa)(Q:Aq):Prop:=
 Az 61 2 x0 S fun a S=>Lf a 0 S fun c S=>bin .lss 0 c (aI 0) S fun d S=>Fi d (Q (.ret (.v (.bool false))) S) (Lf a 0 S fun e S=>bin .gtr 0 e (aI 2000) S fun f S=>Fi f (Q (.ret (.v (.bool false))) S) (Lf a 1 S fun g S=>AF g S fun h S=>bin .gtr 0 h (aI 2000) S fun i S=>Fi i (Q (.ret (.v (.bool false))) S) (AB 2 a S fun k S=>Ah Pg 16 [k] S Q fun l S=>bin .gtr 0 l (aI 2000) S fun m S=>Fi m (Q (.ret (.v (.bool false))) S) (Ap MQ (vc Pg (jW.at_ [1,1,0,1,0,0]) (MG.drop 1)) 80 (L2 a (aI 0)) S (Ak 0 (Av (vc Pg (jW.at_ [1,1,1]) (MG.drop 2)) (Ao Pg r42 Q)))))))
theorem oY{x0:AV}{S:Aa}{Q:Aq}(h:m42 x0 S Q):Ad Pg 42 [x0] S Q:=
 Bj (n:=80) MG Tryz.func42 (by kernel_rfl) (Eq.mpr (by kernel_rfl) h)
def uE(y1 y3:AV)(S:Aa)(KE0:By)(Q:Aq):Prop:=
 Lf y1 1 S fun a S=>AF a S fun c S=>bin .lss 0 y3 c S fun d S=>Fi d ((fun S0:Aa=>Lq S0 (shift y1 1) fun e=>Lq S0 (Ay e) fun f=>Lq S0 (AS 130 2 f y3) fun g=>Lq S0 (Iz 2 1 g (aI 0)) fun h=>Lq S0 (Ay h) fun i=>Lq S0 (shift y1 1) fun k=>Lq S0 (Ay k) fun l=>Lq S0 (AS 130 2 l y3) fun m=>Lq S0 (Iz 2 1 m (aI 1)) fun n=>Lq S0 (Ay n) fun o=>bin .lss 0 o (aI 2) S fun p S=>Fi p (Q (.ret (.v (.bool false))) S) (bin .quo 0 i (aI 2) S fun q S=>bin .quo 0 o (aI 2) S fun r S=>bin .leq 0 q r S fun s S=>Fi s (Q (.ret (.v (.bool false))) S) (bin .quo 0 i (aI 2) S fun t S=>Lf y1 0 S fun u S=>bin .add 0 u (aI 1) S fun w S=>bin .add 0 w y3 S fun x S=>bin .geq 0 t x S fun y S=>Fi y (Q (.ret (.v (.bool false))) S) (Ap Th (vc Pg (jW.at_ [1,1,0,1,0,0,1,0,0,1,1,1,0,0]) (MG.drop 2)) 80 (L1 y1 y3 (aI 0)) S (Ak 2 (Ak 1 (Av (vc Pg (jW.at_ [1,1,0,1,0,0,1,1]) (MG.drop 2)) (BV (Hc MQ KE0) (Ak 0 (Av (vc Pg (jW.at_ [1,1,1]) (MG.drop 2)) (Ao Pg r42 Q))))))))))) S) (Q (.ret (.v (.bool true))) S)
theorem ZD{y1:AV}{y30:AV}{S:Aa}{Q:Aq}(I:AV→Aa→Prop)(μ:AV→Aa→Nat)(h0:I y30 S)(hr:BS (fun y3=>L2 y1 y3) 80 I μ fun y3 S KE0=>uE y1 y3 S KE0 Q):
 Ap MQ (vc Pg (jW.at_ [1,1,0,1,0,0]) (MG.drop 1)) 80 (L2 y1 y30) S (Ak 0 (Av (vc Pg (jW.at_ [1,1,1]) (MG.drop 2)) (Ao Pg r42 Q))):=DQ 1 (fun _=>rfl) (fun _ _ _=>by kernel_rfl) h0 hr
def uD(y1 y3 y6:AV)(S:Aa)(KE1:By)(KE0:By)(Q:Aq):Prop:=
 bin .lss 0 y6 y3 S fun a S=>Fi a ((fun S0:Aa=>Lq S0 (shift y1 1) fun c=>Lq S0 (Ay c) fun d=>Lq S0 (AS 130 2 d y6) fun e=>Lq S0 (AB 2 e) fun f=>Lq S0 (shift y1 1) fun g=>Lq S0 (Ay g) fun h=>Lq S0 (AS 130 2 h y3) fun i=>Lq S0 (AB 2 i) fun k=>Lq S0 (Xf .i64 .eql f k) fun l=>Fi l (Q (.ret (.v (.bool false))) S) (bin .add 0 y6 (aI 1) S fun m S=>KE1 80 (L1 y1 y3 m) S)) S) (bin .add 0 y3 (aI 1) S fun n S=>KE0 80 (L2 y1 n) S)
theorem ZC{y1 y3:AV}{y60:AV}{S:Aa}{KE0:By}{Q:Aq}(I:AV→Aa→Prop)(μ:AV→Aa→Nat)(h0:I y60 S)(hr:BS (fun y6=>L1 y1 y3 y6) 80 I μ fun y6 S KE1=>uD y1 y3 y6 S KE1 KE0 Q):
 Ap Th (vc Pg (jW.at_ [1,1,0,1,0,0,1,0,0,1,1,1,0,0]) (MG.drop 2)) 80 (L1 y1 y3 y60) S (Ak 2 (Ak 1 (Av (vc Pg (jW.at_ [1,1,0,1,0,0,1,1]) (MG.drop 2)) (BV (Hc MQ KE0) (Ak 0 (Av (vc Pg (jW.at_ [1,1,1]) (MG.drop 2)) (Ao Pg r42 Q))))))):=DQ 2 (fun _=>rfl) (fun _ _ _=>by kernel_rfl) h0 hr
def c84:Code:=(Tryz.f84.body).getD .skip
def r84:List ResultVar:=Tryz.f84.results.toList
def LS(y1 y2 y3 y6 y9:AV):List AV:=[y1,y2,y3,y6,y9]
def SO:List Nat:=[1,2,3,6,9]
def Yl:List (List Nat):=[SO,[]]
abbrev YP(a:AV)(S:Aa)(c d:AV)(Q:Aq)(e:AV):Prop:=bin .eql 0 a (aI 1) S fun f S=>Fi f (AB 2 c S fun g S=>A8 2 d g S fun h S=>AB 2 d S fun i _=>Q (.ret (.t [i,e,aI 0])) S) (bin .eql 0 e a S fun k S=>Fi k (AB 2 c S fun l S=>A8 2 d l S fun m S=>AB 2 d S fun n _=>Q (.ret (.t [n,e,aI 0])) S) (Ap SO (vc Pg (c84.at_ [1,1,1,1,0,1,0,0]) (Yl.drop 1)) 105 (LS e a c d (aI 0)) S (Ak 1 (Av (vc Pg (c84.at_ [1,1,1,1,1]) (Yl.drop 1)) (Ao Pg r84 Q)))))
abbrev UK(S:Aa)(a:AV)(Q:Aq):Prop:=CD [(0,1),(1,1)] [aI 0,.nl] [] S fun c S=>A8 2 a c S fun d S=>AB 2 a S fun e _=>Q (.ret (.t [e,aI 0,aI 1])) S
def m84(x0 x1 x2:AV)(S:Aa)(Q:Aq):Prop:=
 Az 61 2 x0 S fun c S=>Az 61 2 (.a [aI 0,.nl]) S fun d S=>AB 2 c S fun e S=>Ah Pg 42 [e] S Q fun f S=>un .not f S fun g S=>Fi g (UK S d Q) (AB 2 c S fun h S=>Ah Pg 43 [h,x1] S Q fun i S=>un .not i S fun k S=>Fi k (UK S d Q) (AB 2 c S fun l S=>Ah Pg 43 [l,x2] S Q fun m S=>un .not m S fun n S=>Fi n (UK S d Q) (VT true x1 x2 S fun o S=>VT false x1 x2 S fun p S=>bin .eql 0 p (aI 0) S fun q S=>Fi q (AB 2 c S fun r S=>A8 2 d r S fun s S=>AB 2 d S fun u _=>Q (.ret (.t [u,aI 0,aI 0])) S) (bin .quo 0 o (aI 2) S fun v S=>bin .quo 0 p (aI 2) S fun w S=>bin .eql 0 v w S fun x S=>Fi x (bin .neq 0 o p S fun y S=>Fi y (AB 2 c S fun z S=>A8 2 d z S fun A S=>AB 2 d S fun B _=>Q (.ret (.t [B,aI 0,aI 0])) S) (YP p S c d Q o)) (YP p S c d Q o)))))
theorem nE{x0 x1 x2:AV}{S:Aa}{Q:Aq}(h:m84 x0 x1 x2 S Q):Ad Pg 84 [x0,x1,x2] S Q:=
 Bj (n:=105) Yl Tryz.func84 (by kernel_rfl) (Eq.mpr (by kernel_rfl) h)
def tH(y1 y2 y3 y6 y9:AV)(S:Aa)(KE0:By)(Q:Aq):Prop:=
 Lf y3 1 S fun c S=>AF c S fun d S=>bin .lss 0 y9 d S fun e S=>Fi e (Lf y3 1 S fun f S=>AS 130 2 f y9 S fun g S=>AB 2 g S fun h S=>CD [(0,1),(1,1)] [aI 0,aI 0] [(0,y1),(1,y2)] S fun i S=>Xf .i64 .eql h i S fun k S=>Fi k (Lt S (AB 2 y3) fun l=>Lt S (shift y3 0) fun m=>Lt S (Ay m) fun n=>Lt S (bin .add 0 n (aI 1)) fun o=>Lt S (bin .add 0 o y9) fun p=>Lt S (bin .mul 0 (aI 2) p) fun q=>A8 2 y6 l S fun r S=>(∀ T:Aa,Am S T→bin .mul 0 (aI 2) p T fun s S=>s=q∧S=T)∧(∀ T:Aa,Am S T→bin .add 0 o y9 T fun u S=>u=p∧S=T)∧(∀ T:Aa,Am S T→bin .add 0 n (aI 1) T fun v S=>v=o∧S=T)∧(∀ T:Aa,Am S T→Ay m T fun w S=>w=n∧S=T)∧(∀ T:Aa,Am S T→shift y3 0 T fun x S=>x=m∧S=T)∧AB 2 y6 S fun y _=>Q (.ret (.t [y,q,aI 0])) S) (bin .add 0 y9 (aI 1) S fun z S=>KE0 105 (LS y1 y2 y3 y6 z) S)) (AB 2 y3 S fun A S=>Ah Pg 16 [A] S Q fun B S=>bin .geq 0 B (aI 2000) S fun C S=>Fi C (CD [(0,1),(1,1)] [aI 0,.nl] [] S fun D S=>A8 2 y6 D S fun E S=>AB 2 y6 S fun F _=>Q (.ret (.t [F,aI 0,aI 2])) S) (Az 61 2 (.a [aI 0,.nl]) S fun G S=>Lf y3 0 S fun H S=>shift G 0 S fun I S=>A8 1 I H S fun J S=>Lf G 1 S fun K S=>Lf y3 1 S fun L S=>Bo 130 2 16 K L S fun M S=>CD [(0,1),(1,1)] [aI 0,aI 0] [(0,y1),(1,y2)] S fun N S=>AU 130 2 1 [aI 0,aI 0] [(0,N)] S fun O S=>Bo 130 2 16 M O S fun P S=>shift G 1 S fun R S=>A8 1 R P S fun U S=>Lt S (AB 2 G) fun V=>Lt S (AB 2 G) fun W=>Lc S 16 [W] fun X=>Lt S (bin .mul 0 (aI 2) X) fun Y=>Lt S (bin .sub 0 Y (aI 2)) fun Z=>A8 2 y6 V S fun a0 S=>(∀ T:Aa,Am S T→bin .sub 0 Y (aI 2) T fun a1 S=>a1=Z∧S=T)∧(∀ T:Aa,Am S T→bin .mul 0 (aI 2) X T fun a2 S=>a2=Y∧S=T)∧AB 2 y6 S fun a3 _=>Q (.ret (.t [a3,Z,aI 0])) S))
theorem Zf{y1 y2 y3 y6:AV}{y90:AV}{S:Aa}{Q:Aq}(I:AV→Aa→Prop)(μ:AV→Aa→Nat)(h0:I y90 S)(hr:BS (fun y9=>LS y1 y2 y3 y6 y9) 105 I μ fun y9 S KE0=>tH y1 y2 y3 y6 y9 S KE0 Q):
 Ap SO (vc Pg (c84.at_ [1,1,1,1,0,1,0,0]) (Yl.drop 1)) 105 (LS y1 y2 y3 y6 y90) S (Ak 1 (Av (vc Pg (c84.at_ [1,1,1,1,1]) (Yl.drop 1)) (Ao Pg r84 Q))):=DQ 4 (fun _=>rfl) (fun _ _ _=>by kernel_rfl) h0 hr
def AeW:Code:=(Tryz.f181.body).getD .skip
def AaN:List ResultVar:=Tryz.f181.results.toList
def HF(y0 y13 y14 y15:AV):List AV:=[y0,y13,y14,y15]
def O9:List Nat:=[0,13,14,15]
def YE:List (List Nat):=[O9,[]]
def AcC(x0:AV)(S:Aa)(Q:Aq):Prop:=
 YG (.p .i64) S fun a S=>AI x0 S fun c S=>shift c 4 S fun d S=>A8 1 d a S fun e S=>AI x0 S fun f S=>Lf f 3 S fun g S=>AF g S fun h S=>Ap O9 (vc Pg (AeW.at_ [1,1,0,0]) (YE.drop 1)) 38 (HF x0 g h (aI 0)) S (Ak 0 (Ao Pg AaN Q))
theorem bL{x0:AV}{S:Aa}{Q:Aq}(h:AcC x0 S Q):Ad Pg 181 [x0] S Q:=
 Bj (n:=38) YE Tryz.func181 (by kernel_rfl) (Eq.mpr (by kernel_rfl) h)
def eY(y0 y13 y14 y15:AV)(S:Aa)(KE0:By)(Q:Aq):Prop:=
 bin .lss 0 y15 y14 S fun c S=>Fi c (AS 130 2 y13 y15 S fun d S=>AB 2 d S fun e S=>Az 130 2 (.a [aI 0,aI 0]) S fun f S=>A8 2 f e S fun g S=>(fun S0:Aa=>Lq S0 (AI y0) fun h=>Lq S0 (shift h 4) fun i=>Lq S0 (Ay i) fun k=>Lq S0 (AB 2 f) fun l=>Lq S0 (UW (.p .i64) (aI 0) true k l) fun m=>Lq S0 (AZ m 0) fun n=>Lq S0 (AZ m 1) fun o=>un .not o S fun q S=>Fi q (Lt S (AI y0) fun r=>Lt S (shift r 4) fun s=>Lt S (Ay s) fun u=>Lt S (AB 2 f) fun v=>Hf (.p .i64) u v y15 S fun w S=>bin .add 0 y15 (aI 1) S fun x S=>KE0 38 (HF y0 y13 y14 x) S) (bin .add 0 y15 (aI 1) S fun y S=>KE0 38 (HF y0 y13 y14 y) S)) S) (Q (.ret (.t [])) S)
theorem V6{y0 y13 y14:AV}{y150:AV}{S:Aa}{Q:Aq}(I:AV→Aa→Prop)(μ:AV→Aa→Nat)(h0:I y150 S)(hr:BS (fun y15=>HF y0 y13 y14 y15) 38 I μ fun y15 S KE0=>eY y0 y13 y14 y15 S KE0 Q):
 Ap O9 (vc Pg (AeW.at_ [1,1,0,0]) (YE.drop 1)) 38 (HF y0 y13 y14 y150) S (Ak 0 (Ao Pg AaN Q)):=DQ 3 (fun _=>rfl) (fun _ _ _=>by kernel_rfl) h0 hr
def AcY(x0:AV)(S:Aa)(Q:Aq):Prop:=
 AI x0 S fun a S=>shift a 0 S fun c S=>Ah Pg 180 [c,(.f (.func 181) [x0] [])] S Q fun d S=>AI x0 S fun e S=>Lf e 4 S fun g S=>Tz g S fun h S=>Q (.ret h) S
theorem cH{x0:AV}{S:Aa}{Q:Aq}(h:AcY x0 S Q):Ad Pg 158 [x0] S Q:=
 Bj (n:=14) [[181,180]] Tryz.func158 (by kernel_rfl) (Eq.mpr (by kernel_rfl) h)
def qS:Code:=(Tryz.f134.body).getD .skip
def Ab3:List ResultVar:=Tryz.f134.results.toList
def J1(y1 y2 y27 y28 y29:AV):List AV:=[y1,y2,y27,y28,y29]
def Pw:List Nat:=[1,2,27,28,29]
def Q7:List (List Nat):=[Pw,[158]]
def AdK(x0 x1:AV)(S:Aa)(Q:Aq):Prop:=
 Az 61 2 x0 S fun a S=>Lf a 0 S fun c S=>bin .lss 0 c (aI 0) S fun d S=>Fi d (Q (.ret (.v (.bool false))) S) (Lf a 0 S fun e S=>bin .gtr 0 e (aI 2000) S fun f S=>Fi f (Q (.ret (.v (.bool false))) S) (Lf a 1 S fun g S=>AF g S fun h S=>bin .gtr 0 h (aI 2000) S fun i S=>Fi i (Q (.ret (.v (.bool false))) S) (AB 2 a S fun k S=>Ah Pg 133 [k] S Q fun l S=>bin .gtr 0 l (aI 2000) S fun m S=>Fi m (Q (.ret (.v (.bool false))) S) (Lf a 1 S fun n S=>AF n S fun o S=>Ap Pw (vc Pg (qS.at_ [1,1,0,1,0,0]) (Q7.drop 1)) 49 (J1 x1 a n o (aI 0)) S (Ak 0 (Av (vc Pg (qS.at_ [1,1,1]) (Q7.drop 1)) (Ao Pg Ab3 Q)))))))
theorem dC{x0 x1:AV}{S:Aa}{Q:Aq}(h:AdK x0 x1 S Q):Ad Pg 134 [x0,x1] S Q:=
 Bj (n:=49) Q7 Tryz.func134 (by kernel_rfl) (Eq.mpr (by kernel_rfl) h)
def fZ(y1 y2 y27 y28 y29:AV)(S:Aa)(KE0:By)(Q:Aq):Prop:=
 bin .lss 0 y29 y28 S fun c S=>Fi c (AS 130 2 y27 y29 S fun d S=>AB 2 d S fun e S=>Az 130 2 (.a [aI 0,aI 0]) S fun f S=>A8 2 f e S fun g S=>AB 2 f S fun h S=>Lf y2 0 S fun i S=>bin .add 0 i (aI 1) S fun k S=>bin .add 0 k y29 S fun l S=>Ah Pg 157 [h,l] S Q fun m S=>un .not m S fun n S=>Fi n (Q (.ret (.v (.bool false))) S) (bin .add 0 y29 (aI 1) S fun o S=>KE0 49 (J1 y1 y2 y27 y28 o) S)) (Lt S (shift y2 1) fun p=>Lt S (Ay p) fun q=>Lt S (AF q) fun r=>Ah Pg 158 [y1] S Q fun s S=>(∀ T:Aa,Am S T→AF q T fun t S=>t=r∧S=T)∧(∀ T:Aa,Am S T→Ay p T fun u S=>u=q∧S=T)∧(∀ T:Aa,Am S T→shift y2 1 T fun w S=>w=p∧S=T)∧Lt S (bin .eql 0 s r) fun x=>Q (.ret x) S)
theorem Wu{y1 y2 y27 y28:AV}{y290:AV}{S:Aa}{Q:Aq}(I:AV→Aa→Prop)(μ:AV→Aa→Nat)(h0:I y290 S)(hr:BS (fun y29=>J1 y1 y2 y27 y28 y29) 49 I μ fun y29 S KE0=>fZ y1 y2 y27 y28 y29 S KE0 Q):
 Ap Pw (vc Pg (qS.at_ [1,1,0,1,0,0]) (Q7.drop 1)) 49 (J1 y1 y2 y27 y28 y290) S (Ak 0 (Av (vc Pg (qS.at_ [1,1,1]) (Q7.drop 1)) (Ao Pg Ab3 Q))):=DQ 4 (fun _=>rfl) (fun _ _ _=>by kernel_rfl) h0 hr
def m98(x0:AV)(S:Aa)(Q:Aq):Prop:=
 Az 61 2 x0 S fun a S=>AB 2 a S fun c S=>Lf a 1 S fun d S=>CD [(0,3),(3,1),(4,1)] [.v (.int .u32 0),.v (.int .i32 0),.v (.int .u32 0),.nl,.v (.map none)] [(1,d)] S fun e S=>Az 182 5 e S fun f S=>Ah Pg 134 [c,f] S Q fun g S=>Q (.ret g) S
theorem mR{x0:AV}{S:Aa}{Q:Aq}(h:m98 x0 S Q):Ad Pg 98 [x0] S Q:=
 Bj (n:=9) [[134]] Tryz.func98 (by kernel_rfl) (Eq.mpr (by kernel_rfl) h)
def AdL(x0:AV)(S:Aa)(Q:Aq):Prop:=
 Az 61 2 x0 S fun a S=>Lf a 0 S fun c S=>bin .add 0 c (aI 1) S fun d S=>Lf a 1 S fun e S=>AF e S fun f S=>bin .add 0 d f S fun g S=>Q (.ret g) S
theorem dD{x0:AV}{S:Aa}{Q:Aq}(h:AdL x0 S Q):Ad Pg 133 [x0] S Q:=
 Bj (n:=10) [[]] Tryz.func133 (by kernel_rfl) (Eq.mpr (by kernel_rfl) h)
def AcZ(x0 x1:AV)(S:Aa)(Q:Aq):Prop:=
 Az 130 2 x0 S fun a S=>Iz 2 1 a (aI 1) S fun c S=>Ay c S fun d S=>bin .geq 0 d (aI 2) S fun e S=>Fi e (Iz 2 1 a (aI 0) S fun f S=>Ay f S fun g S=>bin .quo 0 g (aI 2) S fun h S=>Iz 2 1 a (aI 1) S fun i S=>Ay i S fun k S=>bin .quo 0 k (aI 2) S fun l S=>bin .gtr 0 h l S fun m S=>Fi m (Iz 2 1 a (aI 0) S fun n S=>Ay n S fun o S=>bin .quo 0 o (aI 2) S fun p S=>bin .lss 0 p x1 S fun q S=>Q (.ret q) S) (Q (.ret (.v (.bool false))) S)) (Q (.ret (.v (.bool false))) S)
theorem cI{x0 x1:AV}{S:Aa}{Q:Aq}(h:AcZ x0 x1 S Q):Ad Pg 157 [x0,x1] S Q:=
 Bj (n:=24) [[]] Tryz.func157 (by kernel_rfl) (Eq.mpr (by kernel_rfl) h)
def m96(x0 x1:AV)(S:Aa)(Q:Aq):Prop:=
 Az 61 2 x0 S fun a S=>Lf a 0 S fun c S=>bin .geq 0 c (aI 0) S fun d S=>Fi d (Lf a 0 S fun e S=>bin .leq 0 e (aI 2000) S fun f S=>Fi f (bin .geq 0 x1 (aI 0) S fun g S=>Fi g (bin .quo 0 x1 (aI 2) S fun h S=>AB 2 a S fun i S=>Ah Pg 133 [i] S Q fun k S=>bin .lss 0 h k S fun l S=>Q (.ret l) S) (Q (.ret (.v (.bool false))) S)) (Q (.ret (.v (.bool false))) S)) (Q (.ret (.v (.bool false))) S)
theorem mU{x0 x1:AV}{S:Aa}{Q:Aq}(h:m96 x0 x1 S Q):Ad Pg 96 [x0,x1] S Q:=
 Bj (n:=24) [[]] Tryz.func96 (by kernel_rfl) (Eq.mpr (by kernel_rfl) h)
def AgZ:Code:=(Tryz.f200.body).getD .skip
def AbU:List (List Nat):=[[208]]
def Ac2(x0:AV)(S:Aa)(Q:Aq):Prop:=
 AI x0 S fun a S=>shift a 0 S fun c S=>Ah Pg 208 [c] S Q fun d S=>Q (.ret (.t [])) S
def AgY:Code:=(Tryz.f201.body).getD .skip
def AbT:List (List Nat):=[[209]]
def Ac1(x0 x1:AV)(S:Aa)(Q:Aq):Prop:=
 Lt S (AI x0) fun a=>Lt S (shift a 0) fun c=>Lc S 210 [x1] fun d=>Ah Pg 209 [c,d] S Q fun e S=>Q (.ret (.t [])) S
def Ac4(x0:AV)(S:Aa)(Q:Aq):Prop:=
 AI x0 S fun a S=>shift a 0 S fun c S=>Ah Pg 198 [c] S Q fun d S=>bin .neq 0 d (.v (.int .u32 0)) S fun e S=>Q (.ret e) S
theorem bD{x0:AV}{S:Aa}{Q:Aq}(h:Ac4 x0 S Q):Ad Pg 192 [x0] S Q:=
 Bj (n:=8) [[]] Tryz.func192 (by kernel_rfl) (Eq.mpr (by kernel_rfl) h)
def Ac3(x0:AV)(S:Aa)(Q:Aq):Prop:=
 AI x0 S fun a S=>shift a 0 S fun c S=>Ah Pg 207 [c] S Q fun d S=>Q (.ret (.t [])) S
theorem bB{x0:AV}{S:Aa}{Q:Aq}(h:Ac3 x0 S Q):Ad Pg 199 [x0] S Q:=
 Bj (n:=6) [[207]] Tryz.func199 (by kernel_rfl) (Eq.mpr (by kernel_rfl) h)
def Ac0(x0:AV)(S:Aa)(Q:Aq):Prop:=
 Ah Pg 213 [] S Q fun a S=>AI x0 S fun c S=>shift c 0 S fun d S=>Ah Pg 214 [d,.v (.int .i32 0),.v (.int .i32 1)] S Q fun e S=>Fi e (Ah Pg 215 [] S Q fun f S=>aU x0 S fun g S=>Ah Pg 216 [g] S Q fun h S=>Q (.ret (.t [])) S) (Ah Pg 217 [x0] S Q fun i S=>Q (.ret (.t [])) S)
theorem bA{x0:AV}{S:Aa}{Q:Aq}(h:Ac0 x0 S Q):Ad Pg 207 [x0] S Q:=
 Bj (n:=13) [[214]] Tryz.func207 (by kernel_rfl) (Eq.mpr (by kernel_rfl) h)
def AbZ(x0:AV)(S:Aa)(Q:Aq):Prop:=
 AI x0 S fun a S=>Lf a 0 S fun c S=>aU x0 S fun d S=>Ah Pg 218 [d] S Q fun e S=>Ah Pg 213 [] S Q fun f S=>AI x0 S fun g S=>shift g 0 S fun h S=>Ah Pg 219 [h,.v (.int .i32 (-1))] S Q fun i S=>bin .neq 0 i (.v (.int .i32 0)) S fun k S=>Fi k (Ah Pg 220 [x0,i] S Q fun l S=>Ah Pg 215 [] S Q fun m S=>Q (.ret (.t [])) S) (Ah Pg 215 [] S Q fun n S=>Q (.ret (.t [])) S)
theorem a8{x0:AV}{S:Aa}{Q:Aq}(h:AbZ x0 S Q):Ad Pg 208 [x0] S Q:=
 Bj (n:=21) [[219]] Tryz.func208 (by kernel_rfl) (Eq.mpr (by kernel_rfl) h)
def AbY(x0:AV)(S:Aa)(Q:Aq):Prop:=
 Fi x0 (Q (.ret (.v (.int .u32 1))) S) (Q (.ret (.v (.int .u32 0))) S)
theorem aZ{x0:AV}{S:Aa}{Q:Aq}(h:AbY x0 S Q):Ad Pg 210 [x0] S Q:=
 Bj (n:=4) [[]] Tryz.func210 (by kernel_rfl) (Eq.mpr (by kernel_rfl) h)
def AcD(x0 x1:AV)(S:Aa)(Q:Aq):Prop:=
 AI x0 S fun a S=>shift a 0 S fun c S=>Ah Pg 192 [c] S Q fun d S=>un .not d S fun e S=>Fi e (Ah Pg 193 [x0,x1] S Q fun f S=>Q (.ret (.t [])) S) (Q (.ret (.t [])) S)
theorem bM{x0 x1:AV}{S:Aa}{Q:Aq}(h:AcD x0 x1 S Q):Ad Pg 180 [x0,x1] S Q:=
 Bj (n:=12) [[193]] Tryz.func180 (by kernel_rfl) (Eq.mpr (by kernel_rfl) h)
end
def AeV:Code:=(Tryz.f193.body).getD .skip
def AgP:List ResultVar:=Tryz.f193.results.toList
def xD(x0 x1:AV)(S:Aa)(Q:Bh→Aa→Prop):Prop:=
 AI x0 S fun v1 S=>shift v1 1 S fun v2 S=>Ah Pg 199 [v2] S (fun _ _=>False) fun v3 S=>AI x0 S fun v4 S=>shift v4 1 S fun v5 S=>AI x0 S fun v6 S=>shift v6 0 S fun v7 S=>Ah Pg 192 [v7] S (fun _ _=>False) fun v8 S=>un .not v8 S fun v9 S=>KC v9 fun b10 =>
  gd b10 (AI x0 S fun v11 S=>shift v11 0 S fun v12 S=>Bg Pg x1 [] S (fun v13 S=>EA Pg 201 [v12,.v (.bool true)] S fun e S=>match e with
      |.ret _=>EA Pg 200 [v5] S fun e S=>match e with|.ret _=>Q (.ret (.t [])) S|.pan _=>False
      |.pan _=>False) (fun _ _=>False))
   (EA Pg 200 [v5] S fun e S=>match e with|.ret _=>Q (.ret (.t [])) S|.pan _=>False)
set_option maxRecDepth 100000 in
theorem lH:(fun(x0 x1:AV) (S:Aa) (Q:Bh→Aa→Prop)=>j1 Pg AeV [] (Gy 21 [x0,x1]) S [] (tA Pg AgP Q))=(fun(x0 x1:AV) (S:Aa) (Q:Bh→Aa→Prop)=>xD x0 x1 S Q):=by kernel_rfl
theorem bC{x0 x1:AV}{S:Aa}{Q:Bh→Aa→Prop}(h:xD x0 x1 S Q):Ad Pg 193 [x0,x1] S Q:=
 PZ (fn:=Tryz.f193) (c:=AeV) (n:=21) Tryz.func193 (by kernel_rfl) (by kernel_rfl) (by kernel_rfl) [] ((congrFun (congrFun (congrFun (congrFun lH x0) x1) S) Q).mpr h)
theorem W7{x0:AV}{S:Aa}{Q:Bh→Aa→Prop}(h:Ac2 x0 S Q):EA Pg 200 [x0] S Q:=
 J8 (fn:=Tryz.f200) (c:=AgZ) (n:=6) Tryz.func200 (by kernel_rfl) (by kernel_rfl) (by kernel_rfl) AbU (Eq.mpr (by kernel_rfl) h)
theorem W6{x0 x1:AV}{S:Aa}{Q:Bh→Aa→Prop}(h:Ac1 x0 x1 S Q):EA Pg 201 [x0,x1] S Q:=
 J8 (fn:=Tryz.f201) (c:=AgY) (n:=10) Tryz.func201 (by kernel_rfl) (by kernel_rfl) (by kernel_rfl) AbT (Eq.mpr (by kernel_rfl) h)
theorem AbM:DK Pg 213 Tryz.f213:=⟨Tryz.func213,by kernel_rfl,by kernel_rfl,by kernel_rfl⟩
theorem AbK:DK Pg 215 Tryz.f215:=⟨Tryz.func215,by kernel_rfl,by kernel_rfl,by kernel_rfl⟩
theorem AbJ:DK Pg 216 Tryz.f216:=⟨Tryz.func216,by kernel_rfl,by kernel_rfl,by kernel_rfl⟩
theorem AbI:DK Pg 218 Tryz.f218:=⟨Tryz.func218,by kernel_rfl,by kernel_rfl,by kernel_rfl⟩
theorem AbO:DK Pg 198 Tryz.f198:=⟨Tryz.func198,by kernel_rfl,by kernel_rfl,by kernel_rfl⟩
theorem AbN:DK Pg 209 Tryz.f209:=⟨Tryz.func209,by kernel_rfl,by kernel_rfl,by kernel_rfl⟩
theorem AbL:DK Pg 214 Tryz.f214:=⟨Tryz.func214,by kernel_rfl,by kernel_rfl,by kernel_rfl⟩
theorem AbH:DK Pg 219 Tryz.f219:=⟨Tryz.func219,by kernel_rfl,by kernel_rfl,by kernel_rfl⟩
abbrev T8(n:Int):AV:=.v (.int .u32 n)
abbrev T9(n:Int):AV:=.v (.int .i32 n)
section
variable {S:Aa} {Q:Bh→Aa→Prop}
theorem UI{Q:Bh→Aa→Prop}{K:AV→Aa→Prop}(k:K (.t []) S):Ah Pg 213 [] S Q K:=.inr (Ok AbM .disable (by kernel_rfl) k)
theorem UH{K:AV→Aa→Prop}(k:K (.t []) S):Ah Pg 215 [] S Q K:=.inr (Ok AbK .enable (by kernel_rfl) k)
theorem lE{K:AV→Aa→Prop}{id i j:Nat}(k:K (.t []) S):Ah Pg 216 [.p id i j] S Q K:=.inr (Oj AbJ .acquire (by kernel_rfl) k)
theorem lD{K:AV→Aa→Prop}{id i j:Nat}(k:K (.t []) S):Ah Pg 218 [.p id i j] S Q K:=.inr (Oj AbI .releaseMerge (by kernel_rfl) k)
end
@[simp] theorem AH(id i j:Nat)(S:Aa)(K:AV→Aa→Prop):AI (.p id i j) S K=K (.p id i j) S:=rfl
theorem Gm(S:Aa)(id:Nat)(o o':Bw):(S.Dl id o).Dl id o'=S.Dl id o':=by
 unfold Aa.Dl
 congr 1
 funext i
 by_cases h:i=id<;>simp[h]
theorem Qs{S:Aa}{id:Nat}{o:Bw}(h:S.obj id=some o):S.Dl id o=S:=by
 cases S with
 |mk n obj =>
  unfold Aa.Dl
  congr 1
  funext i
  by_cases e:i=id
  ·subst e;simp only[if_pos rfl];exact h.symm
  ·simp[e]
def DS(t:TypeId)(done st:Int)(z:AV)(c:List AV):Bw:=.cells t [T8 done :: T9 st :: z :: c] true
section
variable {S:Aa} {Q:Bh→Aa→Prop} {id t:Nat} {done st:Int} {z:AV} {c:List AV}
theorem N8(h:S.obj id=some (DS t done st z c))(k:Q (.ret (aB (!decide (done=0)))) S):Ad Pg 192 [.p id 0 0] S Q:=by
 refine bD ?_
 unfold Ac4
 rw[AH,Ac]
 refine .inr (aK AbO .u32 (by kernel_rfl) h rfl rfl ?_)
 show bin .neq 0 (T8 done) (T8 0) S _
 rw[Bl]
 exact k
theorem WO(h:S.obj id=some (DS t done 0 z c))(k:Q (.ret (.t [])) (S.Dl id (DS t done 1 z c))):Ad Pg 199 [.p id 0 1] S Q:=by
 refine bB ?_
 unfold Ac3
 rw[AH,Ac]
 refine .inl (bA ?_)
 dsimp only[Ac0,Fi]
 refine UI ?_
 rw[AH,Ac]
 refine .inr (mD AbL .i32 (by kernel_rfl) h rfl rfl ?_)
 show KC _ _
 rw[Ag,Bf]
 refine UH ⟨T9 1,?_,lE k⟩
 simp[Sq,place,Aa.get]
theorem Qt(h:S.obj id=some (DS t done 1 z c))(k:Q (.ret (.t [])) (S.Dl id (DS t done 0 z c))):EA Pg 200 [.p id 0 1] S Q:=by
 refine W7 ?_
 unfold Ac2
 rw[AH,Ac]
 refine .inl (a8 ?_)
 dsimp only[AbZ,Fi,Lf]
 rw[AH,Ac,Ae h rfl rfl]
 refine⟨T9 1,by simp[Sq,place,Aa.get,h,DS],lD (UI ?_)⟩
 rw[AH,Ac]
 refine .inr (mE AbH .i32 (by kernel_rfl) h rfl rfl ?_)
 show bin .neq 0 (T9 (IntKind.i32.wrap (1 + -1))) (T9 0) _ _
 have:IntKind.i32.wrap (1 + -1)=0:=by decide
 rw[this,Bl,Ag]
 simp only[decide_true,Bool.not_true,A2]
 exact UH k
theorem Sf(h:S.obj id=some (DS t done st z c))(k:Q (.ret (.t [])) (S.Dl id (DS t 1 st z c))):EA Pg 201 [.p id 0 0,aB true] S Q:=by
 refine W6 ?_
 dsimp only[Ac1,Lt,Lc]
 have hb:∀ T,Ad Pg 210 [aB true] T (fun e S'=>e = .ret (T8 1)∧S'=T):=fun T=>by
  refine aZ ?_
  dsimp only[AbY,Fi]
  rw[Ag,Bf]
  exact⟨rfl,rfl⟩
 refine⟨.p id 0 0,fun T _=>⟨rfl,rfl⟩,.p id 0 0,fun T _=>⟨rfl,rfl⟩,T8 1,fun T _=>At (hb T) ⟨rfl,rfl⟩,?_⟩
 exact .inr (W1 AbN (by kernel_rfl) h rfl rfl k)
theorem mK(h:S.obj id=some (DS t 0 0 z c)){f:AV}(hf:Bg Pg f [] (S.Dl id (DS t 0 1 z c)) (fun _ S2=>∃ c',S2.obj id=some (DS t 0 1 z c')∧Q (.ret (.t [])) (S2.Dl id (DS t 1 0 z c'))) (fun _ _=>False)):Ad Pg 180 [.p id 0 0,f] S Q:=by
 refine bM ?_
 dsimp only[AcD,Fi]
 rw[AH,Ac]
 refine .inl (N8 h ?_)
 show un .not (aB (!decide ((0:Int)=0))) S _
 rw[AJ,Ag]
 refine .inl (bC ?_)
 unfold xD
 rw[AH,Ac]
 refine .inl (WO h ?_)
 show AI _ _ _
 rw[AH,Ac,AH,Ac]
 refine .inl (N8 (BG _ _) ?_)
 show un .not (aB (!decide ((0:Int)=0))) _ _
 rw[AJ,Ag]
 show gd true _ _
 rw[Bf,AH,Ac]
 refine TP hf (fun v S2 h2=>?_) (fun _ _ h=>h)
 obtain⟨c',h3,h4⟩:=h2
 refine Sf h3 (Qt (BG _ _) ?_)
 show Q (.ret (.t [])) _
 rw[Gm]
 exact h4
end
def pL(l:List (Int × Int)):AV:=.l (l.map fun p=>[aI p.1,aI p.2])
structure Gr where
 inputs:Int
 ands:List (Int × Int)
 deriving DecidableEq
def Gr.cells(g:Gr):List AV:=[aI g.inputs,pL g.ands]
def Gr.av(g:Gr):AV:=.a g.cells
def Gr.vars(g:Gr):Int:=g.inputs+1+g.ands.length
def Bv(a:Int):Prop:=-9223372036854775808≤a∧a≤9223372036854775807
structure Gr.ok (g:Gr):Prop where
 inp:Bv g.inputs
 len:g.ands.length≤1000000
 pairs:∀ p∈g.ands,Bv p.1∧Bv p.2
def may(p:Int × Int)(v:Int):Bool:=decide (2≤p.2) && (decide (p.2.tdiv 2<p.1.tdiv 2) && decide (p.1.tdiv 2<v))
def Gr.right(g:Gr):Bool:=decide (0≤g.inputs) && (decide (g.inputs≤2000) && (decide ((g.ands.length:Int)≤2000) && (decide (g.vars≤2000) &&
 ((List.range g.ands.length).all (fun i=>may (g.ands.getD i (0,0)) (g.inputs+1+i)) && decide g.ands.Nodup))))
def Gr.lit(g:Gr)(l:Int):Bool:=decide (0≤g.inputs) && (decide (g.inputs≤2000) && (decide (0≤l) && decide (l.tdiv 2<g.vars)))
@[simp] theorem Bz(l:List (Int × Int)){S:Aa}{K:AV→Aa→Prop}:AF (pL l) S K=K (aI l.length) S:=by simp[pL]
theorem C6{l:List (Int × Int)}{e i:Nat}{S:Aa}{K:AV→Aa→Prop}(h:i<l.length):AS e 2 (pL l) (aI i) S K=K (.q [aI l[i].1,aI l[i].2] 0) S:=by
 unfold pL
 rw[IK (by simpa using h) (by simp)]
 simp
@[simp] theorem GD{u v:AV}{S:Aa}{K:AV→Aa→Prop}:AB 2 (.q [u,v] 0) S K=K (.a [u,v]) S:=by simp[AB,Xp,place]
theorem sC{a:Int}(h:Bv a):-9223372036854775808≤a.tdiv 2∧a.tdiv 2≤9223372036854775807:=by
 obtain⟨h1,h2⟩:=h
 rcases Int.le_total 0 a with h|h
 ·rw[Ai0 h];omega
 ·have:a.tdiv 2 = -((-a).tdiv 2):=by rw[Int.neg_tdiv,Int.neg_neg]
  rw[this,Ai0 (by omega)];omega
theorem Cc{a:Int}(h:Bv a){S:Aa}{K:AV→Aa→Prop}:bin .quo 0 (aI a) (.v (.int .i64 2)) S K=K (aI (a.tdiv 2)) S:=Fy (by decide) (sC h).1 (sC h).2 0
theorem M2{n sz id:Nat}{z:Nat}{S:Aa}{K:AV→Aa→Prop}(hz:z<n):Iz n sz (.p id 0 0) (aI z) S K=K (.p id 0 (z*sz)) S:=by
 unfold Iz
 simp only[Aw,BP,Ai1,Ac,AhZ]
 exact propext ⟨fun h=>h.2,fun h=>⟨⟨by omega,by omega⟩,h⟩⟩
theorem iU{g:Gr}(hg:g.ok)(hi:g.inputs≤1000000)(h0:0≤g.inputs):BF Pg 133 [g.av] (aI g.vars):=by
 intro S
 have hl:=hg.len
 refine Ad.Bu (dD ?_)
 dsimp only[AdL,Lf];unfold Gr.av
 refine Ai rfl fun S1 k1 n1 o1=>?_
 rw[Ac,Ae o1 rfl rfl,Ar (by omega) (by omega),Ac,Ae o1 rfl rfl,Bz,Ar (by omega) (by omega)]
 exact⟨rfl,k1⟩
theorem yO{p:Int × Int}{v:Int}(h:Bv p.1∧Bv p.2):BF Pg 157 [.a [aI p.1,aI p.2],aI v] (aB (may p v)):=by
 intro S
 refine Ad.Bu (cI ?_)
 dsimp only[AcZ,Fi];unfold may
 refine Ai rfl fun S1 k1 n1 o1=>?_
 have e1:∀ K:AV→Aa→Prop,Iz 2 1 (.p S.n 0 0) (.v (.int .i64 1)) S1 K=K (.p S.n 0 1) S1:=fun K=>M2 (z:=1) (by decide)
 have e0:∀ K:AV→Aa→Prop,Iz 2 1 (.p S.n 0 0) (.v (.int .i64 0)) S1 K=K (.p S.n 0 0) S1:=fun K=>M2 (z:=0) (by decide)
 rw[e1,Ae o1 rfl rfl,BH,Ag]
 refine Al (fun h1=>?_) (fun h1=>⟨by simp only[h1,AhV],k1⟩)
 rw[e0,Ae o1 rfl rfl,Cc h.1,e1,Ae o1 rfl rfl,Cc h.2,AO,Ag]
 refine Al (fun h2=>?_) (fun h2=>⟨by simp only[h1,h2,AhV,AhQ],k1⟩)
 rw[e0,Ae o1 rfl rfl,Cc h.1,As]
 exact⟨by simp only[h1,h2,AhQ],k1⟩
theorem u6{g:Gr}{l:Int}(hg:g.ok)(hl:Bv l):BF Pg 96 [g.av,aI l] (aB (g.lit l)):=by
 intro S
 refine Ad.Bu (mU ?_)
 dsimp only[m96,Fi,Lf];unfold Gr.av Gr.lit
 refine Ai rfl fun S1 k1 n1 o1=>?_
 rw[Ac,Ae o1 rfl rfl,BH,Ag]
 refine Al (fun h1=>?_) (fun h1=>⟨by simp only[h1,AhV],k1⟩)
 rw[Ac,Ae o1 rfl rfl,Di,Ag]
 refine Al (fun h2=>?_) (fun h2=>⟨by simp only[h1,h2,AhV,AhQ],k1⟩)
 rw[BH,Ag]
 refine Al (fun h3=>?_) (fun h3=>⟨by simp only[h1,h2,h3,AhV,AhQ],k1⟩)
 rw[Cc hl,An (n:=2) o1 rfl]
 refine Af (iU hg (by have:=dT h2;omega) (dT h1)) ?_
 rw[As]
 exact⟨by simp only[h1,h2,h3,AhQ],k1⟩
def LO(l:List (Int × Int)):Nat→List (Key × AV)
 |0=>[]
 |i+1=>match H8 (LO l i) (.p (l.getD i (0,0)).1 (l.getD i (0,0)).2)with
  |some _=>LO l i
  |none=>LO l i ++ [(.p (l.getD i (0,0)).1 (l.getD i (0,0)).2,aI i)]
theorem FW{es:List (Key × AV)}{k:Key}:H8 es k=none↔k∉es.map (·.1):=by
 unfold H8
 rw[AiY]
 simp only[Ai5,not_exists,not_and]
 constructor
 ·intro h x hx e
  have:=h x hx
  simp[e]at this
 ·intro h x hx
  simpa using h x hx
theorem Ry{l:List (Int × Int)}:∀{i:Nat},i≤l.length→∀ k,k∈(LO l i).map (·.1)↔∃ p∈l.take i,k = .p p.1 p.2
 |0,_,k=>by simp[LO]
 |i+1,h,k=>by
  have ih:=Ry (l:=l) (i:=i) (by omega)
  have hi:i<l.length:=by omega
  have hg:l.getD i (0,0)=l[i]:=by simp[AhL,hi]
  rw[AiA,AhM hi]
  unfold LO
  rw[hg]
  split
  ·rename_i j hj
   rw[ih]
   have hm:Key.p l[i].1 l[i].2∈(LO l i).map (·.1):=by
    by_cases c:Key.p l[i].1 l[i].2∈(LO l i).map (·.1)
    ·exact c
    ·rw[FW.2 c]at hj;cases hj
   constructor
   ·rintro⟨p,hp,e⟩
    exact⟨p,AiP _ hp,e⟩
   ·rintro⟨p,hp,e⟩
    rcases Ai8.1 hp with hp|hp
    ·exact⟨p,hp,e⟩
    ·have:p=l[i]:=by simpa using hp
     subst this
     rw[e];exact(ih _).1 hm
  ·rw[AhU,Ai8,ih]
   constructor
   ·rintro(⟨p,hp,e⟩|hk)
    ·exact⟨p,AiP _ hp,e⟩
    ·exact⟨l[i],List.mem_append_right _ (by simp),by simpa using hk⟩
   ·rintro⟨p,hp,e⟩
    rcases Ai8.1 hp with hp|hp
    ·exact .inl ⟨p,hp,e⟩
    ·have:p=l[i]:=by simpa using hp
     subst this
     exact .inr (by simp[e])
theorem aC(l:List (Int × Int)):∀ i:Nat,(LO l i).length≤i
 |0=>AhN _
 |i+1=>by
  have:=aC l i
  unfold LO
  split
  ·omega
  ·simp;omega
theorem U5{l:List (Int × Int)}:∀{i:Nat},i≤l.length→((LO l i).length=i↔(l.take i).Nodup)
 |0,_=>by simp[LO]
 |i+1,h=>by
  have ih:=U5 (l:=l) (i:=i) (by omega)
  have hi:i<l.length:=by omega
  have hk:=Ry (l:=l) (i:=i) (by omega) (.p l[i].1 l[i].2)
  have hle:=aC l i
  have hg:l.getD i (0,0)=l[i]:=by simp[AhL,hi]
  rw[AiA,AhM hi,Aj0]
  unfold LO
  rw[hg]
  split
  ·rename_i j hj
   have hm:Key.p l[i].1 l[i].2∈(LO l i).map (·.1):=by
    by_cases c:Key.p l[i].1 l[i].2∈(LO l i).map (·.1)
    ·exact c
    ·rw[FW.2 c]at hj;cases hj
   obtain⟨p,hp,e⟩:=hk.1 hm
   constructor
   ·intro h;omega
   ·rintro⟨_,_,h3⟩
    refine absurd ?_ (h3 p hp l[i] (by simp))
    simp only[Key.p.injEq]at e
    exact Prod.ext e.1.symm e.2.symm
  ·rename_i hn
   rw[FW,hk]at hn
   rw[Ai2,AiG,Nat.add_right_cancel_iff,ih]
   constructor
   ·intro h
    refine⟨h,by simp,fun a ha b hb=>?_⟩
    have:b=l[i]:=by simpa using hb
    subst this
    rintro rfl
    exact hn ⟨_,ha,rfl⟩
   ·exact fun h=>h.1
@[simp] theorem Co{x:AV}{l:List AV}{S:Aa}{K:AV→Aa→Prop}:AZ (.t (x :: l)) 0 S K=K x S:=by simp[AZ]
@[simp] theorem Cn{x y:AV}{l:List AV}{S:Aa}{K:AV→Aa→Prop}:AZ (.t (x :: y :: l)) 1 S K=K y S:=by simp[AZ]
@[simp] theorem JH{x y z:AV}{l:List AV}{S:Aa}{K:AV→Aa→Prop}:AZ (.t (x :: y :: z :: l)) 2 S K=K z S:=by simp[AZ]
theorem AeH{S:Aa}{kk:KK}{z:AV}{c:Bool}{id:Nat}{k:AV}{key:Key}{es:List (Key × AV)}{lv:Bool}{K:AV→Aa→Prop}(h:S.obj id=some (.map kk es lv))(hk:Hx kk k=some key):UW kk z c (.m id) k S K=K (jU z c (Jf es key)) S:=by
 simp[UW,Ol,h,hk]
theorem FD{S:Aa}{kk:KK}{id:Nat}{k v:AV}{key:Key}{es:List (Key × AV)}{K:AV→Aa→Prop}(h:S.obj id=some (.map kk es true))(hk:Hx kk k=some key):Hf kk (.m id) k v S K=K .j (S.Dl id (.map kk (CW es key v) true)):=by
 simp[Hf,h,hk]
theorem Z1{S:Aa}{kk:KK}{id:Nat}{es:List (Key × AV)}{lv:Bool}{K:AV→Aa→Prop}(h:S.obj id=some (.map kk es lv)):Tz (.m id) S K=K (aI es.length) S:=by
 simp[Tz,h]
theorem AeI(a b:Int):Hx (.p .i64) (.a [aI a,aI b])=some (.p a b):=by simp[Hx]
theorem Ty(es:List (Key × AV))(k:Key):(Jf es k).isSome=(H8 es k).isSome:=by
 cases h:H8 es k with
 |none=>simp[Jf,h]
 |some i =>
  obtain⟨e,h1,h2⟩:=UT (kk:=.s) h
  simp[h2]
theorem VX{S:Aa}{id:Nat}{z g0:AV}{d st:Int}{l:List (Int × Int)}{Q:Bh→Aa→Prop}(hl:l.length≤1000000)(hid:id<S.n)(h:S.obj id=some (DS 182 d st z [pL l,g0]))
    (k:∀ S2 m,S.n≤S2.n→(∀ x,x<S.n→x≠id→S2.obj x=S.obj x)→m≠id→S2.obj id=some (DS 182 d st z [pL l,.m m])→S2.obj m=some (.map (.p .i64) (LO l l.length) true)→Q (.ret (.t [])) S2):
    Ad Pg 181 [.p id 0 0] S Q:=by
 refine bL ?_
 dsimp only[AcC,Lf];unfold YG
 have h':=(I3 (o:=.map (.p .i64) [] true) hid).trans h
 show AI _ _ _
 rw[AH,Ac]
 refine B4 h' (by simp) rfl fun S1 n1 o1 f1=>?_
 rw[AH,Ac,Ae o1 rfl rfl,Bz]
 have hm:S.n≠id:=by omega
 refine V6 (fun y S'=>S.n<S'.n∧(∀ x,x<S.n→x≠id→S'.obj x=S.obj x)∧S'.obj id=some (DS 182 d st z [pL l,.m S.n])∧∃ i:Nat,y=aI i∧i≤l.length∧S'.obj S.n=some (.map (.p .i64) (LO l i) true))
  (fun y _=>l.length - ((Aw y).getD 0).toNat) ⟨by rw[n1,AbR];omega,fun x hx hne=>by rw[f1 x hne,I3 hx],o1,0,rfl,AhS _,by rw[f1 _ hm,B1];rfl⟩ ?_
 dsimp only[BS]
 rintro _ S2 ⟨n2,f2,o2,i,rfl,hi,m2⟩ KE hKE
 dsimp only[eY,Fi,Lt,Lq]
 rw[As,Ag]
 refine Al (fun hlt=>?_) (fun hge=>?_)
 ·have hlt:i<l.length:=by simpa using hlt
  have hg:l.getD i (0,0)=l[i]:=by simp[AhL,hlt]
  rw[C6 hlt,GD]
  refine Ai rfl fun S3 k3 n3 o3=>?_
  refine AG o3 rfl rfl fun S4 n4 o4 f4=>?_
  have p4:S4.obj id=_:=(f4 id (by omega)).trans ((k3.2 id (by omega)).trans o2)
  have q4:S4.obj S.n=_:=(f4 S.n (by omega)).trans ((k3.2 S.n n2).trans m2)
  have r4:∀ x,x<S.n→x≠id→S4.obj x=S.obj x:=fun x hx hne=>(f4 x (by omega)).trans ((k3.2 x (by omega)).trans (f2 x hx hne))
  show ∃ q15:AV,_
  refine⟨_,by rw[AH];exact⟨rfl,rfl⟩,_,by rw[Ac];exact⟨rfl,rfl⟩,_,by rw[Ae p4 rfl rfl];exact⟨rfl,rfl⟩,_,by rw[An (n:=2) o4 rfl];exact⟨rfl,rfl⟩,_,by rw[AeH q4 (AeI _ _)];exact⟨rfl,rfl⟩,_,by rw[jU,Co];exact⟨rfl,rfl⟩,_,by rw[jU,Cn];exact⟨rfl,rfl⟩,?_⟩
  rw[Ty,AJ,Ag]
  have hadd:∀ K:AV→Aa→Prop,∀ S,bin .add 0 (.v (.int .i64 (i:Int))) (.v (.int .i64 1)) S K=K (aI (i+1:Nat)) S:=fun K S=>Ar (by omega) (by omega) 0
  have hμ:l.length - ((Aw (aI (i+1:Nat))).getD 0).toNat<l.length - ((Aw (aI i)).getD 0).toNat:=by simp[Aw];omega
  refine Al (fun hn=>?_) (fun hn=>?_)
  ·have hn:H8 (LO l i) (.p l[i].1 l[i].2)=none:=by simpa using hn
   refine⟨_,fun T hT=>by rw[AH];exact⟨rfl,rfl⟩,_,fun T hT=>by rw[Ac];exact⟨rfl,rfl⟩,_,fun T hT=>by rw[Ae ((hT.2 id (by omega)).trans p4) rfl rfl];exact⟨rfl,rfl⟩,_,fun T hT=>by rw[An (n:=2) (Kg hT o4) rfl];exact⟨rfl,rfl⟩,?_⟩
   rw[FD q4 (AeI _ _),hadd]
   refine hKE _ _ ⟨by simp;omega,fun x hx hne=>by rw[C3 (by omega)];exact r4 x hx hne,by rw[C3 (by omega)];exact p4,i+1,rfl,hlt,?_⟩ hμ
   rw[BG]
   simp only[LO,hg,hn,DZ hn]
  ·obtain⟨j,hj⟩:∃ j,H8 (LO l i) (.p l[i].1 l[i].2)=some j:=by
     cases e:H8 (LO l i) (.p l[i].1 l[i].2)with
     |none=>simp[e]at hn
     |some j=>exact⟨j,rfl⟩
   rw[hadd]
   refine hKE _ _ ⟨by omega,r4,p4,i+1,rfl,hlt,?_⟩ hμ
   rw[q4]
   simp only[LO,hg,hj]
 ·have hge:i=l.length:=by simp at hge;omega
  subst hge
  exact k S2 S.n (by omega) f2 hm o2 m2
theorem VW{S:Aa}{id:Nat}{z g0:AV}{l:List (Int × Int)}{Q:Bh→Aa→Prop}(hl:l.length≤1000000)(hid:id<S.n)(h:S.obj id=some (DS 182 0 0 z [pL l,g0]))
    (k:∀ S2,S.n≤S2.n→(∀ x,x<S.n→x≠id→S2.obj x=S.obj x)→Q (.ret (aI (LO l l.length).length)) S2):
    Ad Pg 158 [.p id 0 0] S Q:=by
 refine cH ?_
 dsimp only[AcY,Lf]
 rw[AH,Ac]
 refine .inl (mK h (.inl (VX hl (by simpa using hid) (BG _ _) fun S2 m n2 f2 hm o2 m2=>⟨_,o2,?_⟩)))
 show AI _ _ _
 rw[AH,Ac,Ae (show(S2.Dl id (DS 182 1 0 z [pL l,.m m])).obj id=some (.cells 182 [[T8 1,T9 0,z,pL l,.m m]] true)from BG _ _) rfl rfl]
 rw[Z1 (by rw[C3 hm];exact m2)]
 refine k _ (by simpa using n2) fun x hx hne=>?_
 rw[C3 hne,f2 x (by simpa using hx) hne,C3 hne]
theorem A6{pl:List (Nat × Nat)}{zc:List AV}{parts:List (Nat × AV)}{S:Aa}{K:AV→Aa→Prop}{cs:List AV}(h:CC (fun i=>pl[i]?) zc parts=some cs):CD pl zc parts S K=K (.a cs) S:=by
 simp[CD,h]
theorem XN{g:Gr}(hg:g.ok){S:Aa}{id:Nat}(hid:id<S.n){z g0:AV}(h:S.obj id=some (DS 182 0 0 z [pL g.ands,g0])){Q:Bh→Aa→Prop}
    (k:∀ S2,S.n≤S2.n→(∀ x,x<S.n→x≠id→S2.obj x=S.obj x)→Q (.ret (aB g.right)) S2):Ad Pg 134 [g.av,.p id 0 0] S Q:=by
 have hlen:=hg.len
 refine dC ?_
 dsimp only[AdK,Fi,Lf];unfold Gr.av
 refine Ai rfl fun S1 k1 n1 o1=>?_
 have kk:∀ b:Bool,g.right=b→Q (.ret (aB b)) S1:=fun b e=>e ▸ k S1 (by omega) fun x hx _=>k1.2 x hx
 rw[Ac,Ae o1 rfl rfl,As,Ag]
 refine Al (fun h1=>kk _ ?_) (fun h1=>?_)
 ·have h1:=dT h1
  simp[Gr.right,show ¬ 0≤g.inputs by omega]
 have h1:0≤g.inputs:=by simpa using h1
 rw[Ac,Ae o1 rfl rfl,AO,Ag]
 refine Al (fun h2=>kk _ ?_) (fun h2=>?_)
 ·have h2:=dT h2
  simp[Gr.right,show ¬ g.inputs≤2000 by omega]
 have h2:g.inputs≤2000:=by simpa using h2
 rw[Ac,Ae o1 rfl rfl,Bz,AO,Ag]
 refine Al (fun h3=>kk _ ?_) (fun h3=>?_)
 ·have h3:=dT h3
  have:¬ (g.ands.length:Int)≤2000:=by omega
  simp only[Gr.right,this,decide_false,AhV,AiL]
 have h3:g.ands.length≤2000:=by have:=dF h3;omega
 rw[An (n:=2) o1 rfl]
 refine Af (iU hg (by omega) h1) ?_
 rw[AO,Ag]
 refine Al (fun h4=>kk _ ?_) (fun h4=>?_)
 ·have h4:=dT h4
  simp[Gr.right,show ¬ g.vars≤2000 by omega]
 have h4:g.vars≤2000:=by simpa using h4
 rw[Ac,Ae o1 rfl rfl,Bz]
 refine Wu (fun y S'=>Am S1 S'∧∃ i:Nat,y=aI i∧i≤g.ands.length∧∀ j,j<i→may (g.ands.getD j (0,0)) (g.inputs+1+j)=true)
  (fun y _=>g.ands.length - ((Aw y).getD 0).toNat) ⟨Am.refl _,0,rfl,AhS _,fun j hj=>(AhY _ hj).elim⟩ ?_
 dsimp only[BS]
 rintro _ S2 ⟨k2,i,rfl,hi,hmay⟩ KE hKE
 have o2:=(k2.2 S.n (by omega)).trans o1
 have b2:=(k2.2 id (by omega)).trans ((k1.2 id hid).trans h)
 dsimp only[fZ,Fi,Lf,Lt]
 rw[As,Ag]
 refine Al (fun hlt=>?_) (fun hge=>?_)
 ·have hlt:i<g.ands.length:=by simpa using hlt
  have hg':g.ands.getD i (0,0)=g.ands[i]:=by simp[AhL,hlt]
  rw[C6 hlt,GD]
  refine Ai rfl fun S3 k3 n3 o3=>?_
  refine AG o3 rfl rfl fun S4 n4 o4 f4=>?_
  have k4:Am S1 S4:=(k2.trans k3).st (by have:=k2.1;omega) n4 f4
  have p4:=(k4.2 S.n (by omega)).trans o1
  rw[An (n:=2) o4 rfl,Ac,Ae p4 rfl rfl,Ar (by omega) (by omega),Ar (by omega) (by omega)]
  refine Af (yO (p:=g.ands[i]) (hg.pairs _ (AhP hlt))) ?_
  rw[AJ,Ag]
  refine Al (fun h5=>?_) (fun h5=>?_)
  ·have:g.right=false:=by
     have hr:(List.range g.ands.length).all (fun i=>may (g.ands.getD i (0,0)) (g.inputs+1+i))=false:=by
      rw[AiN]
      exact⟨i,by simpa using hlt,by rw[hg'];simpa using h5⟩
     simp only[Gr.right,hr,AhV,AiL]
   rw[←this]
   exact k S4 (by have:=k4.1;omega) fun x hx _=>(k4.2 x (by omega)).trans (k1.2 x hx)
  ·have hadd:∀ K:AV→Aa→Prop,∀ S,bin .add 0 (.v (.int .i64 (i:Int))) (.v (.int .i64 1)) S K=K (aI (i+1:Nat)) S:=fun K S=>Ar (by omega) (by omega) 0
   rw[hadd]
   refine hKE _ _ ⟨k4,i+1,rfl,hlt,fun j hj=>?_⟩ (by simp[Aw];omega)
   rcases AiB j i with hj'|hj'
   ·exact hmay j hj'
   ·have:j=i:=by omega
    subst this
    rw[hg']
    simpa using h5
 ·have hge:i=g.ands.length:=by simp at hge;omega
  subst hge
  have hn2:=k2.1
  refine⟨_,fun T hT=>by rw[Ac];exact⟨rfl,rfl⟩,_,fun T hT=>by rw[Ae (Kg hT o2) rfl rfl];exact⟨rfl,rfl⟩,_,fun T hT=>by rw[Bz];exact⟨rfl,rfl⟩,.inl (VW hlen (by omega) b2 fun S3 n3 f3=>?_)⟩
  have o3:=(f3 S.n (by omega) (by omega)).trans o2
  refine⟨fun T hT=>by rw[Bz];exact⟨rfl,rfl⟩,fun T hT=>by rw[Ae (Kg hT o3) rfl rfl];exact⟨rfl,rfl⟩,fun T hT=>by rw[Ac];exact⟨rfl,rfl⟩,_,fun T hT=>by rw[AA];exact⟨rfl,rfl⟩,?_⟩
  have:g.right=decide (((LO g.ands g.ands.length).length:Int)=g.ands.length):=by
   have hr:(List.range g.ands.length).all (fun i=>may (g.ands.getD i (0,0)) (g.inputs+1+i))=true:=by
    rw[AhW]
    exact fun j hj=>hmay j (by simpa using hj)
   have hall:=U5 (l:=g.ands) (i:=g.ands.length) (AhN _)
   rw[AiM]at hall
   simp only[Gr.right,hr,AhQ,h1,h2,h4,show(g.ands.length:Int)≤2000 by omega,decide_true,Int.natCast_inj,hall]
  rw[←this]
  exact k S3 (by omega) fun x hx hne=>(f3 x (by omega) hne).trans ((k2.2 x (by omega)).trans (k1.2 x hx))
theorem u5{g:Gr}(hg:g.ok):BF Pg 98 [g.av] (aB g.right):=by
 intro S
 refine Ad.Bu (mR ?_)
 dsimp only[m98,Lf];unfold Gr.av
 refine Ai rfl fun S1 k1 n1 o1=>?_
 rw[An (n:=2) o1 rfl,Ac,Ae o1 rfl rfl]
 rw[A6 (cs:=[T8 0,T9 0,.v (.int .u32 0),pL g.ands,.v (.map none)]) rfl]
 refine Ai rfl fun S2 k2 n2 o2=>?_
 refine .inl (XN hg (by omega) o2 fun S3 n3 f3=>⟨rfl,k1.trans ⟨by omega,fun x hx=>?_⟩⟩)
 rw[f3 x (by omega) (by omega),k2.2 x hx]
theorem Ox{g:Gr}(hg:g.ok)(hi:g.inputs≤1000000)(h0:0≤g.inputs):BF Pg 16 [g.av] (aI g.vars):=by
 intro S
 have hl:=hg.len
 refine Ad.Bu (Vf ?_)
 dsimp only[m16,Lf];unfold Gr.av
 refine Ai rfl fun S1 k1 n1 o1=>?_
 rw[Ac,Ae o1 rfl rfl,Ar (by omega) (by omega),Ac,Ae o1 rfl rfl,Bz,Ar (by omega) (by omega)]
 exact⟨rfl,k1⟩
theorem Ov{g:Gr}{l:Int}(hg:g.ok)(hl:Bv l):BF Pg 43 [g.av,aI l] (aB (g.lit l)):=by
 intro S
 refine Ad.Bu (oX ?_)
 dsimp only[m43,Fi,Lf];unfold Gr.av Gr.lit
 refine Ai rfl fun S1 k1 n1 o1=>?_
 rw[Ac,Ae o1 rfl rfl,BH,Ag]
 refine Al (fun h1=>?_) (fun h1=>⟨by simp only[h1,AhV],k1⟩)
 rw[Ac,Ae o1 rfl rfl,Di,Ag]
 refine Al (fun h2=>?_) (fun h2=>⟨by simp only[h1,h2,AhV,AhQ],k1⟩)
 rw[BH,Ag]
 refine Al (fun h3=>?_) (fun h3=>⟨by simp only[h1,h2,h3,AhV,AhQ],k1⟩)
 rw[Cc hl,An (n:=2) o1 rfl]
 refine Af (Ox hg (by have:=dT h2;omega) (dT h1)) ?_
 rw[As]
 exact⟨by simp only[h1,h2,h3,AhQ],k1⟩
theorem Vj{a b c d:Int}{S:Aa}{K:AV→Aa→Prop}:Xf .i64 .eql (.a [aI a,aI b]) (.a [aI c,aI d]) S K=K (aB (decide ((a,b)=(c,d)))) S:=by
 simp[Xf,Hx]
theorem U2{n sz:Nat}{c:List AV}{z:Nat}{S:Aa}{K:AV→Aa→Prop}(hz:z<n):Iz n sz (.q c 0) (aI z) S K=K (.q c (z*sz)) S:=by
 unfold Iz
 simp only[Aw,BP,Ai1,shift,AhZ]
 exact propext ⟨fun h=>h.2,fun h=>⟨⟨by omega,by omega⟩,h⟩⟩
theorem Z3{u v:AV}{S:Aa}{K:AV→Aa→Prop}:Ay (.q [u,v] 1) S K=K v S:=by simp[Ay,Sq,place]
theorem Z4{u:AV}{l:List AV}{S:Aa}{K:AV→Aa→Prop}:Ay (.q (u :: l) 0) S K=K u S:=by simp[Ay,Sq,place]
theorem CF{g:Gr}:g.right=true↔0≤g.inputs∧g.inputs≤2000∧(g.ands.length:Int)≤2000∧g.vars≤2000∧(∀ j,j<g.ands.length→may (g.ands.getD j (0,0)) (g.inputs+1+j)=true)∧g.ands.Nodup:=by
 simp[Gr.right]
theorem Sy{α:Type}[DecidableEq α]{l:List α}{i:Nat}(h:i<l.length):(l.take (i+1)).Nodup↔(l.take i).Nodup∧∀ k (hk:k<i),l[k]≠l[i]:=by
 rw[AiA,AhM h,Aj0]
 constructor
 ·rintro⟨h1,_,h3⟩
  refine⟨h1,fun k hk=>h3 _ ?_ _ (by simp)⟩
  rw[List.mem_take_iff_getElem]
  exact⟨k,by omega,rfl⟩
 ·rintro⟨h1,h2⟩
  refine⟨h1,by simp,fun a ha b hb=>?_⟩
  have:b=l[i]:=by simpa using hb
  subst this
  rw[List.mem_take_iff_getElem]at ha
  obtain⟨k,hk,rfl⟩:=ha
  exact h2 k (by omega)
theorem SF{p:Int × Int}{v:Int}(h:p.2<2):may p v=false:=by simp[may,show ¬ 2≤p.2 by omega]
theorem SE{p:Int × Int}{v:Int}(h:p.1.tdiv 2≤p.2.tdiv 2):may p v=false:=by simp[may,show ¬ p.2.tdiv 2<p.1.tdiv 2 by omega]
theorem SD{p:Int × Int}{v:Int}(h:v≤p.1.tdiv 2):may p v=false:=by simp[may,show ¬ p.1.tdiv 2<v by omega]
theorem Kx{g:Gr}{i:Nat}(h:i<g.ands.length)(hm:may (g.ands.getD i (0,0)) (g.inputs+1+i)=false):g.right=false:=by
 cases e:g.right with
 |false=>rfl
 |true=>rw[(CF.1 e).2.2.2.2.1 i h]at hm;cases hm
theorem iK{g:Gr}(hg:g.ok):BF Pg 42 [g.av] (aB g.right):=by
 intro S
 refine Ad.Bu (oY ?_)
 have hlen:=hg.len
 dsimp only[m42,Fi,Lf];unfold Gr.av
 refine Ai rfl fun S1 k1 n1 o1=>?_
 rw[Ac,Ae o1 rfl rfl,As,Ag]
 refine Al (fun h1=>⟨?_,k1⟩) (fun h1=>?_)
 ·have h1:=dT h1
  simp[Gr.right,show ¬ 0≤g.inputs by omega]
 have h1:0≤g.inputs:=by simpa using h1
 rw[Ac,Ae o1 rfl rfl,AO,Ag]
 refine Al (fun h2=>⟨?_,k1⟩) (fun h2=>?_)
 ·have h2:=dT h2
  simp[Gr.right,show ¬ g.inputs≤2000 by omega]
 have h2:g.inputs≤2000:=by simpa using h2
 rw[Ac,Ae o1 rfl rfl,Bz,AO,Ag]
 refine Al (fun h3=>⟨?_,k1⟩) (fun h3=>?_)
 ·have h3:=dT h3
  have:¬ (g.ands.length:Int)≤2000:=by omega
  simp only[Gr.right,this,decide_false,AhV,AiL]
 have h3:g.ands.length≤2000:=by have:=dF h3;omega
 rw[An (n:=2) o1 rfl]
 refine Af (Ox hg (by omega) h1) ?_
 rw[AO,Ag]
 refine Al (fun h4=>⟨?_,k1⟩) (fun h4=>?_)
 ·have h4:=dT h4
  simp[Gr.right,show ¬ g.vars≤2000 by omega]
 have h4:g.vars≤2000:=by simpa using h4
 refine ZD (fun y S'=>S'=S1∧∃ i:Nat,y=aI i∧i≤g.ands.length∧(∀ j,j<i→may (g.ands.getD j (0,0)) (g.inputs+1+j)=true)∧(g.ands.take i).Nodup)
  (fun y _=>g.ands.length - ((Aw y).getD 0).toNat) ⟨rfl,0,rfl,AhS _,fun j hj=>(AhY _ hj).elim,by simp⟩ ?_
 dsimp only[BS]
 rintro _ S1 ⟨rfl,i,rfl,hi,hmay,hnd⟩ KE hKE
 dsimp only[uE,Fi,Lf,Lq]
 rw[Ac,Ae o1 rfl rfl,Bz,As,Ag]
 refine Al (fun hlt=>?_) (fun hge=>?_)
 ·have hlt:i<g.ands.length:=by simpa using hlt
  have hg':g.ands.getD i (0,0)=g.ands[i]:=by simp[AhL,hlt]
  have hp:=hg.pairs _ (AhP hlt)
  have e1:∀(c:List AV) (K:AV→Aa→Prop),Iz 2 1 (.q c 0) (.v (.int .i64 1)) S1 K=K (.q c 1) S1:=fun c K=>U2 (z:=1) (by decide)
  have e0:∀(c:List AV) (K:AV→Aa→Prop),Iz 2 1 (.q c 0) (.v (.int .i64 0)) S1 K=K (.q c 0) S1:=fun c K=>U2 (z:=0) (by decide)
  show ∃ q24:AV,_
  refine⟨_,by rw[Ac];exact⟨rfl,rfl⟩,_,by rw[Ae o1 rfl rfl];exact⟨rfl,rfl⟩,_,by rw[C6 hlt];exact⟨rfl,rfl⟩,_,by rw[e0];exact⟨rfl,rfl⟩,_,by rw[Z4];exact⟨rfl,rfl⟩,
   _,by rw[Ac];exact⟨rfl,rfl⟩,_,by rw[Ae o1 rfl rfl];exact⟨rfl,rfl⟩,_,by rw[C6 hlt];exact⟨rfl,rfl⟩,_,by rw[e1];exact⟨rfl,rfl⟩,_,by rw[Z3];exact⟨rfl,rfl⟩,?_⟩
  rw[As,Ag]
  refine Al (fun h5=>⟨?_,k1⟩) (fun h5=>?_)
  ·rw[Kx hlt (by rw[hg'];exact SF (dT h5))]
  rw[Cc hp.1,Cc hp.2,Di,Ag]
  refine Al (fun h6=>⟨?_,k1⟩) (fun h6=>?_)
  ·rw[Kx hlt (by rw[hg'];exact SE (dT h6))]
  rw[Cc hp.1,Ac,Ae o1 rfl rfl,Ar (by omega) (by omega),Ar (by omega) (by omega),BH,Ag]
  refine Al (fun h7=>⟨?_,k1⟩) (fun h7=>?_)
  ·rw[Kx hlt (by rw[hg'];exact SD (dT h7))]
  have h5:=dF h5
  have h6:=dF h6
  have h7:=dF h7
  refine ZC (fun y S'=>S'=S1∧∃ k:Nat,y=aI k∧k≤i∧∀ j (hj:j<k) (hk:k≤i),g.ands[j]'(by omega)≠g.ands[i])
   (fun y _=>g.ands.length - ((Aw y).getD 0).toNat) ⟨rfl,0,rfl,AhS _,fun j hj=>(AhY _ hj).elim⟩ ?_
  dsimp only[BS]
  rintro _ S1 ⟨rfl,k,rfl,hk,hne⟩ KE1 hKE1
  dsimp only[uD,Fi,Lq]
  rw[As,Ag]
  refine Al (fun hlk=>?_) (fun hgk=>?_)
  ·have hlk:k<i:=by simpa using hlk
   have hkl:k<g.ands.length:=by omega
   show ∃ q24:AV,_
   refine⟨_,by rw[Ac];exact⟨rfl,rfl⟩,_,by rw[Ae o1 rfl rfl];exact⟨rfl,rfl⟩,_,by rw[C6 hkl];exact⟨rfl,rfl⟩,_,by rw[GD];exact⟨rfl,rfl⟩,
    _,by rw[Ac];exact⟨rfl,rfl⟩,_,by rw[Ae o1 rfl rfl];exact⟨rfl,rfl⟩,_,by rw[C6 hlt];exact⟨rfl,rfl⟩,_,by rw[GD];exact⟨rfl,rfl⟩,_,by rw[Vj];exact⟨rfl,rfl⟩,?_⟩
   rw[Ag]
   refine Al (fun h8=>⟨?_,k1⟩) (fun h8=>?_)
   ·have h8:g.ands[k]=g.ands[i]:=dT h8
    have:g.right=false:=by
     cases e:g.right with
     |false=>rfl
     |true =>
      have hnd:=(CF.1 e).2.2.2.2.2
      exact absurd h8 (List.pairwise_iff_getElem.1 hnd k i hkl hlt hlk)
    rw[this]
   ·have h8:¬ g.ands[k]=g.ands[i]:=dF h8
    have hadd:∀ K:AV→Aa→Prop,∀ S,bin .add 0 (.v (.int .i64 (k:Int))) (.v (.int .i64 1)) S K=K (aI (k+1:Nat)) S:=fun K S=>Ar (by omega) (by omega) 0
    rw[hadd]
    refine hKE1 _ _ ⟨rfl,k+1,rfl,hlk,fun j hj _=>?_⟩ (by simp[Aw];omega)
    rcases AiB j k with hj'|hj'
    ·exact hne j hj' (by omega)
    ·have:j=k:=by omega
     subst this
     exact h8
  ·have hge:k=i:=by simp at hgk;omega
   subst hge
   have hadd:∀ K:AV→Aa→Prop,∀ S,bin .add 0 (.v (.int .i64 (k:Int))) (.v (.int .i64 1)) S K=K (aI (k+1:Nat)) S:=fun K S=>Ar (by omega) (by omega) 0
   rw[hadd]
   refine hKE _ _ ⟨rfl,k+1,rfl,hlt,fun j hj=>?_,(Sy hlt).2 ⟨hnd,fun j hj=>hne j hj (AhN _)⟩⟩ (by simp[Aw];omega)
   rcases AiB j k with hj'|hj'
   ·exact hmay j hj'
   ·have:j=k:=by omega
    subst this
    rw[hg']
    simp[may,show 2≤(g.ands[j]).2 by omega,show(g.ands[j]).2.tdiv 2<(g.ands[j]).1.tdiv 2 by omega,show(g.ands[j]).1.tdiv 2<g.inputs+1+j by omega]
 ·have hge:i=g.ands.length:=by simp at hge;omega
  subst hge
  rw[AiM]at hnd
  rw[CF.2 ⟨h1,h2,by omega,h4,hmay,hnd⟩]
  exact⟨rfl,k1⟩
theorem A4.Qe{n:Nat}{S:Aa}{x:AV}{e sz b:Nat}{es ys:List (List AV)}(h:A4 n S x e es)(hn:n≤S.n){K:AV→Aa→Prop}(hc:∀ c∈ys,c.length=sz)(hb:(es.length+ys.length)*b≤140737488355328)
    (k:∀ x' S',A4 n S' x' e (es++ys)→zK S S' x→(x'=x∨∃ m,x' = .s S.n 0 m)→K x' S') {y:AV} (hy:IZ S y=some ys):Bo e sz b x y S K:=by
 refine⟨h.AeK,ys,hy,hc,?_⟩
 cases ys with
 |nil=>exact k x S (by simpa using h) ⟨AhN _,fun _ _ _=>rfl⟩ (.inl rfl)
 |cons c ys =>
  rcases h with⟨rfl,rfl⟩|⟨id,rfl,h1,h2,h3⟩
  ·refine⟨by simpa using hb,k _ _ (.inr ⟨S.n,rfl,hn,Aj3 _,by simp[Aa.new]⟩) ⟨Nat.le_succ _,fun i hi _=>?_⟩ (.inr ⟨_,rfl⟩)⟩
   simp only[Aa.new];rw[if_neg (by omega)]
  ·simp only[Qf,h3,AiM,AhN]
   refine⟨⟨trivial,trivial,by simpa using hb⟩,k _ _ (.inr ⟨S.n,by simp,hn,Aj3 _,by simp[Aa.new,Aa.kill]⟩) ⟨Nat.le_succ _,fun i hi hne=>?_⟩ (.inr ⟨_,rfl⟩)⟩
   have e1:i≠S.n:=by omega
   have e2:i≠id:=fun hq=>hne 0 es.length (by rw[hq])
   simp[Aa.new,Aa.kill,e1,e2]
theorem x7{e:Nat}{z1 z2 u v:AV}{S:Aa}{K:AV→Aa→Prop}(k:K (.l [[u,v]]) S):AU e 2 1 [z1,z2] [(0,.a [u,v])] S K:=by
 refine⟨[u,v],?_,.inr ?_⟩
 ·simp[CC,cellsOf,Kq,Ai7]
 ·simpa[chunks,Ai7]using k
@[simp] theorem UC(a b:Int){S:Aa}{K:AV→Aa→Prop}:VT true (aI a) (aI b) S K=K (aI (if b > a then b else a)) S:=rfl
@[simp] theorem QQ(a b:Int){S:Aa}{K:AV→Aa→Prop}:VT false (aI a) (aI b) S K=K (aI (if b<a then b else a)) S:=rfl
theorem ID(l:List (Int × Int)):Tree (pL l):=Tree.l fun c hc u hu=>by
 obtain⟨p,_,rfl⟩:=Ai5.1 hc
 rcases Ai9.1 hu with rfl|hu
 ·exact Tree.v _
 ·rcases Ai9.1 hu with rfl|hu
  ·exact Tree.v _
  ·simp at hu
theorem Gr.tree(g:Gr):Tree g.av:=Tree.a fun u hu=>by
 rcases Ai9.1 hu with rfl|hu
 ·exact Tree.v _
 ·rcases Ai9.1 hu with rfl|hu
  ·exact ID _
  ·simp at hu
theorem Vc{S:Aa}{n:Nat}{x y z x' y' z':AV}(h1:Cv S n x x')(h2:Cv S n y y')(h3:Cv S n z z'):Cv S n (.t [x,y,z]) (.t [x',y',z']):=
 .t _ _ rfl fun k u u2 hk hk2=>by
  match k with
  |0=>cases hk;cases hk2;exact h1
  |1=>cases hk;cases hk2;exact h2
  |2=>cases hk;cases hk2;exact h3
  |k+3=>simp at hk
theorem DU{S:Aa}{n:Nat}{x y x' y':AV}(h1:Cv S n x x')(h2:Cv S n y y'):Cv S n (.t [x,y]) (.t [x',y']):=
 .t _ _ rfl fun k u u2 hk hk2=>by
  match k with
  |0=>cases hk;cases hk2;exact h1
  |1=>cases hk;cases hk2;exact h2
  |k+2=>simp at hk
theorem aT{S:Aa}{n:Nat}{x y x' y':AV}(h1:Cv S n x x')(h2:Cv S n y y'):Cv S n (.a [x,y]) (.a [x',y']):=
 .a _ _ rfl fun k u u2 hk hk2=>by
  match k with
  |0=>cases hk;cases hk2;exact h1
  |1=>cases hk;cases hk2;exact h2
  |k+2=>simp at hk
theorem xN{b c:Bool}{R T:Prop}(h1:b=true→c=true→R)(h2:¬ (b=true∧c=true)→T):gd b (gd c R T) T:=by
 cases b<;>cases c<;>simp_all [gd]
def RX(g:Gr)(x y:Int):Gr × Int × Int:=
 if y=0 then(g,0,0)
 else if x.tdiv 2=y.tdiv 2∧x≠y then(g,0,0)
 else if y=1 then(g,x,0)
 else if x=y then(g,x,0)
 else match g.ands.findIdx? (fun p=>decide (p=(x,y)))with
  |some i=>(g,2*(g.inputs+1+i),0)
  |none=>if 2000≤g.vars then(⟨0,[]⟩,0,2)else(⟨g.inputs,g.ands ++ [(x,y)]⟩,2*(g.vars+1) - 2,0)
def Gr.and(g:Gr)(a b:Int):Gr × Int × Int:=
 if(g.right && (g.lit a && g.lit b))=false then(⟨0,[]⟩,0,1)else RX g (if b > a then b else a) (if b<a then b else a)
def Vu(r:Gr × Int × Int):AV:=.t [r.1.av,aI r.2.1,aI r.2.2]
theorem vY{i:Int}{x:AV}{n:Nat}(hx:∀(S:Aa) (K:AV→Aa→Prop),AF x S K=K (aI n) S)(h0:0≤i)(h1:i≤1000000)(hn:n≤2000000):BF Pg 16 [.a [aI i,x]] (aI (i+1+n)):=by
 intro S
 refine Ad.Bu (Vf ?_)
 dsimp only[m16,Lf]
 refine Ai rfl fun S1 k1 n1 o1=>?_
 rw[Ac,Ae o1 rfl rfl,Ar (by omega) (by omega),Ac,Ae o1 rfl rfl,hx,Ar (by omega) (by omega)]
 exact⟨rfl,k1⟩
theorem AfK{g:Gr}{a b:Int}(hg:g.ok)(ha:Bv a)(hb:Bv b):BF Pg 84 [g.av,aI a,aI b] (Vu (g.and a b)):=by
 intro S
 refine Ad.tree (nE ?_)
 have hlen:=hg.len
 dsimp only[m84,UK,YP,Fi]
 have bd:∀{a b:Int} {S:Aa} {K:AV→Aa→Prop},CD [(0,1),(1,1)] [.v (.int .i64 0),.v (.int .i64 0)] [(0,aI a),(1,aI b)] S K=K (.a [aI a,aI b]) S:=A6 rfl
 have bz:∀{S:Aa} {K:AV→Aa→Prop},CD [(0,1),(1,1)] [.v (.int .i64 0),.nl] [] S K=K (.a [aI 0,.nl]) S:=A6 rfl
 refine Ai rfl fun S1 k1 n1 o1=>?_
 refine Ai rfl fun S2 k2 n2 o2=>?_
 have k2:=k1.trans k2
 have p1:S2.obj S.n=_:=(‹Am S1 S2›.2 S.n (by omega)).trans o1
 have fin:∀{S':Aa} {v:AV} (r:Gr × Int × Int),Am S S'→Cv (S'.BA (AL S.n)) S.n v r.1.av→g.and a b=r→∃ q,Bh.ret (.t [v,aI r.2.1,aI r.2.2]) = .ret q∧Am S S'∧Cv (S'.BA (AL S.n)) S.n q (Vu (g.and a b)):=
  fun r hk hc e=>⟨_,rfl,hk,by rw[e];exact Vc hc (.v _) (.v _)⟩
 have err:∀ S',Cv (Aa.BA S' (AL S.n)) S.n (.a [aI 0,.nl]) (Gr.av ⟨0,[]⟩):=fun _=>aT (.v _) .nl
 have bad:∀{e:Int},(g.right && (g.lit a && g.lit b))=false→g.and a b=(⟨0,[]⟩,0,1):=fun h=>by simp only[Gr.and];rw[if_pos h]
 rw[An (n:=2) p1 rfl]
 refine Af (iK hg) ?_
 rw[AJ,Ag]
 refine Al (fun h1=>?_) (fun h1=>?_)
 ·rw[bz]
  refine AG o2 rfl rfl fun S3 n3 o3 f3=>?_
  rw[An (n:=2) o3 rfl]
  exact fin (⟨0,[]⟩,0,1) (k2.st (by omega) n3 f3) (err _) (bad (e:=0) (by rw[Ai6]at h1;rw[h1];rfl))
 have h1:g.right=true:=by simpa using h1
 rw[An (n:=2) p1 rfl]
 refine Af (Ov hg ha) ?_
 rw[AJ,Ag]
 refine Al (fun h2=>?_) (fun h2=>?_)
 ·rw[bz]
  refine AG o2 rfl rfl fun S3 n3 o3 f3=>?_
  rw[An (n:=2) o3 rfl]
  exact fin (⟨0,[]⟩,0,1) (k2.st (by omega) n3 f3) (err _) (bad (e:=0) (by rw[Ai6]at h2;rw[h1,h2];rfl))
 have h2:g.lit a=true:=by simpa using h2
 rw[An (n:=2) p1 rfl]
 refine Af (Ov hg hb) ?_
 rw[AJ,Ag]
 refine Al (fun h3=>?_) (fun h3=>?_)
 ·rw[bz]
  refine AG o2 rfl rfl fun S3 n3 o3 f3=>?_
  rw[An (n:=2) o3 rfl]
  exact fin (⟨0,[]⟩,0,1) (k2.st (by omega) n3 f3) (err _) (bad (e:=0) (by rw[Ai6]at h3;rw[h1,h2,h3];rfl))
 have h3:g.lit b=true:=by simpa using h3
 obtain⟨r1,r2,r3,r4,r5,r6⟩:=CF.1 h1
 rw[UC,QQ]
 have hx:Bv (if b > a then b else a):=by split<;>assumption
 have hy:Bv (if b<a then b else a):=by split<;>assumption
 have hand:g.and a b=RX g (if b > a then b else a) (if b<a then b else a):=by
  simp only[Gr.and]
  rw[if_neg (by rw[h1,h2,h3];decide)]
 generalize hex:(if b > a then b else a)=x at *
 generalize hey:(if b<a then b else a)=y at *
 have ok:∀{S':Aa},Cv (S'.BA (AL S.n)) S.n (.a g.cells) g.av:=fun{S'}=>g.tree _ _
 rw[AA,Ag]
 refine Al (fun h4=>?_) (fun h4=>?_)
 ·rw[An (n:=2) p1 rfl]
  refine AG o2 rfl rfl fun S3 n3 o3 f3=>?_
  rw[An (n:=2) o3 rfl]
  exact fin (g,0,0) (k2.st (by omega) n3 f3) ok (hand.trans (by rw[RX,if_pos (dT h4)]))
 have h4:=dF h4
 rw[Cc hx,Cc hy,AA,Ag]
 rw[Bl,Ag]
 refine xN (fun h5 h6=>?_) (fun h7=>?_)
 ·rw[An (n:=2) p1 rfl]
  refine AG o2 rfl rfl fun S3 n3 o3 f3=>?_
  rw[An (n:=2) o3 rfl]
  exact fin (g,0,0) (k2.st (by omega) n3 f3) ok (hand.trans (by rw[RX,if_neg h4,if_pos ⟨dT h5,by simpa using h6⟩]))
 ·have h7:¬ (x.tdiv 2=y.tdiv 2∧x≠y):=fun h=>h7 ⟨by simpa using h.1,by simpa using h.2⟩
  have hand:g.and a b=(if y=1 then(g,x,(0:Int))
   else if x=y then(g,x,0)
   else match g.ands.findIdx? (fun p=>decide (p=(x,y)))with
    |some i=>(g,2*(g.inputs+1+i),0)
    |none=>if 2000≤g.vars then(⟨0,[]⟩,0,2)else(⟨g.inputs,g.ands ++ [(x,y)]⟩,2*(g.vars+1) - 2,0):Gr × Int × Int):=hand.trans (by rw[RX,if_neg h4,if_neg h7])
  rw[AA,Ag]
  refine Al (fun h8=>?_) (fun h8=>?_)
  ·rw[An (n:=2) p1 rfl]
   refine AG o2 rfl rfl fun S3 n3 o3 f3=>?_
   rw[An (n:=2) o3 rfl]
   exact fin (g,x,0) (k2.st (by omega) n3 f3) ok (hand.trans (by rw[if_pos (dT h8)]))
  have h8:=dF h8
  rw[AA,Ag]
  refine Al (fun h9=>?_) (fun h9=>?_)
  ·rw[An (n:=2) p1 rfl]
   refine AG o2 rfl rfl fun S3 n3 o3 f3=>?_
   rw[An (n:=2) o3 rfl]
   exact fin (g,x,0) (k2.st (by omega) n3 f3) ok (hand.trans (by rw[if_neg h8,if_pos (dT h9)]))
  have h9:=dF h9
  have hand:=hand.trans (by rw[if_neg h8,if_neg h9])
  refine Zf (fun z S'=>S'=S2∧∃ i:Nat,z=aI i∧i≤g.ands.length∧∀ j (hj:j<g.ands.length),j<i→g.ands[j]≠(x,y))
   (fun z _=>g.ands.length - ((Aw z).getD 0).toNat) ⟨rfl,0,rfl,AhS _,fun j _ hj=>(AhY _ hj).elim⟩ ?_
  dsimp only[BS]
  rintro _ S2 ⟨rfl,i,rfl,hi,hno⟩ KE hKE
  dsimp only[tH,Fi,Lf,Lt,Lc]
  have hl3:=r3
  have hv:=r4
  unfold Gr.vars at hv
  rw[Ac,Ae p1 rfl rfl,Bz,As,Ag]
  refine Al (fun hlt=>?_) (fun hge=>?_)
  ·have hlt:i<g.ands.length:=by simpa using hlt
   rw[Ac,Ae p1 rfl rfl,C6 hlt,GD,bd,Vj,Ag]
   refine Al (fun h10=>?_) (fun h10=>?_)
   ·have h10:g.ands[i]=(x,y):=dT h10
    have hf:g.ands.findIdx? (fun p=>decide (p=(x,y)))=some i:=by
     rw[AiV]
     exact⟨hlt,by simpa using h10,fun j hj=>by simpa using hno j (by omega) hj⟩
    have q:∀ T:Aa,Am S2 T→T.obj S.n=some (.cells 61 [g.cells] true):=fun T hT=>(Kg hT p1)
    have e1:∀{S:Aa} {K:AV→Aa→Prop},bin .add 0 (aI g.inputs) (aI 1) S K=K (aI (g.inputs+1)) S:=Ar (by omega) (by omega) 0
    have e2:∀{S:Aa} {K:AV→Aa→Prop},bin .add 0 (aI (g.inputs+1)) (aI i) S K=K (aI (g.inputs+1+i)) S:=Ar (by omega) (by omega) 0
    have e3:∀{S:Aa} {K:AV→Aa→Prop},bin .mul 0 (aI 2) (aI (g.inputs+1+i)) S K=K (aI (2*(g.inputs+1+i))) S:=Iu (by omega) (by omega) 0
    refine⟨_,fun T hT=>by rw[An (n:=2) (q T hT) rfl];exact⟨rfl,rfl⟩,_,fun T hT=>by rw[Ac];exact⟨rfl,rfl⟩,_,fun T hT=>by rw[Ae (q T hT) rfl rfl];exact⟨rfl,rfl⟩,_,fun T hT=>by rw[e1];exact⟨rfl,rfl⟩,_,fun T hT=>by rw[e2];exact⟨rfl,rfl⟩,_,fun T hT=>by rw[e3];exact⟨rfl,rfl⟩,?_⟩
    refine AG o2 rfl rfl fun S3 n3 o3 f3=>?_
    have q3:∀ T:Aa,Am S3 T→T.obj S.n=some (.cells 61 [g.cells] true):=fun T hT=>(Kg hT ((f3 _ (by omega)).trans p1))
    refine⟨fun T hT=>by rw[e3];exact⟨rfl,rfl⟩,fun T hT=>by rw[e2];exact⟨rfl,rfl⟩,fun T hT=>by rw[e1];exact⟨rfl,rfl⟩,fun T hT=>by rw[Ae (q3 T hT) rfl rfl];exact⟨rfl,rfl⟩,fun T hT=>by rw[Ac];exact⟨rfl,rfl⟩,?_⟩
    rw[An (n:=2) o3 rfl]
    exact fin (g,2*(g.inputs+1+i),0) (k2.st (by omega) n3 f3) ok (hand.trans (by rw[hf]))
   ·have h10:¬ g.ands[i]=(x,y):=dF h10
    have hadd:∀ K:AV→Aa→Prop,∀ S,bin .add 0 (.v (.int .i64 (i:Int))) (.v (.int .i64 1)) S K=K (aI (i+1:Nat)) S:=fun K S=>Ar (by omega) (by omega) 0
    rw[hadd]
    refine hKE _ _ ⟨rfl,i+1,rfl,hlt,fun j hj hj'=>?_⟩ (by simp[Aw];omega)
    rcases AiB j i with h|h
    ·exact hno j hj h
    ·have:j=i:=by omega
     subst this
     exact h10
  ·have hge:i=g.ands.length:=by simp at hge;omega
   subst hge
   have hf:g.ands.findIdx? (fun p=>decide (p=(x,y)))=none:=by
    rw[AiY]
    intro q hq
    obtain⟨j,hj,rfl⟩:=AiI hq
    simpa using hno j hj hj
   rw[hf]at hand
   rw[An (n:=2) p1 rfl]
   refine Af (Ox hg (by omega) r1) ?_
   rw[BH,Ag]
   refine Al (fun h11=>?_) (fun h11=>?_)
   ·rw[bz]
    refine AG o2 rfl rfl fun S3 n3 o3 f3=>?_
    rw[An (n:=2) o3 rfl]
    exact fin (⟨0,[]⟩,0,2) (k2.st (by omega) n3 f3) (err _) (hand.trans (by simp only[if_pos (dT h11)]))
   have h11:=dF h11
   have hand:g.and a b=(⟨g.inputs,g.ands ++ [(x,y)]⟩,2*(g.vars+1) - 2,0):=hand.trans (by simp only[if_neg h11])
   refine Ai rfl fun S3 k3 n3 o3=>?_
   have p3:=(k3.2 S.n (by omega)).trans p1
   rw[Ac,Ae p3 rfl rfl,Ac]
   refine B4 o3 (by simp) rfl fun S4 n4 o4 f4=>?_
   have p4:=(f4 S.n (by omega)).trans p3
   rw[Ac,Ae o4 rfl rfl,Ac,Ae p4 rfl rfl]
   have m2:=k2.1
   have m3:=k3.1
   have k4:Am S S4:=(k2.trans k3).st (by omega) n4 f4
   have v4:S4.obj S1.n=_:=(f4 S1.n (by omega)).trans ((k3.2 S1.n (by omega)).trans o2)
   refine A4.Qe (A4.nl S.n S4 130) (by omega) (ys:=g.ands.map fun p=>[aI p.1,aI p.2]) (fun c hc=>by obtain⟨p,_,rfl⟩:=Ai5.1 hc;rfl) (by simp;omega) (fun z1 S5 w5 b5 hz5=>?_) rfl
   rw[bd]
   refine x7 ?_
   have k5:Am S S5:=w5.AR (S0:=S) (AhN _) ⟨AhN _,fun _ _ _=>rfl⟩ ⟨Nat.le_trans k4.1 b5.1,fun i hi=>(b5.2 i (by have:=k4.1;omega) (fun _ _ h=>by cases h)).trans (k4.2 i hi)⟩
   have e5:∀ i,i<S4.n→S5.obj i=S4.obj i:=fun i hi=>b5.2 i hi (fun _ _ h=>by cases h)
   have z5:∀ i b m,z1 = .s i b m→i=S4.n:=fun i b m e=>by
    rcases hz5 with h|⟨m',h⟩
    ·rw[h]at e;cases e
    ·rw[h]at e;cases e;rfl
   have n5:=b5.1
   refine w5.app (by have:=k5.1;omega) (c:=[aI x,aI y]) rfl (by simp;omega) (fun z2 S6 w6 b6 hz6=>?_) rfl
   have e6:∀ i,i<S4.n→S6.obj i=S4.obj i:=fun i hi=>(b6.2 i (by omega) (fun b m e=>by have:=z5 i b m e;omega)).trans (e5 i hi)
   have n6:=b6.1
   have k6:Am S S6:=w5.AR (AhN _) b6 k5
   obtain⟨m6,hz6⟩:=hz6
   rw[Ac]
   refine B4 ((e6 S2.n (by omega)).trans o4) (by simp) (by rw[hz6];rfl) fun S7 n7 o7 f7=>?_
   have p7:S7.obj S.n=_:=(f7 S.n (by omega)).trans ((e6 S.n (by omega)).trans p4)
   have v7:S7.obj S1.n=_:=(f7 S1.n (by omega)).trans ((e6 S1.n (by omega)).trans v4)
   have k7:Am S S7:=k6.st (by omega) n7 f7
   have w7:A4 S.n S7 z2 130 _:=w6.st (id:=S2.n) (fun b m e=>by rw[hz6]at e;injection e;omega) n7 f7
   have hlen2:(((g.ands.map fun p=>[aI p.1,aI p.2]) ++ [[aI x,aI y]]).length:Nat)=g.ands.length+1:=by simp
   have hz:∀(S:Aa) (K:AV→Aa→Prop),AF z2 S K=K (aI (g.ands.length+1:Nat)) S:=fun S K=>by
    rcases w7 with⟨h,h'⟩|⟨id,h,_,_,_⟩
    ·rw[h]at hz6;cases hz6
    ·rw[h,Dm,List.nil_append,hlen2]
   have q:∀ T:Aa,Am S7 T→T.obj S2.n=some (.cells 61 [[aI g.inputs,z2]] true):=fun T hT=>(Kg hT o7)
   have e1:∀{S:Aa} {K:AV→Aa→Prop},bin .mul 0 (aI 2) (aI (g.inputs+1+(g.ands.length+1:Nat))) S K=K (aI (2*(g.inputs+1+(g.ands.length+1:Nat)))) S:=Iu (by omega) (by omega) 0
   have e2:∀{S:Aa} {K:AV→Aa→Prop},bin .sub 0 (aI (2*(g.inputs+1+(g.ands.length+1:Nat)))) (aI 2) S K=K (aI (2*(g.inputs+1+(g.ands.length+1:Nat)) - 2)) S:=Bx (by omega) (by omega) 0
   refine⟨_,fun T hT=>by rw[An (n:=2) (q T hT) rfl];exact⟨rfl,rfl⟩,_,fun T hT=>by rw[An (n:=2) (q T hT) rfl];exact⟨rfl,rfl⟩,_,fun T hT=>Af (vY hz r1 (by omega) (by omega)) ⟨rfl,rfl⟩,_,fun T hT=>by rw[e1];exact⟨rfl,rfl⟩,_,fun T hT=>by rw[e2];exact⟨rfl,rfl⟩,?_⟩
   refine AG v7 rfl rfl fun S8 n8 o8 f8=>?_
   refine⟨fun T hT=>by rw[e2];exact⟨rfl,rfl⟩,fun T hT=>by rw[e1];exact⟨rfl,rfl⟩,?_⟩
   rw[An (n:=2) o8 rfl]
   have w8:A4 S.n S8 z2 130 _:=w7.st (id:=S1.n) (fun b m e=>by rw[hz6]at e;injection e;omega) n8 f8
   have hv2:g.vars=g.inputs+1+g.ands.length:=rfl
   have:=fin (S':=S8) (v:=.a [aI g.inputs,z2]) (⟨g.inputs,g.ands ++ [(x,y)]⟩,2*(g.vars+1) - 2,0) (k7.st (by omega) n8 f8) (aT (.v _) (w8.cv rfl (by simp) (fun i c c2 hc hc2=>?_))) hand
   ·rw[hv2,show g.inputs+1+(g.ands.length:Int)+1=g.inputs+1+(g.ands.length+1:Nat)by omega]at this
    exact this
   ·have:c=c2:=by
      rw[List.nil_append]at hc
      rw[AhU]at hc2
      exact Option.some.inj (hc.symm.trans hc2)
    subst this
    refine⟨rfl,fun k u u2 hu hu2=>?_⟩
    rw[hu]at hu2;cases hu2
    have hm:=AiS hc2
    rw[Ai5]at hm
    obtain⟨p,_,rfl⟩:=hm
    match k with
    |0=>cases hu;exact .v _
    |1=>cases hu;exact .v _
    |k+2=>simp at hu
section
variable {S:Aa} {K:AV→Aa→Prop}
theorem H9{b:ByteArray}{i:Nat}(h:i<b.size):Hy (.v (.string b)) (aI i) S K=K (.v (.int .u8 (b[i]).toNat)) S:=by
 simp[Hy,Aw,h]
@[simp] theorem EP(b:ByteArray):FH (.v (.string b)) S K=K (aI b.size) S:=rfl
theorem Vg(a b:ByteArray):(a.toList == b.toList)=decide (a=b):=by
 rw[Bool.eq_iff_iff,beq_iff_eq,ByteArray.toList_eq,ByteArray.toList_eq,decide_eq_true_eq]
 exact⟨fun h=>ByteArray.ext (Array.toList_inj.mp h),fun h=>by rw[h]⟩
theorem RU(a b:ByteArray)(kd:Nat):bin .eql kd (.v (.string a)) (.v (.string b)) S K=K (aB (decide (a=b))) S:=by simp[bin,b2,VH,Vg]
theorem RT(a b:ByteArray)(kd:Nat):bin .neq kd (.v (.string a)) (.v (.string b)) S K=K (aB (!decide (a=b))) S:=by simp[bin,b2,VH,Vg]
theorem ES{c:List AV}{j:Nat}{u:AV}(h:c[j]? = some u):Ay (.q c j) S K=K u S:=by simp[Ay,Sq,place,h]
@[simp] theorem Fe(c:List AV)(j n:Nat):shift (.q c j) n S K=K (.q c (j+n)) S:=rfl
end
def G3(b:ByteArray):Bool:=decide (∀ i (h:i<b.size),33≤(b[i]).toNat∧(b[i]).toNat≤126) && (decide (0<b.size) && decide (b.size≤20))
theorem AfJ(b:ByteArray)(hb:b.size≤9223372036854775807):BF Pg 87 [.v (.string b)] (aB (G3 b)):=by
 intro S
 refine Ad.Bu (nD ?_)
 unfold m87
 refine Zb (fun y S'=>S'=S∧∃ i:Nat,y=aI i∧i≤b.size∧∀ j (h:j<b.size),j<i→33≤(b[j]).toNat∧(b[j]).toNat≤126)
  (fun y _=>b.size - ((Aw y).getD 0).toNat) ⟨rfl,0,rfl,AhS _,fun j _ hj=>(AhY _ hj).elim⟩ ?_
 dsimp only[BS]
 rintro _ S ⟨rfl,i,rfl,hi,hok⟩ KE hKE
 dsimp only[tD,Fi]
 rw[EP,As,Ag]
 refine Al (fun hlt=>?_) (fun hge=>?_)
 ·have hlt:i<b.size:=by simpa using hlt
  have bad:¬ (33≤(b[i]).toNat∧(b[i]).toNat≤126)→G3 b=false:=fun h=>by
   simp only[G3,Bool.and_eq_false_iff,decide_eq_false_iff_not]
   exact .inl fun h'=>h (h' i hlt)
  rw[H9 hlt,As,Ag]
  refine Al (fun h1=>⟨by rw[bad (fun h=>by have:=dT h1;omega)],Am.refl _⟩) (fun h1=>?_)
  rw[H9 hlt,AO,Ag]
  refine Al (fun h2=>⟨by rw[bad (fun h=>by have:=dT h2;omega)],Am.refl _⟩) (fun h2=>?_)
  have hadd:∀ K:AV→Aa→Prop,∀ S,bin .add 0 (.v (.int .i64 (i:Int))) (.v (.int .i64 1)) S K=K (aI (i+1:Nat)) S:=fun K S=>Ar (by omega) (by omega) 0
  rw[hadd]
  refine hKE _ _ ⟨rfl,i+1,rfl,hlt,fun j hj hj'=>?_⟩ (by simp[Aw];omega)
  rcases AiB j i with h|h
  ·exact hok j hj h
  ·have:j=i:=by omega
   subst this
   have h1:=dF h1
   have h2:=dF h2
   omega
 ·have hge:i=b.size:=by simp at hge;omega
  subst hge
  have hall:decide (∀ i (h:i<b.size),33≤(b[i]).toNat∧(b[i]).toNat≤126)=true:=decide_eq_true fun j hj=>hok j hj hj
  rw[EP,AO,Ag]
  refine Al (fun h1=>?_) (fun h1=>⟨?_,Am.refl _⟩)
  ·rw[EP,Di]
   refine⟨?_,Am.refl _⟩
   simp only[G3,hall,AhQ,show 0<b.size by simpa using h1,decide_true]
   rw[show decide ((b.size:Int)≤20)=decide (b.size≤20)from decide_eq_decide.2 (by omega)]
  ·simp[G3,show ¬ 0<b.size by simpa using h1]
theorem yT(b:ByteArray)(hb:b.size≤9223372036854775807):BF Pg 136 [.v (.string b)] (aB (G3 b)):=by
 intro S
 refine Ad.Bu (dA ?_)
 unfold AdI
 rw[EP]
 refine Ws (fun y S'=>S'=S∧∃ i:Nat,y=aI i∧i≤b.size∧∀ j (h:j<b.size),j<i→33≤(b[j]).toNat∧(b[j]).toNat≤126)
  (fun y _=>b.size - ((Aw y).getD 0).toNat) ⟨rfl,0,rfl,AhS _,fun j _ hj=>(AhY _ hj).elim⟩ ?_
 dsimp only[BS]
 rintro _ S ⟨rfl,i,rfl,hi,hok⟩ KE hKE
 dsimp only[fX,Fi]
 rw[As,Ag]
 refine Al (fun hlt=>?_) (fun hge=>?_)
 ·have hlt:i<b.size:=by simpa using hlt
  have bad:¬ (33≤(b[i]).toNat∧(b[i]).toNat≤126)→G3 b=false:=fun h=>by
   simp only[G3,Bool.and_eq_false_iff,decide_eq_false_iff_not]
   exact .inl fun h'=>h (h' i hlt)
  rw[H9 hlt,Di,Ag]
  refine Al (fun h1=>⟨by rw[bad (fun h=>by have:=dT h1;omega)],Am.refl _⟩) (fun h1=>?_)
  rw[H9 hlt,AO,Ag]
  refine Al (fun h2=>⟨by rw[bad (fun h=>by have:=dT h2;omega)],Am.refl _⟩) (fun h2=>?_)
  have hadd:∀ K:AV→Aa→Prop,∀ S,bin .add 0 (.v (.int .i64 (i:Int))) (.v (.int .i64 1)) S K=K (aI (i+1:Nat)) S:=fun K S=>Ar (by omega) (by omega) 0
  rw[hadd]
  refine hKE _ _ ⟨rfl,i+1,rfl,hlt,fun j hj hj'=>?_⟩ (by simp[Aw];omega)
  rcases AiB j i with h|h
  ·exact hok j hj h
  ·have:j=i:=by omega
   subst this
   have h1:=dF h1
   have h2:=dF h2
   omega
 ·have hge:i=b.size:=by simp at hge;omega
  subst hge
  have hall:decide (∀ i (h:i<b.size),33≤(b[i]).toNat∧(b[i]).toNat≤126)=true:=decide_eq_true fun j hj=>hok j hj hj
  have he:decide (b={ data:=#[] })=decide (b.size=0):=by
   by_cases h:b.size=0
   ·have:b={ data:=#[] }:=IT (Array.eq_empty_of_size_eq_zero h)
    subst this
    rfl
   ·have:¬ b={ data:=#[] }:=fun e=>h (by rw[e];rfl)
    simp[this,h]
  rw[RT,he,Ag]
  refine Al (fun h1=>?_) (fun h1=>⟨?_,Am.refl _⟩)
  ·have h1:b.size≠0:=by simpa using h1
   rw[EP,Di]
   refine⟨?_,Am.refl _⟩
   simp only[G3,hall,AhQ,show 0<b.size by omega,decide_true]
   rw[show decide ((b.size:Int)≤20)=decide (b.size≤20)from decide_eq_decide.2 (by omega)]
  ·have h1:b.size=0:=by simpa using h1
   simp[G3,h1]
def Ce(k:Int):Int:=if k=105 then 0 else if k=108 then 1 else if k=111 then 2 else if k=98 then 3 else if k=99 then 4 else if k=102 then 5 else -1
def N9:ByteArray:={ data:=#[105,108,111,98,99,102] }
def KS(i:Nat):Int:=[105,108,111,98,99,102].getD i 0
theorem WS{i:Nat}(h:i<6):∃ h':i<N9.size,((N9[i]'h').toNat:Int)=KS i:=by
 match i,h with
 |0,_|1,_|2,_|3,_|4,_|5,_=>exact⟨by decide,by decide⟩
theorem QG{k:Int}{i:Nat}(h:i<6)(hk:KS i=k):Ce k=i:=by
 subst hk
 match i,h with
 |0,_|1,_|2,_|3,_|4,_|5,_=>decide
theorem QF{k:Int}(h:∀ i,i<6→KS i≠k):Ce k = -1:=by
 have h0:(105:Int)≠k:=h 0 (by decide)
 have h1:(108:Int)≠k:=h 1 (by decide)
 have h2:(111:Int)≠k:=h 2 (by decide)
 have h3:(98:Int)≠k:=h 3 (by decide)
 have h4:(99:Int)≠k:=h 4 (by decide)
 have h5:(102:Int)≠k:=h 5 (by decide)
 simp only[Ce]
 rw[if_neg (Ne.symm h0),if_neg (Ne.symm h1),if_neg (Ne.symm h2),if_neg (Ne.symm h3),if_neg (Ne.symm h4),if_neg (Ne.symm h5)]
theorem iF(k:Int):BF Pg 89 [.v (.int .u8 k)] (aI (Ce k)):=by
 intro S
 refine Ad.Bu (nB ?_)
 unfold m89
 refine Za (fun y S'=>S'=S∧∃ i:Nat,y=aI i∧i≤6∧∀ j,j<i→KS j≠k)
  (fun y _=>6 - ((Aw y).getD 0).toNat) ⟨rfl,0,rfl,AhS _,fun j hj=>(AhY _ hj).elim⟩ ?_
 dsimp only[BS]
 rintro _ S ⟨rfl,i,rfl,hi,hno⟩ KE hKE
 dsimp only[tC,Fi]
 rw[EP,As,Ag]
 refine Al (fun hlt=>?_) (fun hge=>?_)
 ·have hlt:i<6:=by have:=dT hlt;exact Int.ofNat_lt.1 this
  obtain⟨h',he⟩:=WS hlt
  show Hy (.v (.string N9)) _ _ _
  rw[H9 h',he,AA,Ag]
  refine Al (fun h1=>⟨?_,Am.refl _⟩) (fun h1=>?_)
  ·rw[QG hlt (dT h1)]
  ·have hadd:∀ K:AV→Aa→Prop,∀ S,bin .add 0 (.v (.int .i64 (i:Int))) (.v (.int .i64 1)) S K=K (aI (i+1:Nat)) S:=fun K S=>Ar (by omega) (by omega) 0
   rw[hadd]
   refine hKE _ _ ⟨rfl,i+1,rfl,hlt,fun j hj=>?_⟩ (by simp[Aw];omega)
   rcases AiB j i with h|h
   ·exact hno j h
   ·have:j=i:=by omega
    subst this
    exact dF h1
 ·have hge:i=6:=by
    have:¬ ((i:Int)<6):=dF hge
    omega
  subst hge
  rw[QF hno]
  exact⟨rfl,Am.refl _⟩
theorem TZ(k:Int)(h0:0≤k)(h1:k<256):BF Pg 137 [.v (.int .u8 k)] (aI (Ce k)):=by
 intro S
 refine Ad.Bu (c8 ?_)
 unfold AdH kE
 refine Wr (fun S'=>Am S S'∧∃ i:Nat,S'.obj S.n=some (.sit N9 i)∧i≤6∧∀ j,j<i→KS j≠k)
  (fun S'=>match S'.obj S.n with|some (.sit _ i)=>6 - i|_=>0) ⟨(Am.refl S).new _,0,by rw[B1];rfl,AhS _,fun j hj=>(AhY _ hj).elim⟩ ?_
 rintro S1 ⟨k1,i,o1,hi,hno⟩ KE hKE
 dsimp only[TW,Fi];unfold MB
 simp only[o1]
 refine⟨fun hlt=>?_,fun hge=>?_⟩
 ·have hlt:i<6:=hlt
  have hdec:(((Utf8.decode N9 i).1:Nat):Int)=KS i∧(Utf8.decode N9 i).2=1:=by
   match i,hlt with
   |0,_|1,_|2,_|3,_|4,_|5,_=>exact⟨by decide,by decide⟩
  rw[hdec.1,hdec.2]
  show AZ _ _ _ _
  rw[Co]
  show KC _ _
  rw[Ag,Bf,Cn,JH,L8]
  have hw:IntKind.i32.wrap k=k:=by
   rw[IntKind.wrap_i32];omega
  rw[hw,AA,Ag]
  refine Al (fun h2=>⟨?_,k1.Dl (AhN _) _⟩) (fun h2=>?_)
  ·rw[QG hlt (dT h2).symm]
  ·refine hKE _ ⟨k1.Dl (AhN _) _,i+1,BG _ _,hlt,fun j hj=>?_⟩ (by simp only[BG,o1];omega)
   rcases AiB j i with h|h
   ·exact hno j h
   ·have:j=i:=by omega
    subst this
    exact Ne.symm (dF h2)
 ·have hge:i=6:=by
    have:¬ (i<6):=hge
    omega
  subst hge
  show AZ _ _ _ _
  rw[over,Co,Ag,A2,QF hno]
  exact⟨rfl,k1⟩
theorem iP(a:Int):BF Pg 159 [aI a] (aB false):=by
 intro S
 refine Ad.Bu (cG ?_)
 unfold AcX
 rw[Bl]
 exact⟨by simp,Am.refl _⟩
def RG(a b:Int):Int:=if a<b then -1 else if b<a then 1 else 0
theorem iT(a b:Int):BF Pg 139 [aI a,aI b] (aI (RG a b)):=by
 intro S
 refine Ad.Bu (cY ?_)
 dsimp only[AdF,Fi]
 refine Af (iP a) (Af (iP b) ?_)
 rw[Ag,A2,Ag,A2,As,Ag]
 refine Al (fun h=>⟨?_,Am.refl _⟩) (fun h=>?_)
 ·rw[RG,if_pos (dT h)]
 rw[AO,Ag]
 have h:=dF h
 refine Al (fun h2=>⟨?_,Am.refl _⟩) (fun h2=>⟨?_,Am.refl _⟩)
 ·rw[RG,if_neg h,if_pos (dT h2)]
 ·rw[RG,if_neg h,if_neg (dF h2)]
theorem yS(a b:Int):BF Pg 138 [.l [[aI a],[aI b]]] (aI (if a≠0 then a else b)):=by
 intro S
 refine Ad.Bu (cZ ?_)
 unfold AdG
 rw[xI]
 refine Wq (fun y S'=>S'=S∧∃ i:Nat,y=aI i∧i≤2∧(1≤i→a=0)∧(2≤i→b=0))
  (fun y _=>2 - ((Aw y).getD 0).toNat) ⟨rfl,0,rfl,AhS _,fun h=>by omega,fun h=>by omega⟩ ?_
 dsimp only[BS]
 rintro _ S ⟨rfl,i,rfl,hi,h1,h2⟩ KE hKE
 dsimp only[fW,Fi]
 rw[As,Ag]
 refine Al (fun hlt=>?_) (fun hge=>?_)
 ·have hlt:i<2:=by have:=dT hlt;exact Int.ofNat_lt.1 this
  have hadd:∀ K:AV→Aa→Prop,∀ S,bin .add 0 (.v (.int .i64 (i:Int))) (.v (.int .i64 1)) S K=K (aI (i+1:Nat)) S:=fun K S=>Ar (by omega) (by omega) 0
  match i,hlt with
  |0,_ =>
   rw[show ∀ K:AV→Aa→Prop,AS 3 1 (.l [[aI a],[aI b]]) (aI ((0:Nat):Int)) S K=K (.q [aI a] 0) S from fun K=>IK (es:=[[aI a],[aI b]]) (i:=0) (by simp) rfl,ES rfl,Bl,Ag]
   refine Al (fun h=>⟨?_,Am.refl _⟩) (fun h=>?_)
   ·rw[if_pos (by simpa using h)]
   ·rw[hadd]
    exact hKE _ _ ⟨rfl,1,rfl,by decide,fun _=>by simpa using h,fun h=>by omega⟩ (by simp[Aw])
  |1,_ =>
   have ha:=h1 (AhN _)
   rw[show ∀ K:AV→Aa→Prop,AS 3 1 (.l [[aI a],[aI b]]) (aI ((1:Nat):Int)) S K=K (.q [aI b] 0) S from fun K=>IK (es:=[[aI a],[aI b]]) (i:=1) (by simp) rfl,ES rfl,Bl,Ag]
   refine Al (fun h=>⟨?_,Am.refl _⟩) (fun h=>?_)
   ·rw[if_neg (by simp[ha])]
   ·rw[hadd]
    exact hKE _ _ ⟨rfl,2,rfl,by decide,fun _=>ha,fun _=>by simpa using h⟩ (by simp[Aw])
 ·have hge:i=2:=by
    have:¬ ((i:Int)<2):=dF hge
    omega
  subst hge
  refine⟨?_,Am.refl _⟩
  rw[h1 (by decide),h2 (by decide)]
  rfl
structure Na where
 kind:Int
 pos:Int
 text:ByteArray
 deriving DecidableEq
structure Ci where
 inputs:Int
 latches:List (Int × Int)
 ands:List (Int × Int)
 outs:List Int
 bads:List Int
 cons:List Int
 fair:List Int
 names:List Na
def Na.row(x:Na):List AV:=[.v (.int .u8 x.kind),aI x.pos,.v (.string x.text)]
def nL(l:List Na):AV:=.l (l.map Na.row)
def Ci.cells(c:Ci):List AV:=[aI c.inputs,pL c.latches,pL c.ands,aL aI c.outs,aL aI c.bads,aL aI c.cons,aL aI c.fair,nL c.names]
def Ci.av(c:Ci):AV:=.a c.cells
def Ci.gr(c:Ci):Gr:=⟨IntKind.i64.wrap (c.inputs+c.latches.length),c.ands⟩
structure Ci.ok (c:Ci):Prop where
 inp:Bv c.inputs
 llen:c.latches.length≤1000000
 alen:c.ands.length≤1000000
 lats:∀ p∈c.latches,Bv p.1∧Bv p.2
 pairs:∀ p∈c.ands,Bv p.1∧Bv p.2
 outs:(∀ x∈c.outs,Bv x)∧c.outs.length≤9223372036854775807
 bads:(∀ x∈c.bads,Bv x)∧c.bads.length≤9223372036854775807
 cons:(∀ x∈c.cons,Bv x)∧c.cons.length≤9223372036854775807
 fair:(∀ x∈c.fair,Bv x)∧c.fair.length≤9223372036854775807
 names:∀ x∈c.names,0≤x.kind∧x.kind<256∧Bv x.pos∧x.text.size≤9223372036854775807
 nlen:c.names.length≤1000000
theorem zW(n:Int):Bv (IntKind.i64.wrap n):=by
 unfold Bv
 rw[IntKind.wrap_i64];omega
theorem Ci.ok.gr{c:Ci}(h:c.ok):c.gr.ok:=⟨zW _,h.alen,h.pairs⟩
theorem Kh{a b:Int}(kd:Nat){S:Aa}{K:AV→Aa→Prop}:bin .add kd (aI a) (aI b) S K=K (aI (IntKind.i64.wrap (a+b))) S:=by
 simp[bin,b2,Hz,HP,Qc]
theorem Vq(c:Ci):BF Pg 50 [c.av] c.gr.av:=by
 intro S
 refine Ad.tree (oP ?_)
 dsimp only[m50,Lf]
 refine Ai rfl fun S1 k1 n1 o1=>?_
 refine Ai rfl fun S2 k2 n2 o2=>?_
 have p1:S2.obj S.n=_:=(k2.2 S.n (by omega)).trans o1
 rw[Ac,Ae p1 rfl rfl,Ac,Ae p1 rfl rfl,Bz,Kh,Ac,Ae p1 rfl rfl,A6 (cs:=c.gr.cells) rfl]
 refine AG o2 rfl rfl fun S3 n3 o3 f3=>?_
 rw[An (n:=2) o3 rfl]
 exact⟨_,rfl,(k1.trans k2).st (by omega) n3 f3,c.gr.tree _ _⟩
theorem Ow(c:Ci):BF Pg 17 [c.av] c.gr.av:=by
 intro S
 refine Ad.tree (Ve ?_)
 dsimp only[m17,Lf]
 refine Ai rfl fun S1 k1 n1 o1=>?_
 refine Ai rfl fun S2 k2 n2 o2=>?_
 have p1:S2.obj S.n=_:=(k2.2 S.n (by omega)).trans o1
 rw[Ac,Ae p1 rfl rfl,Ac,Ae p1 rfl rfl,Bz,Kh,Ac,Ae p1 rfl rfl,A6 (cs:=c.gr.cells) rfl]
 refine AG o2 rfl rfl fun S3 n3 o3 f3=>?_
 rw[An (n:=2) o3 rfl]
 exact⟨_,rfl,(k1.trans k2).st (by omega) n3 f3,c.gr.tree _ _⟩
def Ci.many(c:Ci)(k:Int):Int:=if k=105 then c.inputs else if k=108 then c.latches.length else if k=111 then c.outs.length else if k=98 then c.bads.length else if k=99 then c.cons.length else if k=102 then c.fair.length else 0
def Ci.Eb(c:Ci):List (Key × AV):=[(.i 105,aI c.inputs),(.i 108,aI c.latches.length),(.i 111,aI c.outs.length),(.i 98,aI c.bads.length),(.i 99,aI c.cons.length),(.i 102,aI c.fair.length)]
theorem ND(k:IntKind)(a:Int):Hx (.i k) (.v (.int k a))=some (.i a):=by simp[Hx]
theorem u7(c:Ci):BF Pg 94 [c.av] (.mt (.i .i32) c.Eb):=by
 intro S
 refine Ad.tree (mW ?_)
 dsimp only[m94,Lf]
 refine Ai rfl fun S1 k1 n1 o1=>?_
 unfold YG
 show shift _ _ _ _
 have p1:(S1.new (.map (.i .i32) [] true)).obj S.n=_:=(I3 (by omega)).trans o1
 have u:∀{es:List (Key × AV)},(Aa.Dl (S1.new (.map (.i .i32) [] true)) S1.n (.map (.i .i32) es true)).obj S.n=_:=fun{es}=>(C3 (by omega)).trans p1
 rw[Ac,Ae p1 rfl rfl,FD (B1 _) (ND _ _)]
 rw[Ac,Ae u rfl rfl,Bz,FD (BG _ _) (ND _ _),Gm]
 rw[Ac,Ae u rfl rfl,Ax,FD (BG _ _) (ND _ _),Gm]
 rw[Ac,Ae u rfl rfl,Ax,FD (BG _ _) (ND _ _),Gm]
 rw[Ac,Ae u rfl rfl,Ax,FD (BG _ _) (ND _ _),Gm]
 rw[Ac,Ae u rfl rfl,Ax,FD (BG _ _) (ND _ _),Gm]
 refine⟨_,rfl,(k1.new _).Dl (by omega) _,.m' S1.n (.i .i32) c.Eb c.Eb ?_ rfl (fun i e e2 h h2=>by rw[h]at h2;cases h2;rfl) (fun i e e2 h h2=>?_)⟩
 ·rw[U6 (BG _ _)]
  have:AL S.n S1.n=true:=by simp[AL];omega
  rw[this]
  rfl
 ·rw[h]at h2;cases h2
  match i with
  |0|1|2|3|4|5=>cases h;exact .v _
  |i+6=>simp[Ci.Eb]at h
theorem ZW(c:Ci)(k:Int):((Jf c.Eb (.i k)).getD (aI 0))=aI (c.many k):=by
 by_cases h0:k=105
 ·subst h0;rfl
 by_cases h1:k=108
 ·subst h1;rfl
 by_cases h2:k=111
 ·subst h2;rfl
 by_cases h3:k=98
 ·subst h3;rfl
 by_cases h4:k=99
 ·subst h4;rfl
 by_cases h5:k=102
 ·subst h5;rfl
 have:H8 c.Eb (.i k)=none:=by
  rw[FW]
  simp[Ci.Eb,h0,h1,h2,h3,h4,h5]
 simp[Jf,this,Ci.many,h0,h1,h2,h3,h4,h5]
theorem VN{c:Ci}{k:Int}(h:¬ Ce k<0):c.many k = [c.inputs,c.latches.length,c.outs.length,c.bads.length,c.cons.length,c.fair.length].getD (Ce k).toNat 0:=by
 unfold Ce at h ⊢
 unfold Ci.many
 repeat' split
 all_goals first|rfl|(exfalso;apply h;simp[*])
theorem UJ{c:Ci}{k:Int}(h:Ce k<0):c.many k=0:=by
 unfold Ce at h
 unfold Ci.many
 repeat' split
 all_goals first|rfl|(simp[*]at h)
theorem kI(k:Int):Ce k<6:=by
 unfold Ce
 repeat' split
 all_goals decide
theorem Ah1{e:Nat}{z a b c d f g:Int}{S:Aa}{K:AV→Aa→Prop}(k:K (.l [[aI a],[aI b],[aI c],[aI d],[aI f],[aI g]]) S):AU e 1 6 [aI z] [(0,aI a),(1,aI b),(2,aI c),(3,aI d),(4,aI f),(5,aI g)] S K:=by
 refine⟨[aI a,aI b,aI c,aI d,aI f,aI g],?_,.inr ?_⟩
 ·simp[CC,Cw,Kq,Ai7,cellsOf,AV.one,Value.oneCell']
 ·simpa[chunks,Ai7]using k
theorem AfI(c:Ci)(k:Int):BF Pg 88 [c.av,.v (.int .u8 k)] (aI (c.many k)):=by
 intro S
 refine Ad.Bu (nC ?_)
 dsimp only[m88,Fi,Lf]
 refine Ai rfl fun S1 k1 n1 o1=>?_
 refine Af (iF k) ?_
 rw[As,Ag]
 refine Al (fun h=>⟨?_,k1⟩) (fun h=>?_)
 ·rw[UJ (dT h)]
 have h:¬ Ce k<0:=dF h
 rw[Ac,Ae o1 rfl rfl,Ac,Ae o1 rfl rfl,Bz,Ac,Ae o1 rfl rfl,Ax,Ac,Ae o1 rfl rfl,Ax,Ac,Ae o1 rfl rfl,Ax,Ac,Ae o1 rfl rfl,Ax]
 refine Ah1 ?_
 obtain⟨r,hr⟩:=AhX (show 0≤Ce k by omega)
 have hr6:r<6:=by have:=kI k;omega
 rw[VN h,hr]
 match r,hr6 with
 |0,_|1,_|2,_|3,_|4,_|5,_ =>
  rw[IK (by simp) (by rfl),ES rfl]
  exact⟨rfl,k1⟩
def keyOf(b:ByteArray):Key:=.s b.data.toList
theorem Ob{a b:ByteArray}(h:keyOf a=keyOf b):a=b:=by
 simp only[keyOf,Key.s.injEq]at h
 exact IT (Array.toList_inj.1 h)
theorem Z7{es:List (Key × AV)}{x k:Key}{v:AV}:k∈(CW es x v).map (·.1)↔k∈es.map (·.1)∨k=x:=by
 induction es with
 |nil=>simp[CW]
 |cons e es ih =>
  simp only[CW]
  split
  ·rename_i h
   subst h
   simp only[List.map_cons,Ai9]
   constructor
   ·rintro(h|h)
    ·exact .inr h
    ·exact .inl (.inr h)
   ·rintro((h|h)|h)
    ·exact .inl h
    ·exact .inr h
    ·exact .inl h
  ·simp only[List.map_cons,Ai9,ih,or_assoc]
theorem M3{es:List (Key × AV)}{x:Key}{v:AV}(h:x∈es.map (·.1)):(CW es x v).length=es.length:=by
 induction es with
 |nil=>simp at h
 |cons e es ih =>
  simp only[CW]
  split
  ·rfl
  ·rename_i hne
   have:x∈es.map (·.1):=by
    rcases Ai9.1 h with h|h
    ·exact absurd h.symm hne
    ·exact h
   simp[ih this]
structure Ln (es:List (Key × AV)) (l:List Key):Prop where
 mem:∀ k,k∈es.map (·.1)↔k∈l
 le:es.length≤l.length
 eq:es.length=l.length↔l.Nodup
theorem Ln.nil:Ln [] []:=⟨fun k=>by simp,AhN _,by simp⟩
theorem Ln.add{es:List (Key × AV)}{l:List Key}(h:Ln es l)(x:Key)(v:AV):Ln (CW es x v) (l ++ [x]) where
 mem k:=by rw[Z7,h.mem,Ai8,AhT]
 le:=by
  have:=h.le
  by_cases c:x∈es.map (·.1)
  ·rw[M3 c];simp;omega
  ·rw[DZ (FW.2 c)];simp;omega
 eq:=by
  have hle:=h.le
  rw[Aj0]
  by_cases c:x∈es.map (·.1)
  ·rw[M3 c]
   constructor
   ·intro e;simp at e;omega
   ·rintro⟨_,_,h3⟩
    exact absurd rfl (h3 x ((h.mem x).1 c) x (by simp))
  ·rw[DZ (FW.2 c)]
   simp only[Ai2,AiG,Nat.add_right_cancel_iff,h.eq]
   constructor
   ·intro e
    refine⟨e,by simp,fun a ha b hb=>?_⟩
    have:b=x:=by simpa using hb
    subst this
    rintro rfl
    exact c ((h.mem _).2 ha)
   ·exact fun e=>e.1
def Gz(c:Ci)(x:Na):Prop:=G3 x.text=true∧0≤x.pos∧x.pos<c.many x.kind
def DB(y x:Na):Prop:=Ce y.kind<Ce x.kind∨Ce y.kind=Ce x.kind∧y.pos<x.pos
structure E8 (c:Ci) (n:Nat):Prop where
 ok:∀ i (h:i<c.names.length),i<n→Gz c c.names[i]
 lt:∀ i (h:i+1<c.names.length),i+1<n→DB c.names[i] c.names[i+1]
 nodup:((c.names.take n).map fun x=>keyOf x.text).Nodup
open Classical in
def Cl (c:Ci):Bool:=decide (E8 c c.names.length)
theorem E8.zero(c:Ci):E8 c 0:=⟨fun _ _ h=>by omega,fun _ _ h=>by omega,by simp⟩
theorem E8.sL{c:Ci}{i:Nat}(h:i<c.names.length)(hn:¬ Gz c c.names[i]):Cl c=false:=by
 simp only[Cl,decide_eq_false_iff_not]
 exact fun h'=>hn (h'.ok i h h)
theorem E8.sM{c:Ci}{i:Nat}(h:i+1<c.names.length)(hn:¬ DB c.names[i] c.names[i+1]):Cl c=false:=by
 simp only[Cl,decide_eq_false_iff_not]
 exact fun h'=>hn (h'.lt i h h)
@[simp] theorem PN(l:List Na){S:Aa}{K:AV→Aa→Prop}:AF (nL l) S K=K (aI l.length) S:=by simp[nL]
theorem M1{l:List Na}{e i:Nat}{S:Aa}{K:AV→Aa→Prop}(h:i<l.length):AS e 3 (nL l) (aI i) S K=K (.q l[i].row 0) S:=by
 unfold nL
 rw[IK (by simpa using h) (by simp[Na.row])]
 simp
theorem TB{u v z:AV}{S:Aa}{K:AV→Aa→Prop}:AB 3 (.q [u,v,z] 0) S K=K (.a [u,v,z]) S:=by simp[AB,Xp,place]
theorem AgV(b:ByteArray):Hx .s (.v (.string b))=some (keyOf b):=rfl
theorem ZY{S:Aa}{kk:KK}{z:AV}{c:Bool}{k:AV}{key:Key}{es:List (Key × AV)}{K:AV→Aa→Prop}(hk:Hx kk k=some key):UW kk z c (.mt kk es) k S K=K (jU z c (Jf es key)) S:=by
 simp[UW,Ol,hk]
theorem ZX(c:Ci)(k:Int):jU (aI 0) false (Jf c.Eb (.i k))=aI (c.many k):=ZW c k
theorem wrap32{k:Int}(h0:0≤k)(h1:k<256):IntKind.i32.wrap k=k:=by rw[IntKind.wrap_i32];omega
theorem yX{c:Ci}(hc:c.ok):BF Pg 101 [c.av] (aB (Cl c)):=by
 intro S
 refine Ad.Bu (eJ ?_)
 have hlen:=hc.nlen
 dsimp only[AeE,Lf]
 refine Ai rfl fun S1 k1 n1 o1=>?_
 rw[An (n:=8) o1 rfl]
 refine Af (u7 c) ?_
 unfold YG
 show shift _ _ _ _
 have k2:=k1.new (.map .s [] true)
 have p2:(S1.new (.map .s [] true)).obj S.n=_:=(I3 (by omega)).trans o1
 rw[Ac,Ae p2 rfl rfl,PN]
 refine WN (fun y S'=>Am S S'∧S1.n<S'.n∧S'.obj S.n=some (.cells 29 [c.cells] true)∧∃ i:Nat,y=aI i∧i≤c.names.length∧
     (∀ j (h:j<c.names.length),j<i→Gz c c.names[j])∧(∀ j (h:j+1<c.names.length),j+1<i→DB c.names[j] c.names[j+1])∧∃ es,S'.obj S1.n=some (.map .s es true)∧Ln es ((c.names.take i).map fun x=>keyOf x.text))
  (fun y _=>c.names.length - ((Aw y).getD 0).toNat) ⟨k2,by simp,p2,0,rfl,AhS _,fun j _ h=>by omega,fun j _ h=>by omega,[],B1 _,by simpa using Ln.nil⟩ ?_
 dsimp only[BS]
 rintro _ S3 ⟨k3,n3,p3,i,rfl,hi,hok,hltn,es,m3,ht⟩ KE hKE
 dsimp only[gU,Fi,Lf,Lq,Ld]
 rw[As,Ag]
 refine Al (fun hlt=>?_) (fun hge=>?_)
 ·have hlt:i<c.names.length:=by simpa using hlt
  have hx:=hc.names _ (AhP hlt)
  rw[M1 hlt]
  generalize hxe:c.names[i]=x at *
  have hno:=fun h=>E8.sL hlt (hxe ▸ h)
  unfold Na.row
  rw[TB]
  refine Ai rfl fun S4 k4 n4 o4=>?_
  refine AG o4 rfl rfl fun S5 n5 o5 f5=>?_
  have k5:Am S S5:=(k3.trans k4).st (by have:=k3.1;omega) n5 f5
  have p5:S5.obj S.n=_:=(f5 _ (by omega)).trans (Kg k4 p3)
  have m5:S5.obj S1.n=_:=(f5 _ (by omega)).trans (Kg k4 m3)
  rw[Ac,Ae o5 rfl rfl]
  refine Af (yT x.text hx.2.2.2) ?_
  rw[AJ,Ag]
  refine Al (fun h1=>⟨?_,k5⟩) (fun h1=>?_)
  ·rw[hno (fun h=>by rw[h.1]at h1;cases h1)]
  rw[Ac,Ae o5 rfl rfl]
  refine Af (TZ x.kind hx.1 hx.2.1) ?_
  rw[As,Ag]
  refine Al (fun h2=>⟨?_,k5⟩) (fun h2=>?_)
  ·rw[hno (fun h=>by have:=h.2;rw[UJ (dT h2)]at this;omega)]
  rw[Ac,Ae o5 rfl rfl,As,Ag]
  refine Al (fun h3=>⟨?_,k5⟩) (fun h3=>?_)
  ·rw[hno (fun h=>by have:=h.2;have:=dT h3;omega)]
  rw[Ac,Ae o5 rfl rfl,Ac,Ae o5 rfl rfl,L8,wrap32 hx.1 hx.2.1,ZY (ND _ _)]
  rw[ZX]
  rw[BH,Ag]
  refine Al (fun h4=>⟨?_,k5⟩) (fun h4=>?_)
  ·rw[hno (fun h=>by have:=h.2;have:=dT h4;omega)]
  have hgood:Gz c x:=⟨by simpa using h1,by have:=dF h3;omega,by have:=dF h4;omega⟩
  rw[Ac,Ae o5 rfl rfl,A6 (cs:=[]) rfl,FD m5 (AgV _)]
  have k6:=k5.Dl (id:=S1.n) (by omega) (.map .s (CW es (keyOf x.text) (.a [])) true)
  have p6:(Aa.Dl S5 S1.n (.map .s (CW es (keyOf x.text) (.a [])) true)).obj S.n=_:=(C3 (by omega)).trans p5
  have o6:(Aa.Dl S5 S1.n (.map .s (CW es (keyOf x.text) (.a [])) true)).obj S3.n=_:=(C3 (by omega)).trans o5
  have m6:(Aa.Dl S5 S1.n (.map .s (CW es (keyOf x.text) (.a [])) true)).obj S1.n=_:=BG _ _
  have n6:S4.n=(Aa.Dl S5 S1.n (.map .s (CW es (keyOf x.text) (.a [])) true)).n:=n5.symm
  have n6':S3.n+1=(Aa.Dl S5 S1.n (.map .s (CW es (keyOf x.text) (.a [])) true)).n:=by rw[←n6,n4]
  generalize Aa.Dl S5 S1.n (.map .s (CW es (keyOf x.text) (.a [])) true)=S6 at *
  have ht':Ln (CW es (keyOf x.text) (.a [])) ((c.names.take (i+1)).map fun x=>keyOf x.text):=by
   rw[AiA,AhM hlt,hxe,AhU]
   exact ht.add _ _
  have hok':∀ j (h:j<c.names.length),j<i+1→Gz c c.names[j]:=fun j hj hj'=>by
   rcases AiB j i with h|h
   ·exact hok j hj h
   ·have:j=i:=by omega
    subst this
    rw[hxe];exact hgood
  have hadd:∀ K:AV→Aa→Prop,∀ S,bin .add 0 (.v (.int .i64 (i:Int))) (.v (.int .i64 1)) S K=K (aI (i+1:Nat)) S:=fun K S=>Ar (by omega) (by omega) 0
  have hμ:c.names.length - ((Aw (aI (i+1:Nat))).getD 0).toNat<c.names.length - ((Aw (aI i)).getD 0).toNat:=by simp[Aw];omega
  rw[AA,Ag]
  refine Al (fun h5=>?_) (fun h5=>?_)
  ·have h5:i=0:=by have:=dT h5;omega
   rw[hadd]
   exact hKE _ _ ⟨k6,by omega,p6,i+1,rfl,hlt,hok',fun j hj hj'=>by omega,_,m6,ht'⟩ hμ
  ·have h5:i≠0:=by have:=dF h5;omega
   obtain⟨j,rfl⟩:∃ j,i=j+1:=⟨i - 1,by omega⟩
   have hj:j<c.names.length:=by omega
   have hy:=hc.names _ (AhP hj)
   have hsub:∀ K:AV→Aa→Prop,∀ S,bin .sub 0 (.v (.int .i64 ((j+1:Nat):Int))) (.v (.int .i64 1)) S K=K (aI j) S:=fun K S=>(Bx (by omega) (by omega) 0).trans (by rw[show((j+1:Nat):Int) - 1=j by omega])
   rw[Ac,Ae p6 rfl rfl,hsub,M1 hj]
   have hnl:¬ DB c.names[j] x→Cl c=false:=fun h=>E8.sM hlt (by rw[hxe];exact h)
   generalize hye:c.names[j]=y at *
   unfold Na.row
   rw[TB]
   refine Ai rfl fun S7 k7 n7 o7=>?_
   refine AG o7 rfl rfl fun S8 n8 o8 f8=>?_
   have k8:Am S S8:=(k6.trans k7).st (by have:=k6.1;omega) n8 f8
   have p8:S8.obj S.n=_:=(f8 _ (by omega)).trans (Kg k7 p6)
   have m8:S8.obj S1.n=_:=(f8 _ (by omega)).trans (Kg k7 m6)
   have q8:S8.obj S3.n=_:=(f8 _ (by omega)).trans (Kg k7 o6)
   show ∃ q50:AV,_
   refine⟨_,by rw[Ac];exact⟨rfl,rfl⟩,?_⟩
   refine⟨_,by rw[Ae o8 rfl rfl];exact⟨rfl,rfl⟩,?_⟩
   refine⟨_,Af (TZ y.kind hy.1 hy.2.1) ⟨rfl,rfl⟩,?_⟩
   refine⟨_,by rw[Ac];exact⟨rfl,rfl⟩,?_⟩
   refine⟨_,by rw[Ae q8 rfl rfl];exact⟨rfl,rfl⟩,?_⟩
   refine⟨_,Af (TZ x.kind hx.1 hx.2.1) ⟨rfl,rfl⟩,?_⟩
   refine⟨_,Af (iT _ _) ⟨rfl,rfl⟩,?_⟩
   refine⟨_,by rw[Ac];exact⟨rfl,rfl⟩,?_⟩
   refine⟨_,by rw[Ae o8 rfl rfl];exact⟨rfl,rfl⟩,?_⟩
   refine⟨_,by rw[Ac];exact⟨rfl,rfl⟩,?_⟩
   refine⟨_,by rw[Ae q8 rfl rfl];exact⟨rfl,rfl⟩,?_⟩
   refine⟨_,Af (iT _ _) ⟨rfl,rfl⟩,?_⟩
   refine⟨_,eO rfl rfl ⟨rfl,rfl⟩,?_⟩
   refine⟨_,Af (yS _ _) ⟨rfl,rfl⟩,?_⟩
   refine⟨_,by rw[BH];exact⟨rfl,rfl⟩,?_⟩
   rw[Ag]
   have hcmp:(0≤if RG (Ce y.kind) (Ce x.kind)≠0 then RG (Ce y.kind) (Ce x.kind)else RG y.pos x.pos)↔¬ DB y x:=by
    unfold RG DB
    repeat' split
    all_goals omega
   refine Al (fun h6=>⟨?_,k8⟩) (fun h6=>?_)
   ·rw[hnl (hcmp.1 (dT h6))]
   ·rw[hadd]
    refine hKE _ _ ⟨k8,by omega,p8,j+1+1,rfl,hlt,hok',fun k hk hk'=>?_,_,m8,ht'⟩ hμ
    rcases AiB (k+1) (j+1)with h|h
    ·exact hltn k hk h
    ·have:k=j:=by omega
     subst this
     rw[hxe,hye]
     have:=dF h6
     exact Classical.not_not.1 fun hh=>this (hcmp.2 hh)
 ·have hge:i=c.names.length:=by simp at hge;omega
  subst hge
  rw[Z1 m3,Ac,Ae p3 rfl rfl,PN,AA]
  refine⟨?_,k3⟩
  congr 3
  simp only[Cl,decide_eq_decide]
  have:=ht.eq
  rw[AhR,AiF,Nat.min_self]at this
  rw[Int.natCast_inj,this]
  exact⟨fun h=>⟨hok,hltn,h⟩,fun h=>h.nodup⟩
theorem AfR{c:Ci}(hc:c.ok):BF Pg 45 [c.av] (aB (Cl c)):=by
 intro S
 refine Ad.Bu (oV ?_)
 have hlen:=hc.nlen
 unfold m45
 refine Ai rfl fun S1 k1 n1 o1=>?_
 refine ZA (fun y S'=>Am S S'∧S.n<S'.n∧S'.obj S.n=some (.cells 29 [c.cells] true)∧∃ i:Nat,y=aI i∧i≤c.names.length∧E8 c i)
  (fun y _=>c.names.length - ((Aw y).getD 0).toNat) ⟨k1,by omega,o1,0,rfl,AhS _,E8.zero c⟩ ?_
 dsimp only[BS]
 rintro _ S3 ⟨k3,n3,p3,i,rfl,hi,hR⟩ KE hKE
 dsimp only[uB,P7,Mb,Fi,Lf,Lq,Ld]
 rw[Ac,Ae p3 rfl rfl,PN,As,Ag]
 refine Al (fun hlt=>?_) (fun hge=>?_)
 ·have hlt:i<c.names.length:=by simpa using hlt
  have hx:=hc.names _ (AhP hlt)
  rw[Ac,Ae p3 rfl rfl,M1 hlt]
  generalize hxe:c.names[i]=x at *
  have hno:=fun h=>E8.sL hlt (hxe ▸ h)
  have hrow:x.row = [.v (.int .u8 x.kind),aI x.pos,.v (.string x.text)]:=rfl
  rw[hrow,TB]
  refine Ai rfl fun S4 k4 n4 o4=>?_
  refine AG o4 rfl rfl fun S5 n5 o5 f5=>?_
  have k5:Am S S5:=(k3.trans k4).st (by have:=k3.1;omega) n5 f5
  have p5:S5.obj S.n=_:=(f5 _ (by omega)).trans (Kg k4 p3)
  show ∃ q13:AV,_
  refine⟨_,by rw[Ac];exact⟨rfl,rfl⟩,?_⟩
  refine⟨_,by rw[Ae o5 rfl rfl];exact⟨rfl,rfl⟩,?_⟩
  refine⟨_,Af (AfJ x.text hx.2.2.2) ⟨rfl,rfl⟩,?_⟩
  refine⟨_,by rw[AJ];exact⟨rfl,rfl⟩,?_⟩
  rw[Ag]
  refine Al (fun h1=>?_) (fun h1=>?_)
  ·refine⟨_,⟨rfl,rfl⟩,?_⟩
   rw[Ag,Bf]
   refine⟨_,⟨rfl,rfl⟩,?_⟩
   rw[Ag,Bf]
   exact⟨by rw[hno (fun h=>by rw[h.1]at h1;cases h1)],k5⟩
  refine⟨_,by rw[Ac];exact⟨rfl,rfl⟩,?_⟩
  refine⟨_,by rw[Ae o5 rfl rfl];exact⟨rfl,rfl⟩,?_⟩
  refine⟨_,by rw[As];exact⟨rfl,rfl⟩,?_⟩
  refine⟨_,⟨rfl,rfl⟩,?_⟩
  rw[Ag]
  refine Al (fun h3=>?_) (fun h3=>?_)
  ·refine⟨_,⟨rfl,rfl⟩,?_⟩
   rw[Ag,Bf]
   exact⟨by rw[hno (fun h=>by have:=h.2;have:=dT h3;omega)],k5⟩
  refine⟨_,by rw[Ac];exact⟨rfl,rfl⟩,?_⟩
  refine⟨_,by rw[Ae o5 rfl rfl];exact⟨rfl,rfl⟩,?_⟩
  refine⟨_,by rw[An (n:=8) p5 rfl];exact⟨rfl,rfl⟩,?_⟩
  refine⟨_,by rw[Ac];exact⟨rfl,rfl⟩,?_⟩
  refine⟨_,by rw[Ae o5 rfl rfl];exact⟨rfl,rfl⟩,?_⟩
  refine⟨_,Af (AfI c x.kind) ⟨rfl,rfl⟩,?_⟩
  refine⟨_,by rw[BH];exact⟨rfl,rfl⟩,?_⟩
  refine⟨_,⟨rfl,rfl⟩,?_⟩
  rw[Ag]
  refine Al (fun h4=>⟨?_,k5⟩) (fun h4=>?_)
  ·rw[hno (fun h=>by have:=h.2;have:=dT h4;omega)]
  have hgood:Gz c x:=⟨by simpa using h1,by have:=dF h3;omega,by have:=dF h4;omega⟩
  have hok':∀ j (h:j<c.names.length),j<i+1→Gz c c.names[j]:=fun j hj hj'=>by
   rcases AiB j i with h|h
   ·exact hR.ok j hj h
   ·have:j=i:=by omega
    subst this
    rw[hxe];exact hgood
  refine Zz (fun y S'=>S'=S5∧∃ k:Nat,y=aI k∧k≤i∧∀ j (hj:j<k) (hk:k≤i),(c.names[j]'(by omega)).text≠x.text)
   (fun y _=>i - ((Aw y).getD 0).toNat) ⟨rfl,0,rfl,AhS _,fun j hj=>(AhY _ hj).elim⟩ ?_
  dsimp only[BS]
  rintro _ S5 ⟨rfl,k,rfl,hk,hne⟩ KE1 hKE1
  dsimp only[uA,Fi,Lq,Ld]
  rw[As,Ag]
  refine Al (fun hlk=>?_) (fun hgk=>?_)
  ·have hlk:k<i:=by simpa using hlk
   have hkl:k<c.names.length:=by omega
   show ∃ q70:AV,_
   refine⟨_,by rw[Ac];exact⟨rfl,rfl⟩,?_⟩
   refine⟨_,by rw[Ae p5 rfl rfl];exact⟨rfl,rfl⟩,?_⟩
   refine⟨_,by rw[M1 hkl];exact⟨rfl,rfl⟩,?_⟩
   refine⟨_,by rw[Fe];exact⟨rfl,rfl⟩,?_⟩
   refine⟨_,by rw[ES (u:=.v (.string c.names[k].text)) rfl];exact⟨rfl,rfl⟩,?_⟩
   refine⟨_,by rw[Ac];exact⟨rfl,rfl⟩,?_⟩
   refine⟨_,by rw[Ae o5 rfl rfl];exact⟨rfl,rfl⟩,?_⟩
   refine⟨_,by rw[RU];exact⟨rfl,rfl⟩,?_⟩
   rw[Ag]
   refine Al (fun h6=>⟨?_,k5⟩) (fun h6=>?_)
   ·have h6:c.names[k].text=x.text:=dT h6
    have:Cl c=false:=by
     simp only[Cl,decide_eq_false_iff_not]
     intro h'
     have hnd:=h'.nodup
     rw[AiM]at hnd
     have:=List.pairwise_iff_getElem.1 hnd k i (by simpa using hkl) (by simpa using hlt) hlk
     simp only[List.getElem_map,hxe,h6]at this
     exact this rfl
    rw[this]
   ·have hadd:∀ K:AV→Aa→Prop,∀ S,bin .add 0 (.v (.int .i64 (k:Int))) (.v (.int .i64 1)) S K=K (aI (k+1:Nat)) S:=fun K S=>Ar (by omega) (by omega) 0
    rw[hadd]
    refine hKE1 _ _ ⟨rfl,k+1,rfl,hlk,fun j hj _=>?_⟩ (by simp[Aw];omega)
    rcases AiB j k with hj'|hj'
    ·exact hne j hj' (by omega)
    ·have:j=k:=by omega
     subst this
     exact dF h6
  ·have hge:k=i:=by simp at hgk;omega
   subst hge
   have hnd':((c.names.take (k+1)).map fun x=>keyOf x.text).Nodup:=by
    have h:=hR.nodup
    rw[AiA,AhM hlt,AhU,Aj0]
    refine⟨h,by simp,fun a ha b hb=>?_⟩
    rw[Ai5]at ha hb
    obtain⟨y,hy,rfl⟩:=ha
    obtain⟨z,hz,rfl⟩:=hb
    have:z=x:=by simpa[hxe]using hz
    subst this
    rw[List.mem_take_iff_getElem]at hy
    obtain⟨j,hj,rfl⟩:=hy
    exact fun e=>hne j (by omega) (AhN _) (Ob e)
   have hadd:∀ K:AV→Aa→Prop,∀ S,bin .add 0 (.v (.int .i64 (k:Int))) (.v (.int .i64 1)) S K=K (aI (k+1:Nat)) S:=fun K S=>Ar (by omega) (by omega) 0
   have hμ:c.names.length - ((Aw (aI (k+1:Nat))).getD 0).toNat<c.names.length - ((Aw (aI k)).getD 0).toNat:=by simp[Aw];omega
   have next:(∀ j (h:j+1<c.names.length),j+1=k→DB c.names[j] x)→KE _ (Fs (.p S.n 0 0) (aI (k+1:Nat))) S5:=fun hl=>hKE _ _ ⟨k5,by omega,p5,k+1,rfl,hlt,hok',fun j hj hj'=>by
    rcases AiB (j+1) k with h|h
    ·exact hR.lt j hj h
    ·have e:j+1=k:=by omega
     have:=hl j hj e
     subst e
     rw[hxe];exact this,hnd'⟩ hμ
   rw[AO,Ag]
   refine Al (fun h7=>?_) (fun h7=>?_)
   ·obtain⟨j,rfl⟩:∃ j,k=j+1:=⟨k - 1,by have:=dT h7;omega⟩
    have hj:j<c.names.length:=by omega
    have hnl:¬ DB c.names[j] x→Cl c=false:=fun h=>E8.sM hlt (by rw[hxe];exact h)
    have next:=fun(h:DB c.names[j] x)=>next (fun j' hj' e=>by
     have:j'=j:=by omega
     subst this
     exact h)
    have hsub:∀ K:AV→Aa→Prop,∀ S,bin .sub 0 (.v (.int .i64 ((j+1:Nat):Int))) (.v (.int .i64 1)) S K=K (aI j) S:=fun K S=>(Bx (by omega) (by omega) 0).trans (by rw[show((j+1:Nat):Int) - 1=j by omega])
    have hix:∀ K:AV→Aa→Prop,AS 91 3 (nL c.names) (aI j) S5 K=K (.q c.names[j].row 0) S5:=fun K=>M1 hj
    generalize hye:c.names[j]=y at *
    have hrow':y.row = [.v (.int .u8 y.kind),aI y.pos,.v (.string y.text)]:=rfl
    show ∃ q90:AV,_
    refine⟨_,by rw[Ac];exact⟨rfl,rfl⟩,?_⟩
    refine⟨_,by rw[Ae p5 rfl rfl];exact⟨rfl,rfl⟩,?_⟩
    refine⟨_,by rw[hsub];exact⟨rfl,rfl⟩,?_⟩
    refine⟨_,by rw[hix];exact⟨rfl,rfl⟩,?_⟩
    refine⟨_,by rw[Fe];exact⟨rfl,rfl⟩,?_⟩
    refine⟨_,by rw[ES (u:=.v (.int .u8 y.kind)) rfl];exact⟨rfl,rfl⟩,?_⟩
    refine⟨_,Af (iF y.kind) ⟨rfl,rfl⟩,?_⟩
    refine⟨_,by rw[Ac];exact⟨rfl,rfl⟩,?_⟩
    refine⟨_,by rw[Ae o5 rfl rfl];exact⟨rfl,rfl⟩,?_⟩
    refine⟨_,Af (iF x.kind) ⟨rfl,rfl⟩,?_⟩
    show ∃ q110:AV,_
    refine⟨_,by rw[AO];exact⟨rfl,rfl⟩,?_⟩
    rw[Ag]
    refine Al (fun h8=>?_) (fun h8=>?_)
    ·refine⟨_,⟨rfl,rfl⟩,?_⟩
     rw[Ag,Bf]
     refine⟨?_,k5⟩
     have h8:=dT h8
     rw[hnl (by unfold DB;omega)]
    have h8:=dF h8
    refine⟨_,by rw[AA];exact⟨rfl,rfl⟩,?_⟩
    rw[Ag]
    refine Al (fun h9=>?_) (fun h9=>?_)
    ·have h9:Ce y.kind=Ce x.kind:=dT h9
     refine⟨_,by rw[Ac];exact⟨rfl,rfl⟩,?_⟩
     refine⟨_,by rw[Ae p5 rfl rfl];exact⟨rfl,rfl⟩,?_⟩
     refine⟨_,by rw[hsub];exact⟨rfl,rfl⟩,?_⟩
     refine⟨_,by rw[hix];exact⟨rfl,rfl⟩,?_⟩
     refine⟨_,by rw[Fe];exact⟨rfl,rfl⟩,?_⟩
     refine⟨_,by rw[ES (u:=aI y.pos) rfl];exact⟨rfl,rfl⟩,?_⟩
     refine⟨_,by rw[Ac];exact⟨rfl,rfl⟩,?_⟩
     refine⟨_,by rw[Ae o5 rfl rfl];exact⟨rfl,rfl⟩,?_⟩
     refine⟨_,by rw[BH];exact⟨rfl,rfl⟩,?_⟩
     refine⟨_,⟨rfl,rfl⟩,?_⟩
     refine⟨_,⟨rfl,rfl⟩,?_⟩
     rw[Ag]
     refine Al (fun h10=>⟨?_,k5⟩) (fun h10=>?_)
     ·have h10:=dT h10
      rw[hnl (by unfold DB;omega)]
     ·have h10:=dF h10
      rw[hadd]
      exact next (by unfold DB;omega)
    ·have h9:¬ Ce y.kind=Ce x.kind:=dF h9
     refine⟨_,⟨rfl,rfl⟩,?_⟩
     refine⟨_,⟨rfl,rfl⟩,?_⟩
     rw[Ag,A2,hadd]
     exact next (by unfold DB;omega)
   ·rw[hadd]
    exact next (fun j hj e=>by have:=dF h7;omega)
 ·have hge:i=c.names.length:=by simp at hge;omega
  subst hge
  refine⟨?_,k3⟩
  have:Cl c=true:=by simp only[Cl,decide_eq_true_eq];exact hR
  rw[this]
theorem Vr{g:Gr}{l:List Int}(hg:g.ok)(hl:∀ x∈l,Bv x)(hn:l.length≤9223372036854775807):BF Pg 44 [g.av,aL aI l] (aB (l.all g.lit && decide (l.length≤2000))):=by
 intro S
 refine Ad.Bu (oW ?_)
 unfold m44
 refine Ai rfl fun S1 k1 n1 o1=>?_
 refine ZB (fun y S'=>S'=S1∧∃ i:Nat,y=aI i∧i≤l.length∧∀ j (h:j<l.length),j<i→g.lit l[j]=true)
  (fun y _=>l.length - ((Aw y).getD 0).toNat) ⟨rfl,0,rfl,AhS _,fun j _ hj=>(AhY _ hj).elim⟩ ?_
 dsimp only[BS]
 rintro _ S1 ⟨rfl,i,rfl,hi,hok⟩ KE hKE
 dsimp only[uC,Fi,Lq,Ld]
 rw[Ax,As,Ag]
 refine Al (fun hlt=>?_) (fun hge=>?_)
 ·have hlt:i<l.length:=by simpa using hlt
  have hm:=AhP hlt
  show ∃ q5:AV,_
  refine⟨_,by rw[An (n:=2) o1 rfl];exact⟨rfl,rfl⟩,?_⟩
  refine⟨_,by rw[AM hlt];exact⟨rfl,rfl⟩,?_⟩
  refine⟨_,by rw[A1];exact⟨rfl,rfl⟩,?_⟩
  refine⟨_,Af (Ov hg (hl _ hm)) ⟨rfl,rfl⟩,?_⟩
  refine⟨_,by rw[AJ];exact⟨rfl,rfl⟩,?_⟩
  rw[Ag]
  refine Al (fun h=>⟨?_,k1⟩) (fun h=>?_)
  ·have:l.all g.lit=false:=by
     rw[AiN]
     exact⟨_,hm,by simpa using h⟩
   rw[this];rfl
  ·have hadd:∀ K:AV→Aa→Prop,∀ S,bin .add 0 (.v (.int .i64 (i:Int))) (.v (.int .i64 1)) S K=K (aI (i+1:Nat)) S:=fun K S=>Ar (by omega) (by omega) 0
   rw[hadd]
   refine hKE _ _ ⟨rfl,i+1,rfl,hlt,fun j hj hj'=>?_⟩ (by simp[Aw];omega)
   rcases AiB j i with h'|h'
   ·exact hok j hj h'
   ·have:j=i:=by omega
    subst this
    simpa using h
 ·have hge:i=l.length:=by simp at hge;omega
  subst hge
  rw[Ax,Di]
  refine⟨?_,k1⟩
  have:l.all g.lit=true:=by
   rw[AhW]
   intro x hx
   obtain⟨j,hj,rfl⟩:=AiI hx
   exact hok j hj hj
  rw[this,AhQ,show decide ((l.length:Int)≤2000)=decide (l.length≤2000)from decide_eq_decide.2 (by omega)]
def Db(g:Gr)(p:Int × Int):Bool:=g.lit p.1 && (decide (0≤p.2) && decide (p.2≤2))
def Ci.G5(c:Ci):List Int:=[c.inputs,c.latches.length,c.outs.length,c.bads.length,c.cons.length,c.fair.length]
def Ci.right (c:Ci):Bool:=
 c.G5.all (fun n=>decide (0≤n) && decide (n≤2000)) && (c.gr.right && (c.latches.all (Db c.gr) && (c.outs.all c.gr.lit && (c.bads.all c.gr.lit && (c.cons.all c.gr.lit && (c.fair.all c.gr.lit && Cl c))))))
theorem Af0{S:Aa}{g:Gr}{id:Nat}{l:Int}(hg:g.ok)(hl:Bv l)(h:S.obj id=some (.cells 61 [g.cells] true)):AT Pg 95 [aI l,.p id 0 0] S (aB (!g.lit l)):=by
 refine mV ?_
 unfold m95
 rw[An (n:=2) h rfl]
 refine Af (u6 hg hl) ?_
 rw[AJ]
 exact⟨rfl,rfl⟩
theorem Ah4{S:Aa}{g:Gr}{id fid t:Nat}{p:Int × Int}(hg:g.ok)(hl:Bv p.1)(hid:id<S.n)(hf:fid<S.n)(h:S.obj id=some (.cells 61 [g.cells] true))
    (h2:S.obj fid=some (.cells t [[.f (.func 95) [] [.p id 0 0]]] true)):AT Pg 97 [.a [aI p.1,aI p.2],.p fid 0 0] S (aB (!Db g p)):=by
 refine Ad.Bu (mS ?_)
 dsimp only[m97,Fi,Lf]
 refine Ai rfl fun S1 k1 n1 o1=>?_
 have h':=(k1.2 _ hid).trans h
 have h2':=(k1.2 _ hf).trans h2
 rw[Ae h2' rfl rfl,Ac,Ae o1 rfl rfl]
 refine BL (Af0 hg hl h') ?_
 rw[Ag]
 refine Al (fun h3=>⟨?_,k1⟩) (fun h3=>?_)
 ·rw[Ai6]at h3
  simp[Db,h3]
 have h3:g.lit p.1=true:=by simpa using h3
 rw[Ac,Ae o1 rfl rfl,As,Ag]
 refine Al (fun h4=>⟨?_,k1⟩) (fun h4=>?_)
 ·have h4:=dT h4
  simp[Db,show ¬ 0≤p.2 by omega]
 rw[Ac,Ae o1 rfl rfl,AO]
 refine⟨?_,k1⟩
 have h4:=dF h4
 simp only[Db,h3,AhQ,show 0≤p.2 by omega,decide_true]
 congr 4
 rw[←decide_not]
 exact decide_eq_decide.2 (by omega)
theorem Af9{l:List (Int × Int)}(hl:l.length≤9223372036854775807){g:Int × Int→Bool}{fn:FuncId}{fs cs:List AV}{S:Aa}
    (hf:∀ x,x∈l→AT Pg fn (fs ++ [.a [aI x.1,aI x.2]]++cs) S (aB (g x))):AT Pg 135 [pL l,.f (.func fn) fs cs] S (aI (idxOf (l.findIdx? g))):=by
 refine dB ?_
 unfold AdJ
 rw[Bz]
 refine Wt (fun y S'=>S'=S∧∃ i:Nat,y=aI i∧i≤l.length∧∀ k (hk:k<l.length),k<i→g l[k]=false) (fun y _=>l.length - ((Aw y).getD 0).toNat) ⟨rfl,0,rfl,AhS _,fun k _ h=>absurd h (AhY _)⟩ ?_
 dsimp only[BS]
 rintro _ _ ⟨rfl,i,rfl,hi,hk⟩ KE hKE
 dsimp only[fY,Fi]
 rw[As,Ag]
 refine Al (fun h=>?_) (fun h=>?_)
 ·have hlt:i<l.length:=by simpa using h
  rw[C6 hlt,GD]
  refine BL (hf _ (AhP hlt)) ?_
  rw[Ag]
  refine Al (fun hg=>⟨?_,rfl⟩) (fun hg=>?_)
  ·rw[JG hlt hg (fun k hk'=>hk k _ hk')];rfl
  ·rw[Ar (by omega) (by omega)]
   refine hKE _ _ ⟨rfl,i+1,rfl,hlt,fun k hk1 hk2=>?_⟩ ?_
   ·by_cases e:k=i
    ·subst e;exact hg
    ·exact hk k hk1 (by omega)
   ·simp[Aw,aI];omega
 ·have hge:i=l.length:=by simp at h;omega
  subst hge
  rw[F1 (fun k hk'=>hk k hk' hk')]
  exact⟨rfl,rfl⟩
theorem Ah3{l:List (Int × Int)}(hl:l.length≤9223372036854775807){g:Int × Int→Bool}{fn:FuncId}{fs cs:List AV}{S:Aa}
    (hf:∀ x,x∈l→AT Pg fn (fs ++ [.a [aI x.1,aI x.2]]++cs) S (aB (g x))):AT Pg 99 [pL l,.f (.func fn) fs cs] S (aB (l.any g)):=by
 refine mQ ?_
 unfold m99
 refine At (Af9 hl hf) ?_
 unfold aI
 rw[BH,JD]
 exact⟨rfl,rfl⟩
theorem YK{c:Ci}{i:Nat}{e:Key × AV}(h:c.Eb[i]? = some e):∃ h':i<6,e.2=aI (c.G5[i]'h'):=by
 match i with
 |0|1|2|3|4|5=>cases h;exact⟨by decide,rfl⟩
 |i+6=>simp[Ci.Eb]at h
theorem Vn{l:List Int}{g:Int→Bool}:l.any (fun x=>!g x) = !l.all g:=by
 induction l with
 |nil=>rfl
 |cons a l ih=>simp[ih]
theorem iE{l:List (Int × Int)}{g:Int × Int→Bool}:l.any (fun x=>!g x) = !l.all g:=by
 induction l with
 |nil=>rfl
 |cons a l ih=>simp[ih]
theorem NV:∀{n:Nat} {l:List Nat},l.Nodup→(∀ x∈l,x<n)→l.length≤n
 |0,l,_,h=>by
  cases l with
  |nil=>simp
  |cons x l=>exact absurd (h x (by simp)) (AhY _)
 |n+1,l,hd,h=>by
  have h1:=NV (n:=n) (l:=l.erase n) (hd.erase n) (fun x hx=>by
   have:=(hd.mem_erase_iff).1 hx
   have:=h x this.2
   omega)
  by_cases hm:n∈l
  ·have:=List.length_erase_of_mem hm
   omega
  ·rw[List.erase_of_not_mem hm]at h1
   omega
theorem iJ{c:Ci}(hc:c.ok):BF Pg 49 [c.av] (aB c.right):=by
 intro S
 refine Ad.Bu (oQ ?_)
 have hg:=hc.gr
 unfold m49
 refine Ai rfl fun S1 k1 n1 o1=>?_
 rw[An (n:=8) o1 rfl]
 refine Af (Vq c) ?_
 refine Ai rfl fun S2 k2 n2 o2=>?_
 refine AG o2 rfl rfl fun S3 n3 o3 f3=>?_
 have k3:Am S S3:=(k1.trans k2).st (by omega) n3 f3
 have p3:S3.obj S.n=_:=(f3 _ (by omega)).trans (Kg k2 o1)
 rw[An (n:=8) p3 rfl]
 refine Af (u7 c) ?_
 show Ap _ _ _ _ _ _
 have hmany:∀(i:Nat) (h:i<6),¬ (0≤c.G5[i]'h∧c.G5[i]'h≤2000)→c.right=false:=fun i h hn=>by
  have:c.G5.all (fun n=>decide (0≤n) && decide (n≤2000))=false:=by
   rw[AiN]
   exact⟨_,AhP (l:=c.G5) h,by simpa using hn⟩
  simp only[Ci.right,this,AhV]
 refine Zx (fun S'=>Am S S'∧S3.n<S'.n∧S'.obj S.n=some (.cells 29 [c.cells] true)∧S'.obj S1.n=some (.cells 61 [c.gr.cells] true)∧
     ∃ seen,S'.obj S3.n=some (.mit (.mt (.i .i32) c.Eb) 6 seen)∧seen.Nodup∧(∀ i∈seen,∃ h:i<6,0≤c.G5[i]'h∧c.G5[i]'h≤2000))
  (fun S'=>match S'.obj S3.n with|some (.mit _ _ seen)=>6 - seen.length|_=>0)
  ⟨k3.new _,by simp,(I3 (by omega)).trans p3,(I3 (by omega)).trans o3,[],B1 _,by simp,fun i h=>by simp at h⟩ ?_
 rintro S4 ⟨k4,n4,p4,g4,seen,m4,hnd,hse⟩ KE hKE
 dsimp only[eS,Fi,Lf];unfold MB
 simp only[m4,NZ,BP]
 refine⟨rfl,fun i e he hi=>?_,fun hall=>?_⟩
 ·obtain⟨hi6,hev⟩:=YK he
  have k5:Am S (Aa.Dl S4 S3.n (.mit (.mt (.i .i32) c.Eb) 6 (seen ++ [i]))):=k4.Dl (by have:=k3.1;omega) _
  have m5:(Aa.Dl S4 S3.n (.mit (.mt (.i .i32) c.Eb) 6 (seen ++ [i]))).obj S3.n=_:=BG _ _
  have p5:(Aa.Dl S4 S3.n (.mit (.mt (.i .i32) c.Eb) 6 (seen ++ [i]))).obj S.n=_:=(C3 (by omega)).trans p4
  have g5:(Aa.Dl S4 S3.n (.mit (.mt (.i .i32) c.Eb) 6 (seen ++ [i]))).obj S1.n=_:=(C3 (by omega)).trans g4
  have n5:(Aa.Dl S4 S3.n (.mit (.mt (.i .i32) c.Eb) 6 (seen ++ [i]))).n=S4.n:=rfl
  generalize Aa.Dl S4 S3.n (.mit (.mt (.i .i32) c.Eb) 6 (seen ++ [i]))=S5 at *
  rw[Co,Ag,Bf]
  unfold M8
  simp only[m5,NZ,BP]
  refine⟨rfl,i,by simp,e,he,?_⟩
  show AZ _ _ _ _
  rw[Cn,hev,As,Ag]
  refine Al (fun h1=>⟨?_,k5⟩) (fun h1=>?_)
  ·rw[hmany i hi6 (fun h=>by have:=dT h1;omega)]
  rw[AO,Ag]
  refine Al (fun h2=>⟨?_,k5⟩) (fun h2=>?_)
  ·rw[hmany i hi6 (fun h=>by have:=dT h2;omega)]
  have h1:=dF h1
  have h2:=dF h2
  have hnd':(seen ++ [i]).Nodup:=by
   rw[Aj0]
   refine⟨hnd,by simp,fun a ha b hb=>?_⟩
   have:b=i:=by simpa using hb
   subst this
   rintro rfl
   exact hi ha
  have hse':∀ j∈seen ++ [i],∃ h:j<6,0≤c.G5[j]'h∧c.G5[j]'h≤2000:=fun j hj=>by
   rcases Ai8.1 hj with hj|hj
   ·exact hse j hj
   ·have:j=i:=by simpa using hj
    subst this
    exact⟨hi6,by omega,by omega⟩
  have hlen:(seen ++ [i]).length≤6:=by
   exact NV hnd' (fun x hx=>(hse' x hx).1)
  refine hKE _ ⟨k5,by omega,p5,g5,_,m5,hnd',hse'⟩ ?_
  simp only[m5,m4]
  simp at hlen ⊢
  omega
 ·unfold over
  rw[Co,Ag,A2]
  have hm:c.G5.all (fun n=>decide (0≤n) && decide (n≤2000))=true:=by
   rw[AhW]
   intro x hx
   obtain⟨i,hi,rfl⟩:=AiI hx
   obtain⟨h6,h0,h1⟩:=hse i (hall i hi)
   simp only[AhO,decide_eq_true_eq]
   exact⟨h0,h1⟩
  have hright:c.right=(c.gr.right && (c.latches.all (Db c.gr) && (c.outs.all c.gr.lit && (c.bads.all c.gr.lit && (c.cons.all c.gr.lit && (c.fair.all c.gr.lit && Cl c)))))):=by
   simp only[Ci.right,hm,AhQ]
  clear hm hall hse hmany
  refine BN rfl fun S5 k5 n5 o5=>?_
  refine B9 o5 rfl rfl fun S6 n6 o6 f6=>?_
  have k6:Am S S6:=(k4.trans k5).st (by have:=k4.1;omega) n6 f6
  have p6:S6.obj S.n=_:=(f6 _ (by omega)).trans (Kg k5 p4)
  have g6:S6.obj S1.n=_:=(f6 _ (by omega)).trans (Kg k5 g4)
  rw[An (n:=2) g6 rfl]
  refine Af (u5 hg) ?_
  rw[AJ,Ag]
  refine Al (fun h1=>⟨?_,k6⟩) (fun h1=>?_)
  ·rw[Ai6]at h1
   rw[hright,h1];rfl
  have h1:c.gr.right=true:=by simpa using h1
  rw[Ac,Ae p6 rfl rfl]
  have hlat:=hc.llen
  refine At (Ah3 (by omega) (g:=fun p=>!Db c.gr p) (fun p hp=>Ah4 hg (hc.lats p hp).1 (by omega) (by omega) g6 o6)) ?_
  rw[iE,Ag]
  refine Al (fun h2=>⟨?_,k6⟩) (fun h2=>?_)
  ·rw[Ai6]at h2
   rw[hright,h1,h2];rfl
  have h2:c.latches.all (Db c.gr)=true:=by simpa using h2
  rw[Ac,Ae p6 rfl rfl,Ac,Ae p6 rfl rfl,Ac,Ae p6 rfl rfl,Ac,Ae p6 rfl rfl,A6 (cs:=[aL aI c.outs,aL aI c.bads,aL aI c.cons,aL aI c.fair]) rfl]
  rw[h1,h2,AhQ,AhQ]at hright
  have call:∀(l:List Int),((∀ x∈l,Bv x)∧l.length≤9223372036854775807)→∀{Q:Bh→Aa→Prop} {K:AV→Aa→Prop},K (aB (!l.all c.gr.lit)) S6→Ah Pg 100 [aL aI l,.f (.func 95) [] [.p S1.n 0 0]] S6 Q K:=fun l hl Q K k =>
   At (Vm hl.2 (g:=fun x=>!c.gr.lit x) (fun x hx=>Af0 hg (hl.1 x hx) g6)) (show K (aB (l.any fun x=>!c.gr.lit x)) S6 by rw[Vn];exact k)
  refine Zw (fun y S'=>S'=S6∧∃ i:Nat,y=aI i∧i≤4∧(1≤i→c.outs.all c.gr.lit=true)∧(2≤i→c.bads.all c.gr.lit=true)∧(3≤i→c.cons.all c.gr.lit=true)∧(4≤i→c.fair.all c.gr.lit=true))
   (fun y _=>4 - ((Aw y).getD 0).toNat) ⟨rfl,0,rfl,AhS _,fun h=>by omega,fun h=>by omega,fun h=>by omega,fun h=>by omega⟩ ?_
  dsimp only[BS]
  rintro _ S6 ⟨rfl,i,rfl,hi,a1,a2,a3,a4⟩ KE1 hKE1
  dsimp only[tY,Fi]
  rw[As,Ag]
  refine Al (fun hlt=>?_) (fun hge=>?_)
  ·have hlt:i<4:=by have:=dT hlt;exact Int.ofNat_lt.1 this
   have hadd:∀ K:AV→Aa→Prop,∀ S,bin .add 0 (.v (.int .i64 (i:Int))) (.v (.int .i64 1)) S K=K (aI (i+1:Nat)) S:=fun K S=>Ar (by omega) (by omega) 0
   match i,hlt with
   |0,_ =>
    refine⟨0,rfl,⟨by decide,by decide⟩,_,rfl,?_⟩
    show Ay _ _ _
    rw[Ae o6 rfl rfl]
    refine call _ hc.outs ?_
    rw[Ag]
    refine Al (fun h=>⟨?_,k6⟩) (fun h=>?_)
    ·rw[Ai6]at h
     rw[hright,h];rfl
    ·rw[hadd]
     exact hKE1 _ _ ⟨rfl,1,rfl,by decide,fun _=>by simpa using h,fun h=>by omega,fun h=>by omega,fun h=>by omega⟩ (by simp[Aw])
   |1,_ =>
    have a1:=a1 (by decide)
    refine⟨1,rfl,⟨by decide,by decide⟩,_,rfl,?_⟩
    show Ay _ _ _
    rw[Ae o6 rfl rfl]
    refine call _ hc.bads ?_
    rw[Ag]
    refine Al (fun h=>⟨?_,k6⟩) (fun h=>?_)
    ·rw[Ai6]at h
     rw[hright,a1,h];rfl
    ·rw[hadd]
     exact hKE1 _ _ ⟨rfl,2,rfl,by decide,fun _=>a1,fun _=>by simpa using h,fun h=>by omega,fun h=>by omega⟩ (by simp[Aw])
   |2,_ =>
    have a1:=a1 (by decide)
    have a2:=a2 (by decide)
    refine⟨2,rfl,⟨by decide,by decide⟩,_,rfl,?_⟩
    show Ay _ _ _
    rw[Ae o6 rfl rfl]
    refine call _ hc.cons ?_
    rw[Ag]
    refine Al (fun h=>⟨?_,k6⟩) (fun h=>?_)
    ·rw[Ai6]at h
     rw[hright,a1,a2,h];rfl
    ·rw[hadd]
     exact hKE1 _ _ ⟨rfl,3,rfl,by decide,fun _=>a1,fun _=>a2,fun _=>by simpa using h,fun h=>by omega⟩ (by simp[Aw])
   |3,_ =>
    have a1:=a1 (by decide)
    have a2:=a2 (by decide)
    have a3:=a3 (by decide)
    refine⟨3,rfl,⟨by decide,by decide⟩,_,rfl,?_⟩
    show Ay _ _ _
    rw[Ae o6 rfl rfl]
    refine call _ hc.fair ?_
    rw[Ag]
    refine Al (fun h=>⟨?_,k6⟩) (fun h=>?_)
    ·rw[Ai6]at h
     rw[hright,a1,a2,a3,h];rfl
    ·rw[hadd]
     exact hKE1 _ _ ⟨rfl,4,rfl,by decide,fun _=>a1,fun _=>a2,fun _=>a3,fun _=>by simpa using h⟩ (by simp[Aw])
  ·have hge:i=4:=by
     have:¬ ((i:Int)<4):=dF hge
     omega
   subst hge
   rw[An (n:=8) p6 rfl]
   refine Af (yX hc) ⟨?_,k6⟩
   rw[hright,a1 (by decide),a2 (by decide),a3 (by decide),a4 (by decide)];rfl
theorem Bq{c:Ci}:c.right=true↔(0≤c.inputs∧c.inputs≤2000)∧c.latches.length≤2000∧c.outs.length≤2000∧c.bads.length≤2000∧c.cons.length≤2000∧c.fair.length≤2000∧
    c.gr.right=true∧c.latches.all (Db c.gr)=true∧c.outs.all c.gr.lit=true∧c.bads.all c.gr.lit=true∧c.cons.all c.gr.lit=true∧c.fair.all c.gr.lit=true∧Cl c=true:=by
 have e:∀ n:Nat,(decide (0≤(n:Int)) && decide ((n:Int)≤2000))=decide (n≤2000):=fun n=>by
  rw[decide_eq_true (by omega:0≤(n:Int)),AhQ]
  exact decide_eq_decide.2 (by omega)
 simp only[Ci.right,Ci.G5,AiX,List.all_nil,e,AhO,decide_eq_true_eq,Bool.and_true]
 constructor
 ·rintro⟨⟨a,b1,b2,b3,b4,b5⟩,c1,c2,c3,c4,c5,c6,c7⟩
  exact⟨a,b1,b2,b3,b4,b5,c1,c2,c3,c4,c5,c6,c7⟩
 ·rintro⟨a,b1,b2,b3,b4,b5,c1,c2,c3,c4,c5,c6,c7⟩
  exact⟨⟨a,b1,b2,b3,b4,b5⟩,c1,c2,c3,c4,c5,c6,c7⟩
theorem Og{b:Bool}{A B:Prop}(h2:b=false→B)(h1:b=true→A):gd b A B:=Al h1 h2
theorem Dy{c:Ci}(h:¬ c.right=true):c.right=false:=by simpa using h
theorem Vs{c:Ci}(hc:c.ok):BF Pg 24 [c.av] (aB c.right):=by
 intro S
 refine Ad.Bu (pP ?_)
 have hg:=hc.gr
 have hll:=hc.llen
 dsimp only[m24,Fi,Lf]
 refine Ai rfl fun S1 k1 n1 o1=>?_
 rw[An (n:=8) o1 rfl]
 refine Af (Ow c) ?_
 refine Ai rfl fun S2 k2 n2 o2=>?_
 refine AG o2 rfl rfl fun S3 n3 o3 f3=>?_
 have k3:Am S S3:=(k1.trans k2).st (by omega) n3 f3
 have p3:S3.obj S.n=_:=(f3 _ (by omega)).trans (Kg k2 o1)
 rw[Ac,Ae p3 rfl rfl,As,Ag]
 refine Al (fun h1=>⟨?_,k3⟩) (fun h1=>?_)
 ·rw[Dy fun h=>by have:=(Bq.1 h).1;have:=dT h1;omega]
 rw[Ac,Ae p3 rfl rfl,AO,Ag]
 refine Al (fun h2=>⟨?_,k3⟩) (fun h2=>?_)
 ·rw[Dy fun h=>by have:=(Bq.1 h).1;have:=dT h2;omega]
 rw[Ac,Ae p3 rfl rfl,Bz,AO,Ag]
 refine Al (fun h3=>⟨?_,k3⟩) (fun h3=>?_)
 ·rw[Dy fun h=>by have:=(Bq.1 h).2.1;have:=dT h3;omega]
 have h1:=dF h1
 have h2:=dF h2
 have h3:=dF h3
 rw[An (n:=2) o3 rfl]
 refine Af (iK hg) ?_
 rw[AJ,Ag]
 refine Al (fun h4=>⟨?_,k3⟩) (fun h4=>?_)
 ·rw[Dy fun h=>by rw[(Bq.1 h).2.2.2.2.2.2.1]at h4;cases h4]
 have h4:c.gr.right=true:=by simpa using h4
 refine ZP (fun y S'=>S'=S3∧∃ i:Nat,y=aI i∧i≤c.latches.length∧∀ j (h:j<c.latches.length),j<i→Db c.gr c.latches[j]=true)
  (fun y _=>c.latches.length - ((Aw y).getD 0).toNat) ⟨rfl,0,rfl,AhS _,fun j _ hj=>(AhY _ hj).elim⟩ ?_
 dsimp only[BS]
 rintro _ S3 ⟨rfl,i,rfl,hi,hok⟩ KE hKE
 dsimp only[uQ,P8,Fi,Lf,Lq,Ld]
 rw[Ac,Ae p3 rfl rfl,Bz,As,Ag]
 refine Al (fun hlt=>?_) (fun hge=>?_)
 ·have hlt:i<c.latches.length:=by simpa using hlt
  have hm:=AhP hlt
  have hno:Db c.gr c.latches[i]=false→c.right=false:=fun h=>Dy fun h'=>by
   have:=AhW.1 (Bq.1 h').2.2.2.2.2.2.2.1 _ hm
   rw[h]at this;cases this
  have hix:∀ K:AV→Aa→Prop,AS 67 2 (pL c.latches) (aI i) S3 K=K (.q [aI c.latches[i].1,aI c.latches[i].2] 0) S3:=fun K=>C6 hlt
  have hl:=(hc.lats _ hm).1
  have hnext:Db c.gr c.latches[i]=true→KE _ (GR (.p S.n 0 0) (.p S1.n 0 0) (aI (i+1:Nat))) S3:=fun h=>hKE _ _ ⟨rfl,i+1,rfl,hlt,fun j hj hj'=>by
   rcases AiB j i with h'|h'
   ·exact hok j hj h'
   ·have:j=i:=by omega
    subst this
    exact h⟩ (by simp[Aw];omega)
  generalize c.latches[i]=x at *
  show ∃ q28:AV,_
  refine⟨_,by rw[An (n:=2) o3 rfl];exact⟨rfl,rfl⟩,?_⟩
  refine⟨_,by rw[Ac];exact⟨rfl,rfl⟩,?_⟩
  refine⟨_,by rw[Ae p3 rfl rfl];exact⟨rfl,rfl⟩,?_⟩
  refine⟨_,by rw[hix];exact⟨rfl,rfl⟩,?_⟩
  refine⟨_,by rw[Fe];exact⟨rfl,rfl⟩,?_⟩
  refine⟨_,by rw[ES (u:=aI x.1) rfl];exact⟨rfl,rfl⟩,?_⟩
  refine⟨_,Af (Ov hg hl) ⟨rfl,rfl⟩,?_⟩
  refine⟨_,by rw[AJ];exact⟨rfl,rfl⟩,?_⟩
  rw[Ag]
  refine Al (fun h5=>?_) (fun h5=>?_)
  ·refine⟨_,⟨rfl,rfl⟩,?_⟩
   rw[Ag,Bf]
   refine⟨_,⟨rfl,rfl⟩,?_⟩
   rw[Ag,Bf]
   refine⟨?_,k3⟩
   rw[Ai6]at h5
   rw[hno (by simp[Db,h5])]
  have h5:c.gr.lit x.1=true:=by simpa using h5
  refine⟨_,by rw[Ac];exact⟨rfl,rfl⟩,?_⟩
  refine⟨_,by rw[Ae p3 rfl rfl];exact⟨rfl,rfl⟩,?_⟩
  refine⟨_,by rw[hix];exact⟨rfl,rfl⟩,?_⟩
  refine⟨_,by rw[Fe];exact⟨rfl,rfl⟩,?_⟩
  refine⟨_,by rw[ES (u:=aI x.2) rfl];exact⟨rfl,rfl⟩,?_⟩
  refine⟨_,by rw[As];exact⟨rfl,rfl⟩,?_⟩
  refine⟨_,⟨rfl,rfl⟩,?_⟩
  rw[Ag]
  refine Al (fun h6=>?_) (fun h6=>?_)
  ·refine⟨_,⟨rfl,rfl⟩,?_⟩
   rw[Ag,Bf]
   refine⟨?_,k3⟩
   have h6:=dT h6
   rw[hno (by simp[Db,show ¬ 0≤x.2 by omega])]
  refine⟨_,by rw[Ac];exact⟨rfl,rfl⟩,?_⟩
  refine⟨_,by rw[Ae p3 rfl rfl];exact⟨rfl,rfl⟩,?_⟩
  refine⟨_,by rw[hix];exact⟨rfl,rfl⟩,?_⟩
  refine⟨_,by rw[Fe];exact⟨rfl,rfl⟩,?_⟩
  refine⟨_,by rw[ES (u:=aI x.2) rfl];exact⟨rfl,rfl⟩,?_⟩
  refine⟨_,by rw[AO];exact⟨rfl,rfl⟩,?_⟩
  refine⟨_,⟨rfl,rfl⟩,?_⟩
  rw[Ag]
  refine Al (fun h7=>⟨?_,k3⟩) (fun h7=>?_)
  ·have h7:=dT h7
   rw[hno (by simp[Db,show ¬ x.2≤2 by omega])]
  ·have hadd:∀ K:AV→Aa→Prop,∀ S,bin .add 0 (.v (.int .i64 (i:Int))) (.v (.int .i64 1)) S K=K (aI (i+1:Nat)) S:=fun K S=>Ar (by omega) (by omega) 0
   rw[hadd]
   have h6:=dF h6
   have h7:=dF h7
   exact hnext (by simp[Db,h5,show 0≤x.2 by omega,show x.2≤2 by omega])
 ·have hge:i=c.latches.length:=by simp at hge;omega
  subst hge
  have h5:c.latches.all (Db c.gr)=true:=by
   rw[AhW]
   intro x hx
   obtain⟨j,hj,rfl⟩:=AiI hx
   exact hok j hj hj
  rw[An (n:=2) o3 rfl,Ac,Ae p3 rfl rfl]
  refine Af (Vr hg hc.outs.1 hc.outs.2) ?_
  rw[Ag]
  refine Og (fun a1=>⟨?_,k3⟩) (fun a1=>?_)
  ·rw[Dy fun h=>by simp[(Bq.1 h).2.2.2.2.2.2.2.2.1,(Bq.1 h).2.2.1]at a1]
  rw[An (n:=2) o3 rfl,Ac,Ae p3 rfl rfl]
  refine Af (Vr hg hc.bads.1 hc.bads.2) ?_
  rw[Ag]
  refine Og (fun a2=>⟨?_,k3⟩) (fun a2=>?_)
  ·rw[Dy fun h=>by simp[(Bq.1 h).2.2.2.2.2.2.2.2.2.1,(Bq.1 h).2.2.2.1]at a2]
  rw[An (n:=2) o3 rfl,Ac,Ae p3 rfl rfl]
  refine Af (Vr hg hc.cons.1 hc.cons.2) ?_
  rw[Ag]
  refine Og (fun a3=>⟨?_,k3⟩) (fun a3=>?_)
  ·rw[Dy fun h=>by simp[(Bq.1 h).2.2.2.2.2.2.2.2.2.2.1,(Bq.1 h).2.2.2.2.1]at a3]
  rw[An (n:=2) o3 rfl,Ac,Ae p3 rfl rfl]
  refine Af (Vr hg hc.fair.1 hc.fair.2) ?_
  rw[Ag]
  refine Og (fun a4=>⟨?_,k3⟩) (fun a4=>?_)
  ·rw[Dy fun h=>by simp[(Bq.1 h).2.2.2.2.2.2.2.2.2.2.2.1,(Bq.1 h).2.2.2.2.2.1]at a4]
  rw[An (n:=8) p3 rfl]
  refine Af (AfR hc) ⟨?_,k3⟩
  rw[AhO,decide_eq_true_eq]at a1 a2 a3 a4
  congr 3
  rw[Bool.eq_iff_iff]
  exact⟨fun h=>Bq.2 ⟨⟨by omega,by omega⟩,by omega,a1.2,a2.2,a3.2,a4.2,h4,h5,a1.1,a2.1,a3.1,a4.1,h⟩,fun h=>(Bq.1 h).2.2.2.2.2.2.2.2.2.2.2.2⟩
def Ec(v:List Bool)(l:Int):Bool:=v.getD (l.tdiv 2).toNat false != decide (l.tmod 2=1)
def Dv(g:Gr)(ins:List Bool):Nat→List Bool
 |0=>false :: ins
 |i+1=>Dv g ins i ++ [Ec (Dv g ins i) (g.ands.getD i (0,0)).1 && Ec (Dv g ins i) (g.ands.getD i (0,0)).2]
@[simp] theorem Iv(g:Gr)(ins:List Bool):∀ i,(Dv g ins i).length=ins.length+1+i
 |0=>rfl
 |i+1=>by simp[Dv,Iv g ins i];omega
def DP(g:Gr)(ins:List Bool):List Bool:=if(g.right && decide ((ins.length:Int)=g.inputs))=true then Dv g ins g.ands.length else[]
theorem P3{S:Aa}{x:AV}{l:Int}{b:Bool}(hl:Bv l)(hx:∀ K:AV→Aa→Prop,K (aB b) S→AS 4 1 x (aI (l.tdiv 2)) S fun v S=>Ay v S K):AT Pg 91 [x,aI l] S (aB (b != decide (l.tmod 2=1))):=by
 refine mZ ?_
 unfold m91
 rw[Cc hl]
 refine hx _ ?_
 rw[Ez (by decide),AA,DI]
 exact⟨rfl,rfl⟩
theorem YJ{g:Gr}(h:g.right=true){i:Nat}(hi:i<g.ands.length):2≤g.ands[i].2∧g.ands[i].2.tdiv 2<g.ands[i].1.tdiv 2∧g.ands[i].1.tdiv 2<g.inputs+1+i∧0≤g.ands[i].2.tdiv 2:=by
 have:=(CF.1 h).2.2.2.2.1 i hi
 rw[show g.ands.getD i (0,0)=g.ands[i]by simp[AhL,hi]]at this
 simp only[may,AhO,decide_eq_true_eq]at this
 exact⟨this.1,this.2.1,this.2.2,Int.tdiv_nonneg (by omega) (by decide)⟩
theorem TC{n:Nat}{S:Aa}{x:AV}{v:List Bool}(h:A4 n S x 4 (v.map fun b=>[aB b])){z:Int}(h0:0≤z)(h1:z<v.length)(K:AV→Aa→Prop)(k:K (aB (v.getD z.toNat false)) S):AS 4 1 x (aI z) S fun v S=>Ay v S K:=by
 obtain⟨i,rfl⟩:=AhX h0
 have hi:i<v.length:=by omega
 obtain⟨id,rfl,h2,h3,h4⟩:=h.ix (i:=i) (by simpa using hi)
 rw[Cf (by simpa using hi) h4,Ae h4 (by rw[AhZ,Ai4,AhM hi];rfl) rfl]
 rw[show(v.getD (Int.toNat i) false)=v[i]by simp[AhL,hi]]at k
 exact k
theorem GG{S:Aa}{v:List Bool}{z:Int}(h0:0≤z)(h1:z<v.length)(K:AV→Aa→Prop)(k:K (aB (v.getD z.toNat false)) S):AS 4 1 (aL aB v) (aI z) S fun v S=>Ay v S K:=by
 obtain⟨i,rfl⟩:=AhX h0
 have hi:i<v.length:=by omega
 rw[AM hi,A1]
 rw[show(v.getD (Int.toNat i) false)=v[i]by simp[AhL,hi]]at k
 exact k
def rQ(f:FuncId)(args:List AV)(l:List Bool):Prop:=
 ∀ S,Ad Pg f args S (fun r S'=>∃ x,r = .ret x∧Am S S'∧A4 S.n S' x 4 (l.map fun b=>[aB b]))
theorem rQ.NA{f:FuncId}{args:List AV}{l:List Bool}(h:rQ f args l):BF Pg f args (aL aB l):=Ad.GY (f:=fun b=>.bool b) (e:=4) h
theorem wD(S:Aa)(l:List Bool):IZ S (aL aB l)=some (l.map fun b=>[aB b]):=rfl
theorem AbF{g:Gr}(hg:g.ok){ins:List Bool}(hin:ins.length≤1000000):rQ 90 [g.av,aL aB ins] (DP g ins):=by
 intro S
 refine nA ?_
 have hlen:=hg.len
 dsimp only[m90,Fi,Lf]
 refine Ai rfl fun S1 k1 n1 o1=>?_
 rw[An (n:=2) o1 rfl]
 refine Af (iK hg) ?_
 rw[AJ,Ag]
 refine Al (fun h1=>⟨_,rfl,k1,?_⟩) (fun h1=>?_)
 ·rw[Ai6]at h1
  rw[DP,h1]
  exact A4.nl _ _ _
 have h1:g.right=true:=by simpa using h1
 rw[Ax,Ac,Ae o1 rfl rfl,Bl,Ag]
 refine Al (fun h2=>⟨_,rfl,k1,?_⟩) (fun h2=>?_)
 ·rw[Ai6]at h2
  rw[DP,h2,AiL]
  exact A4.nl _ _ _
 have h2:decide ((ins.length:Int)=g.inputs)=true:=by simpa using h2
 have h2':=dT h2
 have hres:DP g ins=Dv g ins g.ands.length:=by rw[DP,h1,h2];rfl
 have hb:∀(b:Bool) {S:Aa} {K:AV→Aa→Prop},K (.l [[aB b]]) S→AU 4 1 1 [.v (.bool false)] [(0,aB b)] S K:=fun b S K k=>BM rfl (fun _ h=>by cases h) k
 refine⟨[aB false],by simp[CC,cellsOf,AV.one,Value.oneCell',Kq],.inl ?_⟩
 have w2:A4 S1.n (S1.new (.cells 4 (chunks 1 1 [aB false]) true)) (.s S1.n 0 1) 4 [[aB false]]:=.inr ⟨S1.n,rfl,AhN _,by simp,by rw[B1];rfl⟩
 have k2:Am S1 (S1.new (.cells 4 (chunks 1 1 [aB false]) true)):=(Am.refl _).new _
 generalize S1.new (.cells 4 (chunks 1 1 [aB false]) true)=S2 at *
 refine A4.Qe w2 k2.1 (ys:=ins.map fun b=>[aB b]) (fun c hc=>by obtain⟨p,_,rfl⟩:=Ai5.1 hc;rfl) (by simp;omega) (fun z1 S3 w3 b3 hz3=>?_) (wD _ _)
 have k3:Am S1 S3:=w2.AR (AhN _) b3 k2
 have k3':=k1.trans k3
 refine Y9 (fun y z S'=>Am S1 S'∧∃ i:Nat,z=aI i∧i≤g.ands.length∧A4 S1.n S' y 4 ((Dv g ins i).map fun b=>[aB b]))
  (fun _ z _=>g.ands.length - ((Aw z).getD 0).toNat) ⟨k3,0,rfl,AhS _,w3⟩ ?_
 dsimp only[Dw]
 rintro y _ S4 ⟨k4,i,rfl,hi,w4⟩ KE hKE
 have o4:=(k4.2 S.n (by omega)).trans o1
 dsimp only[tB,Fi,Lf]
 rw[Ac,Ae o4 rfl rfl,Bz,As,Ag]
 refine Al (fun hlt=>?_) (fun hge=>?_)
 ·have hlt:i<g.ands.length:=by simpa using hlt
  obtain⟨q1,q2,q3,q4⟩:=YJ h1 hlt
  have hp:=hg.pairs _ (AhP hlt)
  have hget:g.ands.getD i (0,0)=g.ands[i]:=by simp[AhL,hlt]
  have e1:∀(c:List AV) (K:AV→Aa→Prop),Iz 2 1 (.q c 0) (.v (.int .i64 1)) S4 K=K (.q c 1) S4:=fun c K=>U2 (z:=1) (by decide)
  have e0:∀(c:List AV) (K:AV→Aa→Prop),Iz 2 1 (.q c 0) (.v (.int .i64 0)) S4 K=K (.q c 0) S4:=fun c K=>U2 (z:=0) (by decide)
  have hadd:∀ K:AV→Aa→Prop,∀ S,bin .add 0 (.v (.int .i64 (i:Int))) (.v (.int .i64 1)) S K=K (aI (i+1:Nat)) S:=fun K S=>Ar (by omega) (by omega) 0
  have hl4:(Dv g ins i).length=ins.length+1+i:=Iv g ins i
  have step:∀ b,Dv g ins (i+1)=Dv g ins i ++ [b]→Bo 4 1 1 y (.l [[aB b]]) S4 fun v T=>bin .add 0 (aI i) (.v (.int .i64 1)) T fun v' T=>KE 49 (GO (.p S.n 0 0) v v') T:=fun b hb=>by
   refine w4.app k4.1 (c:=[aB b]) rfl (by simp;omega) (fun z5 S5 w5 b5 hz5=>?_) rfl
   rw[hadd]
   refine hKE _ _ _ ⟨w4.AR (AhN _) b5 k4,i+1,rfl,hlt,?_⟩ (by simp[Aw];omega)
   rw[hb,AhU]
   exact w5
  rw[Ac,Ae o4 rfl rfl,C6 hlt,e0,Z4]
  refine At (P3 hp.1 (fun K k=>TC w4 (by omega) (by rw[hl4];omega) K k)) ?_
  rw[Ag]
  refine Al (fun h3=>?_) (fun h3=>?_)
  ·rw[Ac,Ae o4 rfl rfl,C6 hlt,e1,Z3]
   refine At (P3 hp.2 (fun K k=>TC w4 (by omega) (by rw[hl4];omega) K k)) ?_
   refine hb _ (step _ ?_)
   simp only[Dv,hget,Ec]
   rw[h3,AhQ]
  ·refine hb _ (step _ ?_)
   simp only[Dv,hget,Ec]
   rw[h3,AhV]
 ·have hge:i=g.ands.length:=by simp at hge;omega
  subst hge
  rw[hres]
  exact⟨_,rfl,k1.trans k4,w4.low (by omega)⟩
theorem Ni{g:Gr}{ins:List Bool}:(DP g ins).length=if(g.right && decide ((ins.length:Int)=g.inputs))=true then(g.vars).toNat else 0:=by
 unfold DP
 split
 ·rename_i h
  simp only[AhO,decide_eq_true_eq]at h
  rw[Iv]
  simp only[Gr.vars,←h.2]
  omega
 ·rfl
def Gr.eval(g:Gr)(l:Int)(ins:List Bool):Bool:=decide (0<(DP g ins).length) && (g.lit l && Ec (DP g ins) l)
theorem AfQ{g:Gr}(hg:g.ok){l:Int}(hl:Bv l){ins:List Bool}(hin:ins.length≤1000000):BF Pg 46 [g.av,aI l,aL aB ins] (aB (g.eval l ins)):=by
 intro S
 refine Ad.Bu (oU ?_)
 dsimp only[m46,Fi]
 refine Ai rfl fun S1 k1 n1 o1=>?_
 rw[An (n:=2) o1 rfl]
 refine Af (AbF hg hin).NA ?_
 rw[Ax,AO,Ag]
 refine Og (fun h1=>⟨?_,k1⟩) (fun h1=>?_)
 ·have h1:=dF h1
  simp[Gr.eval,show ¬ 0<(DP g ins).length by omega]
 have h1:0<(DP g ins).length:=by have:=dT h1;omega
 rw[An (n:=2) o1 rfl]
 refine Af (Ov hg hl) ?_
 rw[Ag]
 refine Og (fun h2=>⟨?_,k1⟩) (fun h2=>?_)
 ·simp[Gr.eval,h2]
 have h3:0≤l.tdiv 2∧l.tdiv 2<(DP g ins).length:=by
  have h4:=h2
  simp only[Gr.lit,AhO,decide_eq_true_eq]at h4
  have:=Ni (g:=g) (ins:=ins)
  split at this
  ·exact⟨Int.tdiv_nonneg (by omega) (by decide),by omega⟩
  ·omega
 refine At (P3 hl (fun K k=>GG h3.1 h3.2 K k)) ⟨?_,k1⟩
 simp only[Gr.eval,h1,h2,decide_true,AhQ]
 rfl
theorem AhE(a:Int):IntKind.i64.wrap ((BitVec.ofInt 64 a &&& BitVec.ofInt 64 1).toNat:Nat)=a % 2:=by
 have h1:(BitVec.ofInt 64 1).toNat=1:=by decide
 rw[BitVec.toNat_and,h1,Nat.and_one_is_mod,BitVec.toNat_ofInt,wrap64 (by omega) (by omega)]
 omega
theorem E4{a:Int}{S:Aa}{K:AV→Aa→Prop}:bin .and 0 (aI a) (.v (.int .i64 1)) S K=K (aI (a % 2)) S:=by
 show bin .and 0 (.v (.int .i64 a)) (.v (.int .i64 1)) S K=_
 have:b2 .and 0 (.int .i64 a) (.int .i64 1)=some (.int .i64 (a % 2)):=by
  rw[←AhE a];rfl
 show BK (b2 .and 0 (.int .i64 a) (.int .i64 1)) _=_
 rw[this,BP]
theorem eP{a:Int}(h:0≤a){S:Aa}{K:AV→Aa→Prop}:bin .shr 0 (aI a) (.v (.int .u64 1)) S K=K (aI (a.tdiv 2)) S:=by
 rw[P4 (by decide)]
 have:a.fdiv (2 ^ min (Int.toNat 1) IntKind.i64.bits)=a.tdiv 2:=by
  show a.fdiv 2=_
  rw[Int.fdiv_eq_ediv_of_nonneg _ (by decide),Ai0 h]
 rw[this]
theorem u4{S:Aa}{fid t n:Nat}{x:AV}{v:List Bool}{l:Int}(h0:0≤l)(h1:l.tdiv 2<v.length)(hf:S.obj fid=some (.cells t [[x]] true))(hx:A4 n S x 4 (v.map fun b=>[aB b])):
    AT Pg 102 [aI l,.p fid 0 0] S (aB (Ec v l)):=by
 refine eI ?_
 unfold AeD
 rw[Ae hf rfl rfl,eP h0]
 refine TC hx (Int.tdiv_nonneg h0 (by decide)) h1 _ ?_
 rw[E4,AA,DI]
 refine⟨?_,rfl⟩
 rw[Ec,show l.tmod 2=l % 2 from AiK h0]
theorem wZ{e b l c:Nat}{zc:List AV}(hl:l≤c)(hb:b*c≤281474976710656)(hn:c≤9223372036854775807){S:Aa}{K:AV→Aa→Prop}:Ql e b zc (aI l) (aI c) S K=K (.s S.n 0 l) (S.new (.cells e (List.replicate l zc) true)):=by
 have h1:(b:Int)*c≤281474976710656:=by
  have h:=Int.ofNat_le.2 hb
  rw[Int.natCast_mul]at h
  omega
 have h2:(c:Int)≤9223372036854775807:=by omega
 have h0:(0:Int)≤l:=by omega
 have h3:(l:Int)≤c:=by omega
 simp only[Ql,Aw,BP,h0,h1,h2,h3,Ai1,and_self,true_and]
theorem Ea{n:Nat}{S T:Aa}{x:AV}{e:Nat}{es:List (List AV)}(h:A4 n S x e es)(k:Am S T):A4 n T x e es:=by
 rcases h with h|⟨id,h1,h2,h3,h4⟩
 ·exact .inl h
 ·exact .inr ⟨id,h1,h2,Nat.lt_of_lt_of_le h3 k.1,(k.2 _ h3).trans h4⟩
theorem QL{g:Gr}(hg:g.ok){ins:List Bool}(hin:ins.length≤1000000){S:Aa}{xi:AV}(hlx:∀(T:Aa) (K:AV→Aa→Prop),AF xi T K=K (aI ins.length) T)(hsx:∀ T,Am S T→IZ T xi=some (ins.map fun b=>[aB b])):
    Ad Pg 51 [g.av,xi] S (fun r S'=>∃ x,r = .ret x∧Am S S'∧A4 S.n S' x 4 ((DP g ins).map fun b=>[aB b])):=by
 refine oO ?_
 have hlen:=hg.len
 dsimp only[m51,Fi,Lf]
 refine Ai rfl fun S1 k1 n1 o1=>?_
 rw[An (n:=2) o1 rfl]
 refine Af (u5 hg) ?_
 rw[AJ,Ag]
 refine Al (fun h1=>⟨_,rfl,k1,?_⟩) (fun h1=>?_)
 ·rw[Ai6]at h1
  rw[DP,h1]
  exact A4.nl _ _ _
 have h1:g.right=true:=by simpa using h1
 rw[hlx,Ac,Ae o1 rfl rfl,Bl,Ag]
 refine Al (fun h2=>⟨_,rfl,k1,?_⟩) (fun h2=>?_)
 ·rw[Ai6]at h2
  rw[DP,h2,AiL]
  exact A4.nl _ _ _
 have h2:decide ((ins.length:Int)=g.inputs)=true:=by simpa using h2
 have h2':=dT h2
 have hres:DP g ins=Dv g ins g.ands.length:=by rw[DP,h1,h2];rfl
 rw[Ac,Ae o1 rfl rfl,Ar (by omega) (by omega),Ac,Ae o1 rfl rfl,Bz,Ar (by omega) (by omega)]
 have hcap:g.inputs+1+(g.ands.length:Int)=((ins.length+1+g.ands.length:Nat):Int):=by omega
 rw[hcap]
 have hmk:∀{K:AV→Aa→Prop},Ql 4 1 [.v (.bool false)] (.v (.int .i64 1)) (aI ((ins.length+1+g.ands.length:Nat):Int)) S1 K=K (.s S1.n 0 1) (S1.new (.cells 4 (List.replicate 1 [.v (.bool false)]) true)):=wZ (l:=1) (by omega) (by omega) (by omega)
 rw[hmk]
 have w2:A4 S1.n (S1.new (.cells 4 (List.replicate 1 [.v (.bool false)]) true)) (.s S1.n 0 1) 4 [[aB false]]:=.inr ⟨S1.n,rfl,AhN _,by simp,by rw[B1];rfl⟩
 have k2:Am S1 (S1.new (.cells 4 (List.replicate 1 [.v (.bool false)]) true)):=(Am.refl _).new _
 have n2:(S1.new (.cells 4 (List.replicate 1 [.v (.bool false)]) true)).n=S1.n+1:=rfl
 generalize S1.new (.cells 4 (List.replicate 1 [.v (.bool false)]) true)=S2 at *
 refine BN rfl fun S3 k3 n3 o3=>?_
 refine B9 o3 rfl rfl fun S4 n4 o4 f4=>?_
 have k4:Am S1 S4:=(k2.trans k3).st (by omega) n4 f4
 have w4:A4 S1.n S4 (.s S1.n 0 1) 4 [[aB false]]:=(Ea w2 k3).st (id:=S2.n) (fun b m e=>by injection e;omega) n4 f4
 rw[Ae o4 rfl rfl]
 refine A4.Qe w4 k4.1 (ys:=ins.map fun b=>[aB b]) (fun c hc=>by obtain⟨p,_,rfl⟩:=Ai5.1 hc;rfl) (by simp;omega) (fun z1 S5 w5 b5 hz5=>?_) (hsx _ (k1.trans k4))
 have k5:Am S1 S5:=w4.AR (AhN _) b5 k4
 have o5:=(b5.2 S2.n (by omega) (fun b m e=>by injection e;omega)).trans o4
 have m5:=b5.1
 have z5:∀ b m,z1≠.s S2.n b m:=fun b m e=>by
  rcases hz5 with h|⟨m',h⟩
  ·rw[h]at e;injection e;omega
  ·rw[h]at e;injection e;omega
 refine B9 o5 rfl (by rcases w5 with⟨h,_⟩|⟨_,h,_⟩<;>rw[h]<;>rfl) fun S6 n6 o6 f6=>?_
 have k6:Am S1 S6:=k5.st (by omega) n6 f6
 have w6:=w5.st (id:=S2.n) z5 n6 f6
 have p6:=(k6.2 S.n (by omega)).trans o1
 rw[Ac,Ae p6 rfl rfl,Bz]
 refine Zv (fun y S'=>Am S1 S'∧S2.n<S'.n∧∃ i:Nat,y=aI i∧i≤g.ands.length∧∃ z,S'.obj S2.n=some (.cells 41 [[z]] true)∧(∀ b m,z≠.s S2.n b m)∧A4 S1.n S' z 4 ((Dv g ins i).map fun b=>[aB b]))
  (fun y _=>g.ands.length - ((Aw y).getD 0).toNat) ⟨k6,by omega,0,rfl,AhS _,z1,o6,z5,w6⟩ ?_
 dsimp only[BS]
 rintro _ S7 ⟨k7,n7,i,rfl,hi,z,o7,hz,w7⟩ KE hKE
 dsimp only[tX,Fi,Lt]
 rw[As,Ag]
 refine Al (fun hlt=>?_) (fun hge=>?_)
 ·have hlt:i<g.ands.length:=by simpa using hlt
  obtain⟨q1,q2,q3,q4⟩:=YJ h1 hlt
  have hp:=hg.pairs _ (AhP hlt)
  have hget:g.ands.getD i (0,0)=g.ands[i]:=by simp[AhL,hlt]
  have hl4:(Dv g ins i).length=ins.length+1+i:=Iv g ins i
  rw[C6 hlt,GD]
  generalize g.ands[i]=p at *
  refine Ai rfl fun S8 k8 n8 o8=>?_
  refine AG o8 rfl rfl fun S9 n9 o9 f9=>?_
  have k9:Am S7 S9:=k8.st (AhN _) n9 f9
  have w9:A4 S1.n S9 z 4 _:=Ea w7 k9
  have v9:=(k9.2 S2.n n7).trans o7
  have e1:∀(T:Aa) (K:AV→Aa→Prop),Iz 2 1 (.p S7.n 0 0) (.v (.int .i64 1)) T K=K (.p S7.n 0 1) T:=fun T K=>M2 (z:=1) (by decide)
  have e0:∀(T:Aa) (K:AV→Aa→Prop),Iz 2 1 (.p S7.n 0 0) (.v (.int .i64 0)) T K=K (.p S7.n 0 0) T:=fun T K=>M2 (z:=0) (by decide)
  have hadd:∀ K:AV→Aa→Prop,∀ S,bin .add 0 (.v (.int .i64 (i:Int))) (.v (.int .i64 1)) S K=K (aI (i+1:Nat)) S:=fun K S=>Ar (by omega) (by omega) 0
  have hp1:0≤p.1:=by
   rcases Int.le_total 0 p.1 with h|h
   ·exact h
   ·have:p.1.tdiv 2≤0:=by
      rw[show p.1.tdiv 2 = -((-p.1).tdiv 2)by rw[Int.neg_tdiv,Int.neg_neg],Ai0 (by omega)]
      omega
    omega
  have m9:S9.n=S7.n+1:=by omega
  have step:∀ b,Dv g ins (i+1)=Dv g ins i ++ [b]→Bo 4 1 1 z (.l [[aB b]]) S9 fun v T=>A8 1 (.p S2.n 0 0) v T fun _ T=>bin .add 0 (aI i) (.v (.int .i64 1)) T fun v' T=>KE 53 (Ii (.p S2.n 0 0) (.f (.func 102) [] [.p S2.n 0 0]) (pL g.ands) (aI g.ands.length) v') T:=fun b hb=>by
   refine w9.app (by have:=k7.1;omega) (c:=[aB b]) rfl (by simp;omega) (fun zz T1 wT bT hzT=>?_) rfl
   have kT:Am S1 T1:=w9.AR (AhN _) bT (k7.trans k9)
   have oT:=(bT.2 S2.n (by omega) (fun b m=>hz b m)).trans v9
   have mT:=bT.1
   have hzz:∀ b m,zz≠.s S2.n b m:=fun b m e=>by
    obtain⟨m',h⟩:=hzT
    rw[h]at e;injection e;omega
   refine B9 oT rfl (by rcases wT with⟨h,_⟩|⟨_,h,_⟩<;>rw[h]<;>rfl) fun T2 nT o2 f2=>?_
   rw[hadd]
   refine hKE _ _ ⟨kT.st (by omega) nT f2,by omega,i+1,rfl,hlt,zz,o2,hzz,?_⟩ (by simp[Aw];omega)
   rw[hb,AhU]
   exact wT.st (id:=S2.n) hzz nT f2
  refine⟨_,fun T hT=>by rw[Ae (Kg hT v9) rfl rfl];exact⟨rfl,rfl⟩,_,fun T hT=>by rw[e0];exact⟨rfl,rfl⟩,_,fun T hT=>by rw[Ae (Kg hT o9) rfl rfl];exact⟨rfl,rfl⟩,
   _,fun T hT=>BL (u4 hp1 (by rw[hl4];omega) (Kg hT v9) (Ea w9 hT)) ⟨rfl,rfl⟩,?_⟩
  rw[Ag]
  refine Al (fun h3=>?_) (fun h3=>?_)
  ·refine⟨_,fun T hT=>by rw[e1];exact⟨rfl,rfl⟩,_,fun T hT=>by rw[Ae (Kg hT o9) rfl rfl];exact⟨rfl,rfl⟩,
     _,fun T hT=>BL (u4 (by omega) (by rw[hl4];omega) (Kg hT v9) (Ea w9 hT)) ⟨rfl,rfl⟩,_,fun T hT=>⟨rfl,rfl⟩,_,fun T hT=>BM rfl (fun _ h=>by cases h) ⟨rfl,rfl⟩,?_⟩
   refine step _ ?_
   simp only[Dv,hget]
   rw[h3,AhQ]
  ·refine⟨_,fun T hT=>⟨rfl,rfl⟩,_,fun T hT=>BM rfl (fun _ h=>by cases h) ⟨rfl,rfl⟩,?_⟩
   refine step _ ?_
   simp only[Dv,hget]
   rw[h3,AhV]
 ·have hge:i=g.ands.length:=by simp at hge;omega
  subst hge
  rw[hres,Ae o7 rfl rfl]
  exact⟨_,rfl,k1.trans k7,w7.low (by omega)⟩
theorem Dq{α:Type}{f:α→Value}{P:Program}{fn:FuncId}{args:List AV}{S:Aa}{e:Nat}{l:List α}(h:Ad P fn args S (fun r S'=>∃ x,r = .ret x∧Am S S'∧A4 S.n S' x e (l.map fun a=>[.v (f a)]))):AT P fn args S (aL (fun a=>.v (f a)) l):=
 Ad.tree (h.mono fun r S' ⟨x,h1,h2,h3⟩=>⟨x,h1,h2,h3.mM⟩)
def Jb(n:Int)(i:Nat):Bool:=decide (n.fdiv (2 ^ i) % 2=1)
def Cr(n:Int)(many:Nat):List Bool:=(List.range many).map (Jb n)
@[simp] theorem It(n:Int)(m:Nat):(Cr n m).length=m:=by simp[Cr]
theorem TS(n:Int)(m:Nat):Cr n (m+1)=Cr n m ++ [Jb n m]:=by simp[Cr,Ai7]
theorem HQ{a:Int}{i:Nat}(h:i≤64){S:Aa}{K:AV→Aa→Prop}:bin .shr 0 (aI a) (aI i) S K=K (aI (a.fdiv (2 ^ i))) S:=by
 rw[P4 (by omega),show min (Int.toNat i) IntKind.i64.bits=i by rw[Ai1];exact Nat.min_eq_left h]
theorem AbG(s:Int){m:Nat}(hm:m≤64):rQ 47 [aI s,aI m] (Cr s m):=by
 intro S
 refine oS ?_
 unfold m47
 refine Zy (fun y z S'=>Am S S'∧∃ i:Nat,z=aI i∧i≤m∧A4 S.n S' y 4 ((Cr s i).map fun b=>[aB b]))
  (fun _ z _=>m - ((Aw z).getD 0).toNat) ⟨Am.refl _,0,rfl,AhS _,A4.nl _ _ _⟩ ?_
 dsimp only[Dw]
 rintro y _ S1 ⟨k1,i,rfl,hi,w1⟩ KE hKE
 dsimp only[tZ,Fi]
 rw[As,Ag]
 refine Al (fun hlt=>?_) (fun hge=>?_)
 ·have hlt:i<m:=by simpa using hlt
  rw[HQ (by omega),E4,AA]
  refine BM rfl (fun _ h=>by cases h) ?_
  refine w1.app k1.1 (c:=[aB (Jb s i)]) rfl (by simp;omega) (fun z5 S5 w5 b5 hz5=>?_) rfl
  have hadd:∀ K:AV→Aa→Prop,∀ S,bin .add 0 (.v (.int .i64 (i:Int))) (.v (.int .i64 1)) S K=K (aI (i+1:Nat)) S:=fun K S=>Ar (by omega) (by omega) 0
  rw[hadd]
  refine hKE _ _ _ ⟨w1.AR (AhN _) b5 k1,i+1,rfl,hlt,?_⟩ (by simp[Aw];omega)
  rw[TS,AhU]
  exact w5
 ·have hge:i=m:=by simp at hge;omega
  subst hge
  exact⟨_,rfl,k1,w1⟩
def DM (c:Ci) (s l:Int):Bool:=c.right && (decide (c.gr.inputs≤60) && c.gr.eval l (Cr s c.gr.inputs.toNat))
theorem Su{x:AV}{l:List AV}{S:Aa}{K:AV→Aa→Prop}:IG (.a (x :: l)) 0 S K=K x S:=by simp[IG,IF]
theorem CQ{c:Ci}(h:c.right=true):c.gr.inputs=c.inputs+c.latches.length∧0≤c.gr.inputs∧c.gr.inputs≤2000:=by
 obtain⟨⟨h1,h2⟩,h3,_,_,_,_,h4,_⟩:=Bq.1 h
 have h5:=CF.1 h4
 refine⟨?_,h5.1,h5.2.1⟩
 show IntKind.i64.wrap (c.inputs+c.latches.length)=_
 exact wrap64 (by omega) (by omega)
theorem IU{c:Ci}(hc:c.ok){s l:Int}(hl:Bv l):BF Pg 27 [c.av,aI s,aI l] (aB (DM c s l)):=by
 intro S
 refine Ad.Bu (pM ?_)
 dsimp only[m27,Fi,Lq,Ld]
 refine Ai rfl fun S1 k1 n1 o1=>?_
 rw[An (n:=8) o1 rfl]
 refine Af (Vs hc) ?_
 rw[AJ,Ag]
 refine Al (fun h1=>⟨?_,k1⟩) (fun h1=>?_)
 ·rw[Ai6]at h1
  simp[DM,h1]
 have h1:c.right=true:=by simpa using h1
 obtain⟨g1,g2,g3⟩:=CQ h1
 rw[An (n:=8) o1 rfl]
 refine Af (Ow c) ?_
 unfold Gr.av Gr.cells
 rw[Su,AO,Ag]
 refine Al (fun h2=>⟨?_,k1⟩) (fun h2=>?_)
 ·have h2:=dT h2
  simp[DM,show ¬ c.gr.inputs≤60 by omega]
 have h2:=dF h2
 obtain⟨m,hm⟩:=AhX g2
 show ∃ q11:AV,_
 refine⟨_,by rw[An (n:=8) o1 rfl];exact⟨rfl,rfl⟩,?_⟩
 refine⟨_,Af (Ow c) ⟨rfl,rfl⟩,?_⟩
 refine⟨_,by rw[An (n:=8) o1 rfl];exact⟨rfl,rfl⟩,?_⟩
 refine⟨_,Af (Ow c) ⟨rfl,rfl⟩,?_⟩
 refine⟨aI m,by unfold Gr.av Gr.cells;rw[Su,hm];exact⟨rfl,rfl⟩,?_⟩
 refine⟨_,Af (AbG s (by omega)).NA ⟨rfl,rfl⟩,?_⟩
 refine⟨_,Af (AfQ hc.gr hl (ins:=Cr s m) (by simp;omega)) ⟨rfl,rfl⟩,?_⟩
 refine⟨?_,k1⟩
 simp only[DM,h1,AhQ,show c.gr.inputs≤60 by omega,decide_true]
 rw[hm,Ai1]
def Dj (c:Ci) (s:Int):Nat→Int
 |0=>0
 |i+1=>if DM c s (c.latches.getD i (0,0)).1=true then Dj c s i+2 ^ (c.inputs.toNat+i)else Dj c s i
def GZ (c:Ci) (s:Int):Int:=if(c.right && decide (c.gr.inputs≤60))=true then Dj c s c.latches.length else 0
theorem Nk(c:Ci)(s:Int):∀ i,0≤Dj c s i∧Dj c s i<2 ^ (c.inputs.toNat+i)
 |0=>⟨Int.le_refl _,Int.pow_pos (by decide)⟩
 |i+1=>by
  have⟨h1,h2⟩:=Nk c s i
  have h3:(2:Int) ^ (c.inputs.toNat+(i+1))=2*2 ^ (c.inputs.toNat+i):=by rw[←Nat.add_assoc,Int.pow_succ];omega
  have h4:(0:Int)<2 ^ (c.inputs.toNat+i):=Int.pow_pos (by decide)
  unfold Dj
  split<;>constructor<;>omega
theorem QI{n:Nat}(h:n≤60):(2:Int) ^ n≤1152921504606846976:=by
 have h1:2 ^ n≤2 ^ 60:=AiJ (by decide) h
 have h2:((2 ^ n:Nat):Int)≤((2 ^ 60:Nat):Int):=Int.ofNat_le.2 h1
 rw[Aj1]at h2
 exact h2
theorem DH{i:Nat}(h:i≤60){S:Aa}{K:AV→Aa→Prop}:bin .shl 0 (.v (.int .i64 1)) (aI i) S K=K (aI (2 ^ i)) S:=by
 have h2:¬ ((i:Int)<0):=by omega
 have h3:min (Int.toNat i) IntKind.i64.bits=i:=by rw[Ai1];exact Nat.min_eq_left (by show i≤64;omega)
 have h4:=QI h
 have h5:(0:Int)<2 ^ i:=Int.pow_pos (by decide)
 show BK (b2 .shl 0 (.int .i64 1) (.int .i64 i)) _=_
 have:b2 .shl 0 (.int .i64 1) (.int .i64 i)=some (.int .i64 (2 ^ i)):=by
  simp only[b2,Hz,shI,if_neg h2,h3,Int.one_mul]
  rw[wrap64 (by omega) (by omega)]
  rfl
 rw[this,BP]
theorem iM{c:Ci}(hc:c.ok)(s:Int):BF Pg 28 [c.av,aI s] (aI (GZ c s)):=by
 intro S
 refine Ad.Bu (pK ?_)
 have hll:=hc.llen
 dsimp only[m28,Fi]
 refine Ai rfl fun S1 k1 n1 o1=>?_
 rw[An (n:=8) o1 rfl]
 refine Af (Vs hc) ?_
 rw[AJ,Ag]
 refine Al (fun h1=>⟨?_,k1⟩) (fun h1=>?_)
 ·rw[Ai6]at h1
  simp[GZ,h1]
 have h1:c.right=true:=by simpa using h1
 obtain⟨g1,g2,g3⟩:=CQ h1
 have hin:=(Bq.1 h1).1
 rw[An (n:=8) o1 rfl]
 refine Af (Ow c) ?_
 unfold Gr.av Gr.cells
 rw[Su,AO,Ag]
 refine Al (fun h2=>⟨?_,k1⟩) (fun h2=>?_)
 ·have h2:=dT h2
  simp[GZ,show ¬ c.gr.inputs≤60 by omega]
 have h2:=dF h2
 have hres:GZ c s=Dj c s c.latches.length:=by
  simp only[GZ,h1,AhQ,show c.gr.inputs≤60 by omega,decide_true,if_true]
 obtain⟨m,hm⟩:=AhX hin.1
 refine ZM (fun y z S'=>S'=S1∧∃ i:Nat,z=aI i∧i≤c.latches.length∧y=aI (Dj c s i))
  (fun _ z _=>c.latches.length - ((Aw z).getD 0).toNat) ⟨rfl,0,rfl,AhS _,rfl⟩ ?_
 dsimp only[Dw]
 rintro _ _ S1 ⟨rfl,i,rfl,hi,rfl⟩ KE hKE
 dsimp only[uN,Fi,Lf,Lq,Ld]
 rw[Ac,Ae o1 rfl rfl,Bz,As,Ag]
 refine Al (fun hlt=>?_) (fun hge=>?_)
 ·have hlt:i<c.latches.length:=by simpa using hlt
  have hget:c.latches.getD i (0,0)=c.latches[i]:=by simp[AhL,hlt]
  have hadd:∀ K:AV→Aa→Prop,∀ S,bin .add 0 (.v (.int .i64 (i:Int))) (.v (.int .i64 1)) S K=K (aI (i+1:Nat)) S:=fun K S=>Ar (by omega) (by omega) 0
  have hμ:c.latches.length - ((Aw (aI (i+1:Nat))).getD 0).toNat<c.latches.length - ((Aw (aI i)).getD 0).toNat:=by simp[Aw];omega
  show ∃ q16:AV,_
  refine⟨_,by rw[An (n:=8) o1 rfl];exact⟨rfl,rfl⟩,?_⟩
  refine⟨_,by rw[Ac];exact⟨rfl,rfl⟩,?_⟩
  refine⟨_,by rw[Ae o1 rfl rfl];exact⟨rfl,rfl⟩,?_⟩
  refine⟨_,by rw[C6 hlt];exact⟨rfl,rfl⟩,?_⟩
  refine⟨_,by rw[Fe];exact⟨rfl,rfl⟩,?_⟩
  refine⟨_,by rw[ES (u:=aI c.latches[i].1) rfl];exact⟨rfl,rfl⟩,?_⟩
  refine⟨_,Af (IU hc (hc.lats _ (AhP hlt)).1) ⟨rfl,rfl⟩,?_⟩
  rw[Ag]
  refine Al (fun h3=>?_) (fun h3=>?_)
  ·have hb:=Nk c s i
   have hp:=QI (n:=c.inputs.toNat+i) (by omega)
   rw[Ac,Ae o1 rfl rfl,Ar (by omega) (by omega)]
   have e:c.inputs+(i:Int)=((c.inputs.toNat+i:Nat):Int):=by omega
   rw[e,DH (by omega),Ar (by omega) (by omega),hadd]
   exact hKE _ _ _ ⟨rfl,i+1,rfl,hlt,by rw[Dj,hget,if_pos h3]⟩ hμ
  ·rw[hadd]
   exact hKE _ _ _ ⟨rfl,i+1,rfl,hlt,by rw[Dj,hget,h3];rfl⟩ hμ
 ·have hge:i=c.latches.length:=by simp at hge;omega
  subst hge
  rw[hres]
  exact⟨rfl,k1⟩
theorem orN{a b:Nat}(ha:a<4611686018427387904)(hb:b<4611686018427387904)(h:a ||| b<4611686018427387904){S:Aa}{K:AV→Aa→Prop}:bin .or 0 (aI a) (aI b) S K=K (aI (a ||| b:Nat)) S:=by
 show BK (b2 .or 0 (.int .i64 a) (.int .i64 b)) _=_
 have:b2 .or 0 (.int .i64 a) (.int .i64 b)=some (.int .i64 (a ||| b:Nat)):=by
  show(some (Int.ofNat 0)).bind (fun _=>some (Value.int .i64 (IntKind.i64.wrap (BitVec.ofInt 64 a ||| BitVec.ofInt 64 b).toNat)))=_
  have h1:(BitVec.ofInt 64 (a:Int)).toNat=a:=by rw[BitVec.toNat_ofInt];omega
  have h2:(BitVec.ofInt 64 (b:Int)).toNat=b:=by rw[BitVec.toNat_ofInt];omega
  rw[BitVec.toNat_or,h1,h2,wrap64 (by omega) (by omega)]
  rfl
 rw[this,BP]
theorem Sx{k q b:Nat}(h:b<2 ^ k):2 ^ k*q ||| b=2 ^ k*q+b:=(Nat.two_pow_add_eq_or_of_lt h q).symm
theorem Xz{n:Nat}(h:n≤60):2 ^ n≤1152921504606846976:=AiJ (by decide) h
theorem TT{a:Int}{k:Nat}(h0:0≤a)(h1:a<2 ^ k)(hk:k≤60){S:Aa}{K:AV→Aa→Prop}:bin .or 0 (aI a) (aI (2 ^ k)) S K=K (aI (a+2 ^ k)) S:=by
 obtain⟨n,rfl⟩:=AhX h0
 have hp:=Xz hk
 have e:((2:Int) ^ k)=((2 ^ k:Nat):Int):=by rw[Aj1];rfl
 rw[e]at h1 ⊢
 have hn:n<2 ^ k:=by omega
 have ho:n ||| 2 ^ k=n+2 ^ k:=by
  rw[Nat.or_comm]
  have:=Sx (k:=k) (q:=1) hn
  rw[Nat.mul_one]at this
  rw[this];omega
 rw[orN (by omega) (by omega) (by rw[ho];omega),ho,Int.natCast_add]
theorem Nf{q x k:Nat}(h1:x<2 ^ k)(h2:2 ^ k*q+x<4611686018427387904){S:Aa}{K:AV→Aa→Prop}:bin .or 0 (aI (2 ^ k*q:Nat)) (aI x) S K=K (aI (2 ^ k*q+x:Nat)) S:=by
 rw[orN (by omega) (by omega) (by rw[Sx h1];omega),Sx h1]
structure Mk (c:Ci) (vals:List (List Bool)) (n mid t:Nat) (S:Aa):Prop where
 lt:mid<S.n
 z:∃ z,S.obj mid=some (.cells t [c.cells++c.gr.cells ++ [z]] true)∧A4 n S z 41 (vals.map fun v=>[aL aB v])
theorem Mk.AR{c:Ci}{vals:List (List Bool)}{n mid t:Nat}{S T:Aa}(h:Mk c vals n mid t S)(k:Am S T):Mk c vals n mid t T:=by
 obtain⟨z,h1,h2⟩:=h.z
 exact⟨Nat.lt_of_lt_of_le h.lt k.1,z,(k.2 _ h.lt).trans h1,Ea h2 k⟩
section
variable {c:Ci} {vals:List (List Bool)} {n mid t:Nat} {S:Aa}
theorem yB(h:Mk c vals n mid t S){s:Nat}(hs:s<vals.length){l:Int}(hl:Bv l)(h0:0≤l)(h1:l.tdiv 2<(vals.getD s []).length):AT Pg 57 [.p mid 0 0,aI s,aI l] S (aB (Ec (vals.getD s []) l)):=by
 refine oI ?_
 dsimp only[m57,Lf]
 obtain⟨z,hz,hw⟩:=h.z
 rw[AH,Ac,Ae hz rfl rfl]
 obtain⟨id,rfl,h2,h3,h4⟩:=hw.ix (i:=s) (by simpa using hs)
 rw[show vals.getD s []=vals[s]by simp[AhL,hs]]at h1 ⊢
 rw[Cf (by simpa using hs) h4,Ae h4 (by rw[AhZ,Ai4,AhM hs];rfl) rfl,Cc hl]
 refine GG (Int.tdiv_nonneg h0 (by decide)) h1 _ ?_
 rw[E4,AA,DI]
 refine⟨?_,rfl⟩
 rw[Ec,show l.tmod 2=l % 2 from AiK h0]
theorem AfF(h:Mk c vals n mid t S){s:Nat}(hs:s<vals.length){l:Int}(hl:Bv l)(h0:0≤l)(h1:l.tdiv 2<(vals.getD s []).length){a b ta tb:Nat}(ha:S.obj a=some (.cells ta [[.p mid 0 0]] true))(hb:S.obj b=some (.cells tb [[aI s]] true)):
    AT Pg 103 [aI l,.p a 0 0,.p b 0 0] S (aB (!Ec (vals.getD s []) l)):=by
 refine eH ?_
 unfold AeC
 rw[Ae ha rfl rfl,Ae hb rfl rfl]
 refine At (yB h hs hl h0 h1) ?_
 rw[AJ]
 exact⟨rfl,rfl⟩
def Qj(l:List Int)(v:List Bool):Prop:=∀ x∈l,Bv x∧0≤x∧x.tdiv 2<v.length
theorem AhA(h:Mk c vals n mid t S){s:Nat}(hs:s<vals.length)(hl:Qj c.cons (vals.getD s []))(hn:c.cons.length≤9223372036854775807):AT Pg 53 [.p mid 0 0,aI s] S (aB (c.cons.all (Ec (vals.getD s [])))):=by
 refine Ad.Bu (oM ?_)
 dsimp only[m53,Lf]
 refine BN rfl fun S1 k1 n1 o1=>?_
 refine BN rfl fun S2 k2 n2 o2=>?_
 have o1':=(k2.2 S.n (by omega)).trans o1
 have h2:=h.AR (k1.trans k2)
 obtain⟨z,hz,_⟩:=h2.z
 rw[Ae o1' rfl rfl,AH,Ac,Ac,Ae hz rfl rfl]
 refine At (Vm hn (g:=fun x=>!Ec (vals.getD s []) x) (fun x hx=>AfF h2 hs (hl x hx).1 (hl x hx).2.1 (hl x hx).2.2 o1' o2)) ?_
 rw[AJ,Vn,Bool.not_not]
 exact⟨rfl,k1.trans k2⟩
def Cx(c:Ci)(v:List Bool):Nat→Int
 |0=>0
 |i+1=>if Ec v (c.latches.getD i (0,0)).1=true then Cx c v i+2 ^ (c.inputs.toNat+i)else Cx c v i
theorem K5(c:Ci)(v:List Bool):∀ i,0≤Cx c v i∧Cx c v i<2 ^ (c.inputs.toNat+i)
 |0=>⟨Int.le_refl _,Int.pow_pos (by decide)⟩
 |i+1=>by
  have⟨h1,h2⟩:=K5 c v i
  have h3:(2:Int) ^ (c.inputs.toNat+(i+1))=2*2 ^ (c.inputs.toNat+i):=by rw[←Nat.add_assoc,Int.pow_succ];omega
  have h4:(0:Int)<2 ^ (c.inputs.toNat+i):=Int.pow_pos (by decide)
  unfold Cx
  split<;>constructor<;>omega
theorem AfE(h:Mk c vals n mid t S)(h0:0≤c.inputs)(h60:c.inputs+c.latches.length≤60){s:Nat}(hs:s<vals.length)(hl:Qj (c.latches.map (·.1)) (vals.getD s [])):AT Pg 104 [.p mid 0 0,aI s] S (aI (Cx c (vals.getD s []) c.latches.length)):=by
 refine Ad.Bu (eG ?_)
 dsimp only[AeB,Lf]
 obtain⟨z,hz,_⟩:=h.z
 rw[AH,Ac,Ac,Ae hz rfl rfl,Bz]
 refine WM (fun y w S'=>Am S S'∧∃ i:Nat,w=aI i∧i≤c.latches.length∧y=aI (Cx c (vals.getD s []) i))
  (fun _ w _=>c.latches.length - ((Aw w).getD 0).toNat) ⟨Am.refl _,0,rfl,AhS _,rfl⟩ ?_
 dsimp only[Dw]
 rintro _ _ S1 ⟨k1,i,rfl,hi,rfl⟩ KE hKE
 dsimp only[gT,Fi,Lf]
 rw[As,Ag]
 refine Al (fun hlt=>?_) (fun hge=>?_)
 ·have hlt:i<c.latches.length:=by simpa using hlt
  have hget:c.latches.getD i (0,0)=c.latches[i]:=by simp[AhL,hlt]
  have hadd:∀ K:AV→Aa→Prop,∀ S,bin .add 0 (.v (.int .i64 (i:Int))) (.v (.int .i64 1)) S K=K (aI (i+1:Nat)) S:=fun K S=>Ar (by omega) (by omega) 0
  have hμ:c.latches.length - ((Aw (aI (i+1:Nat))).getD 0).toNat<c.latches.length - ((Aw (aI i)).getD 0).toNat:=by simp[Aw];omega
  have hli:=hl _ (List.mem_map_of_mem (AhP hlt))
  rw[C6 hlt,GD]
  refine Ai rfl fun S2 k2 n2 o2=>?_
  refine AG o2 rfl rfl fun S3 n3 o3 f3=>?_
  have k3:Am S S3:=(k1.trans k2).st k1.1 n3 f3
  have h3:=h.AR k3
  obtain⟨z3,hz3,_⟩:=h3.z
  rw[Ac,Ae o3 rfl rfl]
  refine At (yB h3 hs hli.1 hli.2.1 hli.2.2) ?_
  rw[Ag]
  refine Al (fun h4=>?_) (fun h4=>?_)
  ·have hb:=K5 c (vals.getD s []) i
   rw[AH,Ac,Ac,Ae hz3 rfl rfl,Ar (by omega) (by omega)]
   have e:c.inputs+(i:Int)=((c.inputs.toNat+i:Nat):Int):=by omega
   rw[e,DH (by omega),TT hb.1 hb.2 (by omega),hadd]
   exact hKE _ _ _ ⟨k3,i+1,rfl,hlt,by rw[Cx,hget,if_pos h4]⟩ hμ
  ·rw[hadd]
   exact hKE _ _ _ ⟨k3,i+1,rfl,hlt,by rw[Cx,hget,h4];rfl⟩ hμ
 ·have hge:i=c.latches.length:=by simp at hge;omega
  subst hge
  exact⟨rfl,k1⟩
def Ha(c:Ci)(s:Int):Bool:=(List.range c.latches.length).all fun i=>decide ((c.latches.getD i (0,0)).2=2) || decide (s.fdiv (2 ^ (c.inputs.toNat+i)) % 2=(c.latches.getD i (0,0)).2)
theorem Ah8(h:Mk c vals n mid t S)(h0:0≤c.inputs)(h60:c.inputs+c.latches.length≤60)(s:Int):AT Pg 55 [.p mid 0 0,aI s] S (aB (Ha c s)):=by
 refine Ad.Bu (oK ?_)
 dsimp only[m55,Lf]
 obtain⟨z,hz,_⟩:=h.z
 rw[AH,Ac,Ac,Ae hz rfl rfl,Bz]
 refine Zt (fun w S'=>Am S S'∧∃ i:Nat,w=aI i∧i≤c.latches.length∧∀ j,j<i→(decide ((c.latches.getD j (0,0)).2=2) || decide (s.fdiv (2 ^ (c.inputs.toNat+j)) % 2=(c.latches.getD j (0,0)).2))=true)
  (fun w _=>c.latches.length - ((Aw w).getD 0).toNat) ⟨Am.refl _,0,rfl,AhS _,fun j hj=>(AhY _ hj).elim⟩ ?_
 dsimp only[BS]
 rintro _ S1 ⟨k1,i,rfl,hi,hok⟩ KE hKE
 dsimp only[tV,Fi,Lq]
 rw[As,Ag]
 refine Al (fun hlt=>?_) (fun hge=>?_)
 ·have hlt:i<c.latches.length:=by simpa using hlt
  have hget:c.latches.getD i (0,0)=c.latches[i]:=by simp[AhL,hlt]
  have hadd:∀ K:AV→Aa→Prop,∀ S,bin .add 0 (.v (.int .i64 (i:Int))) (.v (.int .i64 1)) S K=K (aI (i+1:Nat)) S:=fun K S=>Ar (by omega) (by omega) 0
  have hno:(decide ((c.latches.getD i (0,0)).2=2) || decide (s.fdiv (2 ^ (c.inputs.toNat+i)) % 2=(c.latches.getD i (0,0)).2))=false→Ha c s=false:=fun hh=>by
   rw[Ha,AiN]
   exact⟨i,by simpa using hlt,by rw[hh];decide⟩
  rw[C6 hlt,GD]
  rw[hget]at hno
  have hnext:∀{T:Aa},Am S T→(decide (c.latches[i].2=2) || decide (s.fdiv (2 ^ (c.inputs.toNat+i)) % 2=c.latches[i].2))=true→KE 37 (Ih (.p mid 0 0) (aI s) (pL c.latches) (aI c.latches.length) (aI (i+1:Nat))) T:=fun{T} kT hh=>hKE _ _ ⟨kT,i+1,rfl,hlt,fun j hj=>by
   rcases AiB j i with h'|h'
   ·exact hok j h'
   ·have:j=i:=by omega
    subst this
    rw[hget];exact hh⟩ (by simp[Aw];omega)
  generalize c.latches[i]=x at *
  refine Ai rfl fun S2 k2 n2 o2=>?_
  refine AG o2 rfl rfl fun S3 n3 o3 f3=>?_
  have k3:Am S S3:=(k1.trans k2).st k1.1 n3 f3
  obtain⟨z3,hz3,_⟩:=(h.AR k3).z
  have e:c.inputs+(i:Int)=((c.inputs.toNat+i:Nat):Int):=by omega
  show ∃ q12:AV,_
  refine⟨_,by rw[Ac];exact⟨rfl,rfl⟩,?_⟩
  refine⟨_,by rw[Ae o3 rfl rfl];exact⟨rfl,rfl⟩,?_⟩
  refine⟨_,by rw[Bl];exact⟨rfl,rfl⟩,?_⟩
  rw[Ag]
  refine Al (fun h4=>?_) (fun h4=>?_)
  ·have h4:¬ x.2=2:=by simpa using h4
   refine⟨_,by rw[AH];exact⟨rfl,rfl⟩,?_⟩
   refine⟨_,by rw[Ac];exact⟨rfl,rfl⟩,?_⟩
   refine⟨_,by rw[Ac];exact⟨rfl,rfl⟩,?_⟩
   refine⟨_,by rw[Ae hz3 rfl rfl];exact⟨rfl,rfl⟩,?_⟩
   refine⟨aI ((c.inputs.toNat+i:Nat):Int),by rw[Ar (by omega) (by omega),e];exact⟨rfl,rfl⟩,?_⟩
   refine⟨_,by rw[HQ (by omega)];exact⟨rfl,rfl⟩,?_⟩
   refine⟨_,by rw[E4];exact⟨rfl,rfl⟩,?_⟩
   refine⟨_,by rw[Ac];exact⟨rfl,rfl⟩,?_⟩
   refine⟨_,by rw[Ae o3 rfl rfl];exact⟨rfl,rfl⟩,?_⟩
   refine⟨_,by rw[Bl];exact⟨rfl,rfl⟩,?_⟩
   refine⟨_,⟨rfl,rfl⟩,?_⟩
   rw[Ag]
   refine Al (fun h5=>⟨?_,k3⟩) (fun h5=>?_)
   ·have h5:¬ s.fdiv (2 ^ (c.inputs.toNat+i)) % 2=x.2:=by simpa using h5
    rw[hno (by simp only[h4,h5,decide_false,Bool.or_self])]
   ·have h5:s.fdiv (2 ^ (c.inputs.toNat+i)) % 2=x.2:=by simpa using h5
    rw[hadd]
    exact hnext k3 (by simp only[h5,decide_true,Bool.or_true])
  ·have h4:x.2=2:=by simpa using h4
   refine⟨_,⟨rfl,rfl⟩,?_⟩
   rw[Ag,A2,hadd]
   exact hnext k3 (by simp only[h4,decide_true,Bool.true_or])
 ·have hge:i=c.latches.length:=by simp at hge;omega
  subst hge
  refine⟨?_,k1⟩
  have:Ha c s=true:=by
   rw[Ha,AhW]
   exact fun j hj=>hok j (by simpa using hj)
  rw[this]
end
theorem HZ{α:Type}{n i:Nat}{f f':Nat→α}(hi:i<n)(h:∀ k,k≠i→f' k=f k):((List.range n).map f).set i (f' i)=(List.range n).map f':=by
 apply List.ext_getElem
 ·simp
 ·intro k h1 h2
  rw[List.getElem_set]
  split
  ·rename_i e
   subst e
   simp
  ·rename_i e
   simp[h k (fun h=>e h.symm)]
section
variable {c:Ci} {vals:List (List Bool)} {n mid t:Nat} {S:Aa}
theorem mI(h:Mk c vals n mid t S)(hv:vals.length≤1000000){F:FuncId}{fs cs:List AV}{g:Nat→Bool}(hf:∀ T,Am S T→∀ i,i<vals.length→AT Pg F (fs ++ [aI i]++cs) T (aB (g i))):
    Ad Pg 52 [.p mid 0 0,.f (.func F) fs cs] S (fun r S'=>∃ x,r = .ret x∧Am S S'∧A4 S.n S' x 4 (((List.range vals.length).map g).map fun b=>[aB b])):=by
 refine oN ?_
 dsimp only[m52,Lf]
 obtain⟨z,hz,hw⟩:=h.z
 rw[AH,Ac,Ae hz rfl rfl,hw.len,AhR]
 refine Lg (by omega) (by omega) fun S1 k1 n1 o1=>?_
 rw[Dm]
 have hrep:List.replicate vals.length [AV.v (.bool false)]=(List.range vals.length).map fun k=>[aB (if k<0 then g k else false)]:=by
  apply List.ext_getElem
  ·simp
  ·intro k h1 h2
   simp
 rw[hrep]at o1
 refine Zu (fun w S'=>Am S S'∧S.n<S'.n∧∃ i:Nat,w=aI i∧i≤vals.length∧S'.obj S.n=some (.cells 4 ((List.range vals.length).map fun k=>[aB (if k<i then g k else false)]) true))
  (fun w _=>vals.length - ((Aw w).getD 0).toNat) ⟨k1,by omega,0,rfl,AhS _,o1⟩ ?_
 dsimp only[BS]
 rintro _ S2 ⟨k2,n2,i,rfl,hi,o2⟩ KE hKE
 dsimp only[tW,Fi]
 rw[As,Ag]
 refine Al (fun hlt=>?_) (fun hge=>?_)
 ·have hlt:i<vals.length:=by simpa using hlt
  refine BL (hf S2 k2 i hlt) ?_
  rw[Cf hlt o2]
  refine B9 o2 (u0:=aB (if i<i then g i else false)) (by rw[AhZ];simp[hlt]) rfl fun S3 n3 o3 f3=>?_
  rw[Ar (by omega) (by omega)]
  refine hKE _ _ ⟨k2.st (AhN _) n3 f3,by omega,i+1,rfl,hlt,?_⟩ (by simp[Aw];omega)
  rw[o3,AhZ]
  have:=HZ (n:=vals.length) (i:=i) (f:=fun k=>[aB (if k<i then g k else false)]) (f':=fun k=>[aB (if k<i+1 then g k else false)]) hlt (fun k hk=>by
   have:(k<i+1)=(k<i):=by apply propext;omega
   simp only[this])
  rw[←this]
  simp
 ·have hge:i=vals.length:=by simp at hge;omega
  subst hge
  refine⟨_,rfl,k2,.inr ⟨S.n,by simp,AhN _,n2,?_⟩⟩
  rw[o2,AiU]
  congr 2
  apply AiR
  intro k hk
  simp[AiO.1 hk]
theorem E6(c:Ci)(v:List Bool):∀ i,∃ q:Nat,q<2 ^ i∧Cx c v i=((2 ^ c.inputs.toNat*q:Nat):Int)
 |0=>⟨0,by decide,by simp[Cx]⟩
 |i+1=>by
  obtain⟨q,h1,h2⟩:=E6 c v i
  have h3:2 ^ (i+1)=2*2 ^ i:=by rw[Nat.pow_succ];omega
  unfold Cx
  split
  ·refine⟨q+2 ^ i,by omega,?_⟩
   rw[h2,Nat.mul_add,←Nat.pow_add,Int.natCast_add,Aj1]
   rfl
  ·exact⟨q,by omega,h2⟩
def DA(c:Ci)(v vs:List Bool):List Int:=((List.range (2 ^ c.inputs.toNat)).filter fun x=>vs.getD ((Cx c v c.latches.length).toNat+x) false).map fun x:Nat=>Cx c v c.latches.length+(x:Int)
theorem kZ(h:Mk c vals n mid t S)(h0:0≤c.inputs)(h60:c.inputs+c.latches.length≤20){s:Nat}(hs:s<vals.length)(hl:Qj (c.latches.map (·.1)) (vals.getD s []))
    {vs:List Bool} (hvl:vs.length=2 ^ (c.inputs.toNat+c.latches.length)) (hsv:s<vs.length):
    Ad Pg 58 [.p mid 0 0,aI s,aL aB vs] S (fun r S'=>∃ x,r = .ret x∧Am S S'∧A4 S.n S' x 3 ((if vs.getD s false=true then DA c (vals.getD s []) vs else[]).map fun i=>[aI i])):=by
 refine oH ?_
 dsimp only[m58,Fi,Lf]
 refine GG (by omega) (by omega) _ ?_
 rw[AJ,Ag,Ai1]
 refine Al (fun h1=>⟨_,rfl,Am.refl _,?_⟩) (fun h1=>?_)
 ·rw[Ai6]at h1
  rw[if_neg (by rw[h1];decide)]
  exact A4.nl _ _ _
 have h1:vs.getD s false=true:=by simpa using h1
 rw[if_pos h1]
 refine At (AfE h h0 (by omega) hs hl) ?_
 obtain⟨z,hz,_⟩:=h.z
 obtain⟨m,hm⟩:=AhX h0
 have hmt:c.inputs.toNat=m:=by rw[hm];rfl
 rw[AH,Ac,Ac,Ae hz rfl rfl]
 rw[show aI c.inputs=aI (m:Int)by rw[hm]]
 rw[DH (by omega)]
 obtain⟨q,hq,hA⟩:=E6 c (vals.getD s []) c.latches.length
 rw[hmt]at hA
 have e2:((2:Int) ^ m)=((2 ^ m:Nat):Int):=by rw[Aj1];rfl
 have hpm:2 ^ m≤1048576:=AiJ (by decide) (show m≤20 by omega)
 have hpt:2 ^ (m+c.latches.length)≤1048576:=AiJ (by decide) (show m+c.latches.length≤20 by omega)
 have hb:∀ x,x<2 ^ m→2 ^ m*q+x<2 ^ (m+c.latches.length):=fun x hx=>by
  have:2 ^ m*(q+1)≤2 ^ m*2 ^ c.latches.length:=Nat.mul_le_mul_left _ hq
  rw[←Nat.pow_add]at this
  rw[Nat.mul_add,Nat.mul_one]at this
  omega
 rw[hmt]at hvl
 rw[e2,hA]
 have hN:DA c (vals.getD s []) vs=((List.range (2 ^ m)).filter fun x=>vs.getD (2 ^ m*q+x) false).map fun x=>((2 ^ m*q+x:Nat):Int):=by
  unfold DA
  rw[hA,hmt,Ai1]
  apply AiR
  intro x _
  rw[Int.natCast_add]
 rw[hN]
 refine Zs (fun y w S'=>Am S S'∧∃ i:Nat,w=aI i∧i≤2 ^ m∧A4 S.n S' y 3 ((((List.range i).filter fun x=>vs.getD (2 ^ m*q+x) false).map fun x=>((2 ^ m*q+x:Nat):Int)).map fun i=>[aI i]))
  (fun _ w _=>2 ^ m - ((Aw w).getD 0).toNat) ⟨Am.refl _,0,rfl,AhS _,A4.nl _ _ _⟩ ?_
 dsimp only[Dw]
 rintro y _ S1 ⟨k1,i,rfl,hi,w1⟩ KE hKE
 dsimp only[tU,Fi]
 rw[As,Ag]
 refine Al (fun hlt=>?_) (fun hge=>?_)
 ·have hlt:i<2 ^ m:=by
    have:((i:Int)<((2 ^ m:Nat):Int)):=dT hlt
    omega
  have hbi:=hb i hlt
  have hadd:∀ K:AV→Aa→Prop,∀ S,bin .add 0 (.v (.int .i64 (i:Int))) (.v (.int .i64 1)) S K=K (aI (i+1:Nat)) S:=fun K S=>Ar (by omega) (by omega) 0
  have hμ:2 ^ m - ((Aw (aI (i+1:Nat))).getD 0).toNat<2 ^ m - ((Aw (aI i)).getD 0).toNat:=by simp[Aw];omega
  rw[Nf hlt (by omega)]
  refine GG (by omega) (by omega) _ ?_
  rw[Ag,Ai1]
  refine Al (fun h2=>?_) (fun h2=>?_)
  ·rw[Nf hlt (by omega)]
   refine BM rfl (fun _ h=>by cases h) ?_
   have hfl:=List.length_filter_le (fun x=>vs.getD (2 ^ m*q+x) false) (List.range i)
   rw[List.length_range]at hfl
   refine w1.app k1.1 (c:=[aI ((2 ^ m*q+i:Nat):Int)]) rfl (by rw[AhR,AhR];omega) (fun z5 S5 w5 b5 hz5=>?_) rfl
   rw[hadd]
   refine hKE _ _ _ ⟨w1.AR (AhN _) b5 k1,i+1,rfl,hlt,?_⟩ hμ
   rw[Ai7,AiW,AhU,AhU]
   rw[show List.filter (fun x=>vs.getD (2 ^ m*q+x) false) [i] = [i]by simp only[List.filter_cons,h2,if_true,List.filter_nil]]
   exact w5
  ·rw[hadd]
   refine hKE _ _ _ ⟨k1,i+1,rfl,hlt,?_⟩ hμ
   rw[Ai7,AiW,AhU,AhU]
   rw[show List.filter (fun x=>vs.getD (2 ^ m*q+x) false) [i] = []by simp only[List.filter_cons,h2,List.filter_nil];rfl]
   simpa using w1
 ·have hge:i=2 ^ m:=by
    have:¬ ((i:Int)<((2 ^ m:Nat):Int)):=dF hge
    omega
  subst hge
  exact⟨_,rfl,k1,w1⟩
end
section
variable {c:Ci} {vals:List (List Bool)} {n mid t:Nat} {S:Aa}
theorem Ah9(h:Mk c vals n mid t S)(h0:0≤c.inputs)(h60:c.inputs+c.latches.length≤60){s:Nat}{vs:List Bool}(hs:s<vs.length){sid pid ts tp:Nat}{cs:List AV}
    (ho:S.obj sid=some (.cells ts [cs] true)) (hc:cs[1]? = some (aL aB vs)) (hp:S.obj pid=some (.cells tp [[.p mid 0 0]] true)):
    AT Pg 54 [aI s,.p sid 0 0,.p pid 0 0] S (aB (vs.getD s false && Ha c s)):=by
 refine oL ?_
 dsimp only[m54,Fi,Lf]
 rw[Ac,Ae ho rfl hc]
 refine GG (by omega) (by omega) _ ?_
 rw[Ag,Ai1]
 refine Al (fun h1=>?_) (fun h1=>⟨by rw[h1];rfl,rfl⟩)
 rw[Ae hp rfl rfl]
 refine At (Ah8 h h0 h60 s) ⟨by rw[h1];rfl,rfl⟩
theorem Ah7(h:Mk c vals n mid t S){s:Nat}{vs:List Bool}(hs:s<vs.length)(hsv:s<vals.length){l:Int}(hl:Bv l)(h0:0≤l)(h1:l.tdiv 2<(vals.getD s []).length){sid pid lid ts tp tl:Nat}{cs:List AV}
    (ho:S.obj sid=some (.cells ts [cs] true)) (hc:cs[1]? = some (aL aB vs)) (hp:S.obj pid=some (.cells tp [[.p mid 0 0]] true)) (hll:S.obj lid=some (.cells tl [[aI l]] true)):
    AT Pg 56 [aI s,.p sid 0 0,.p pid 0 0,.p lid 0 0] S (aB (vs.getD s false && Ec (vals.getD s []) l)):=by
 refine oJ ?_
 dsimp only[m56,Fi,Lf]
 rw[Ac,Ae ho rfl hc]
 refine GG (by omega) (by omega) _ ?_
 rw[Ag,Ai1]
 refine Al (fun h2=>?_) (fun h2=>⟨by rw[h2];rfl,rfl⟩)
 rw[Ae hp rfl rfl,Ae hll rfl rfl]
 refine At (yB h hsv hl h0 h1) ⟨by rw[h2];rfl,rfl⟩
theorem yC(h:Mk c vals n mid t S)(hv:vals.length≤1000000){F:FuncId}{fs cs:List AV}{g:Nat→Bool}(hf:∀ T,Am S T→∀ i,i<vals.length→AT Pg F (fs ++ [aI i]++cs) T (aB (g i))):
    AT Pg 52 [.p mid 0 0,.f (.func F) fs cs] S (aL aB ((List.range vals.length).map g)):=
 Dq (f:=fun b=>.bool b) (mI h hv hf)
theorem Ah6(h:Mk c vals n mid t S)(h0:0≤c.inputs)(h60:c.inputs+c.latches.length≤20){s:Nat}(hs:s<vals.length)(hl:Qj (c.latches.map (·.1)) (vals.getD s []))
    {vs:List Bool} (hvl:vs.length=2 ^ (c.inputs.toNat+c.latches.length)) (hsv:s<vs.length):
    AT Pg 58 [.p mid 0 0,aI s,aL aB vs] S (aL aI (if vs.getD s false=true then DA c (vals.getD s []) vs else[])):=
 Dq (f:=fun i=>.int .i64 i) (kZ h h0 h60 hs hl hvl hsv)
theorem QM{α:Type}{f:α→AV}(hf:∀ a,∀ cs,f a≠.a cs){S:Aa}{n:Nat}{z:AV}{e:Nat}{rs:List α}{r:α}{K:AV→Aa→Prop}(w:A4 n S z e (rs.map fun v=>[f v]))(hn:n≤S.n)(hl:rs.length≤1000000)
    (k:∀ x' S',A4 n S' x' e ((rs ++ [r]).map fun v=>[f v])→zK S S' z→(∃ m,x' = .s S.n 0 m)→K x' S'):Bo e 1 24 z (.l [[f r]]) S K:=by
 refine w.app hn (c:=[f r]) rfl (by simp;omega) (fun x' S' w' b' h'=>k x' S' ?_ b' h') rfl
 rw[AhU]
 exact w'
end
def AY(c:Ci):List (List Bool):=(List.range (2 ^ c.gr.inputs.toNat)).map fun s:Nat=>DP c.gr (Cr s c.gr.inputs.toNat)
def AE(c:Ci):List Bool:=(List.range (2 ^ c.gr.inputs.toNat)).map fun s:Nat=>c.cons.all (Ec ((AY c).getD s []))
def Au(c:Ci):Sp where
 bits:=c.gr.inputs
 valid:=AE c
 initial:=(List.range (2 ^ c.gr.inputs.toNat)).map fun s:Nat=>(AE c).getD s false && Ha c s
 next:=(List.range (2 ^ c.gr.inputs.toNat)).map fun s:Nat=>if(AE c).getD s false=true then DA c ((AY c).getD s []) (AE c)else[]
 fair:=c.fair.map fun l=>(List.range (2 ^ c.gr.inputs.toNat)).map fun s:Nat=>(AE c).getD s false && Ec ((AY c).getD s []) l
def zM:Sp:=⟨0,[],[],[],[]⟩
def BI (c:Ci):Sp × Int:=if c.right=false then(zM,1)else if 10<c.gr.inputs then(zM,2)else(Au c,0)
theorem Nb{S:Aa}{n:Nat}:Cv S n (.a [aI 0,.nl,.nl,.nl,.nl]) zM.av:=
 .a _ _ rfl fun k u u2 hk hk2=>by
  match k with
  |0=>cases hk;cases hk2;exact .v _
  |1|2|3|4=>cases hk;cases hk2;exact .nl
  |k+5=>simp at hk
theorem Jz{S:Aa}{id t n j:Nat}{cs cs':List AV}{l:Bool}{K:AV→Aa→Prop}(h:S.obj id=some (.cells t [cs] l))(hj:j+n≤cs.length)(hc:(cs.drop j).take n=cs'):AB n (.p id 0 j) S K=K (.a cs') S:=by
 simp[AB,Xp,place,Aa.get,h,hj,hc]
structure Fr (c:Ci) (S S1 S4 S':Aa) (a b:Nat) (sp:List AV) (rows:List (List Bool)):Prop where
 AR:Am S S'
 n:S4.n≤S'.n
 cb:S'.obj S.n=some (.cells 29 [c.cells] true)
 sb:S'.obj S1.n=some (.cells 45 [sp] true)
 pb:S'.obj b=some (.cells 100 [[.p a 0 0]] true)
 mb:∃ z,S'.obj a=some (.cells 102 [c.cells++c.gr.cells ++ [z]] true)∧A4 S4.n S' z 41 (rows.map fun v=>[aL aB v])
theorem PM{g:Gr}{l:List Int}(hr:∀ x∈l,Bv x)(ha:l.all g.lit=true){v:List Bool}(hv:(v.length:Int)=g.vars):Qj l v:=fun x hx=>by
 have:=AhW.1 ha x hx
 simp only[Gr.lit,AhO,decide_eq_true_eq]at this
 exact⟨hr x hx,this.2.2.1,by omega⟩
theorem Qq{c:Ci}(h:c.right=true){s:Nat}(hs:s<2 ^ c.gr.inputs.toNat):(((AY c).getD s []).length:Int)=c.gr.vars:=by
 obtain⟨g1,g2,g3⟩:=CQ h
 have hr:=(Bq.1 h).2.2.2.2.2.2.1
 have:(AY c).getD s []=DP c.gr (Cr s c.gr.inputs.toNat):=by simp[AY,AhL,hs]
 rw[this,Ni,if_pos]
 ·have:0≤c.gr.vars:=by unfold Gr.vars;omega
  omega
 ·rw[hr,It]
  simp;omega
theorem Z5{g:Gr}{l:List (Int × Int)}(hr:∀ x∈l,Bv x.1∧Bv x.2)(ha:l.all (Db g)=true){v:List Bool}(hv:(v.length:Int)=g.vars):Qj (l.map (·.1)) v:=by
 refine PM (g:=g) (fun x hx=>?_) ?_ hv
 ·obtain⟨p,hp,rfl⟩:=Ai5.1 hx
  exact(hr p hp).1
 ·rw[AhW]
  intro x hx
  obtain⟨p,hp,rfl⟩:=Ai5.1 hx
  have:=AhW.1 ha p hp
  simp only[Db,AhO]at this
  exact this.1
structure Fr2 (c:Ci) (S S1 S4 S':Aa) (a b:Nat) (sp:List AV) (z4:AV) (e4:Nat) (rows:List AV):Prop where
 AR:Am S S'
 n:S4.n≤S'.n
 cb:S'.obj S.n=some (.cells 29 [c.cells] true)
 sb:S'.obj S1.n=some (.cells 45 [sp] true)
 pb:S'.obj b=some (.cells 100 [[.p a 0 0]] true)
 mb:∃ z,S'.obj a=some (.cells 102 [c.cells++c.gr.cells ++ [z]] true)∧A4 S4.n S' z 41 ((AY c).map fun v=>[aL aB v])∧DL z4 z
 ow:A4 S4.n S' z4 e4 (rows.map fun v=>[v])
theorem Mu{α:Type}{f:α→AV}{n:Nat}{S:Aa}{x:AV}{e:Nat}{l:List α}(hf:∀ a∈l,Tree (f a))(h:A4 n S x e (l.map fun a=>[f a])):Cv (S.BA (AL n)) n x (aL f l):=
 h.cv rfl rfl (fun i c c2 hi hi2=>by
  rw[hi]at hi2
  cases hi2
  refine⟨rfl,fun k u u2 hk hk2=>?_⟩
  rw[hk]at hk2
  cases hk2
  rw[Ai4]at hi
  obtain⟨a,ha,rfl⟩:=AiQ.1 hi
  cases k with
  |zero=>cases hk;exact hf a (AiS ha) _ _
  |succ k=>simp at hk)
theorem s4{S:Aa}{n:Nat}{x y z u v x' y' z' u' v':AV}(h1:Cv S n x x')(h2:Cv S n y y')(h3:Cv S n z z')(h4:Cv S n u u')(h5:Cv S n v v'):Cv S n (.a [x,y,z,u,v]) (.a [x',y',z',u',v']):=
 .a _ _ rfl fun k w w2 hk hk2=>by
  match k with
  |0=>cases hk;cases hk2;exact h1
  |1=>cases hk;cases hk2;exact h2
  |2=>cases hk;cases hk2;exact h3
  |3=>cases hk;cases hk2;exact h4
  |4=>cases hk;cases hk2;exact h5
  |k+5=>simp at hk
theorem vH{c:Ci}(hc:c.ok):BF Pg 30 [c.av] (.t [(BI c).1.av,aI (BI c).2]):=by
 intro S
 refine Ad.tree (pI ?_)
 dsimp only[m30,Fi,Lf,Lt,Lc]
 refine Ai rfl fun S1 k1 n1 o1=>?_
 refine Ai rfl fun S2 k2 n2 o2=>?_
 have k2':=k1.trans k2
 have p2:S2.obj S.n=_:=(Kg k2 o1)
 rw[An (n:=8) p2 rfl]
 refine Af (iJ hc) ?_
 rw[AJ,Ag]
 refine Al (fun h1=>?_) (fun h1=>?_)
 ·rw[An (n:=5) o2 rfl]
  refine AG o2 rfl rfl fun S3 n3 o3 f3=>?_
  rw[An (n:=5) o3 rfl]
  rw[Ai6]at h1
  refine⟨_,rfl,k2'.st (by omega) n3 f3,?_⟩
  rw[BI,if_pos h1]
  exact DU Nb (.v _)
 have h1:c.right=true:=by simpa using h1
 have h1':¬ c.right=false:=by rw[h1];decide
 obtain⟨g1,g2,g3⟩:=CQ h1
 have hin:=(Bq.1 h1).1
 obtain⟨m,hm⟩:=AhX g2
 have q2:∀ T:Aa,Am S2 T→T.obj S.n=some (.cells 29 [c.cells] true):=fun T hT=>(Kg hT p2)
 refine⟨_,fun T hT=>by rw[An (n:=8) (q2 T hT) rfl];exact⟨rfl,rfl⟩,_,fun T hT=>by rw[An (n:=8) (q2 T hT) rfl];exact⟨rfl,rfl⟩,_,fun T hT=>Af (Vq c) ⟨rfl,rfl⟩,_,fun T hT=>by rw[A6 (cs:=c.cells++c.gr.cells ++ [.nl]) rfl];exact⟨rfl,rfl⟩,?_⟩
 refine⟨_,rfl,rfl,fun ids S3 hN=>?_⟩
 obtain⟨a,b,rfl⟩:∃ a b,ids = [a,b]:=by
  have:=hN.len
  match ids,this with
  |[a,b],_=>exact⟨a,b,rfl⟩
 have k3:=hN.AR
 have n3:S3.n=S2.n+2:=hN.n
 have ha:=hN.lo a (by simp)
 have hb:=hN.lo b (by simp)
 have ha':=hN.hi a (by simp)
 have hb':=hN.hi b (by simp)
 have hab:a≠b:=by have:=hN.nodup;simp at this;exact this
 have oa:S3.obj a=some (.cells 102 [c.cells++c.gr.cells ++ [.nl]] true):=hN.new 0 a _ rfl rfl
 have ob:S3.obj b=some (.cells 100 [[.v (.pointer none)]] true):=hN.new 1 b _ rfl rfl
 show A8 1 (.p b 0 0) (.p a 0 0) S3 _
 refine B9 ob rfl rfl fun S4 n4 o4 f4=>?_
 have k4:Am S S4:=(k2'.trans k3).st (by omega) n4 f4
 have fr4:Fr c S S1 S4 S4 a b [aI 0,.nl,.nl,.nl,.nl] []:=⟨k4,AhN _,(f4 _ (by omega)).trans (q2 S3 k3),(f4 _ (by omega)).trans (Kg k3 o2),o4,.nl,(f4 _ hab).trans oa,A4.nl _ _ _⟩
 show Ay (.p b 0 0) S4 _
 obtain⟨z4,m4,_⟩:=fr4.mb
 rw[Ae fr4.pb rfl rfl,AH,Ac,Ac,Ae m4 rfl rfl]
 show bin .gtr 0 (aI c.gr.inputs) _ _ _
 rw[AO,Ag]
 refine Al (fun h2=>?_) (fun h2=>?_)
 ·rw[An (n:=5) fr4.sb rfl]
  refine AG fr4.sb rfl rfl fun S5 n5 o5 f5=>?_
  rw[An (n:=5) o5 rfl]
  refine⟨_,rfl,k4.st (by omega) n5 f5,?_⟩
  rw[BI,if_neg h1',if_pos (dT h2)]
  exact DU Nb (.v _)
 have h2:¬ 10<c.gr.inputs:=dF h2
 have hm10:m≤10:=by omega
 have hres:BI c=(Au c,0):=by rw[BI,if_neg h1',if_neg h2]
 rw[hres]
 show Ay (.p b 0 0) S4 _
 rw[Ae fr4.pb rfl rfl,AH,Ac,Ac,Ae m4 rfl rfl]
 show bin .shl 0 _ (aI c.gr.inputs) _ _
 rw[show aI c.gr.inputs=aI (m:Int)by rw[hm],DH (by omega),show((2:Int) ^ m)=((2 ^ m:Nat):Int)by rw[Aj1];rfl]
 have hN1:2 ^ m≤1024:=AiJ (by decide) (show m≤10 by omega)
 have hgt:c.gr.inputs.toNat=m:=by rw[hm];rfl
 show Ap _ _ _ (JP (.p S.n 0 0) (.p S1.n 0 0) (.p b 0 0) (aI ((2 ^ m:Nat):Int)) (.v (.int .i64 0))) _ _
 refine ZL (fun y S'=>∃ i:Nat,y=aI i∧i≤2 ^ m∧Fr c S S1 S4 S' a b [aI 0,.nl,.nl,.nl,.nl] ((List.range i).map fun s:Nat=>DP c.gr (Cr s m)))
  (fun y _=>2 ^ m - ((Aw y).getD 0).toNat) ⟨0,rfl,AhS _,fr4⟩ ?_
 dsimp only[BS]
 rintro _ S5 ⟨i,rfl,hi,fr⟩ KE hKE
 dsimp only[uM,Fi,Lf]
 obtain⟨z,hz,hw⟩:=fr.mb
 rw[As,Ag]
 refine Al (fun hlt=>?_) (fun hge=>?_)
 ·have hlt:i<2 ^ m:=by
    have:((i:Int)<((2 ^ m:Nat):Int)):=dT hlt
    omega
  rw[Ae fr.pb rfl rfl,AH,Ac,Ac,Ae hz rfl rfl]
  show Ql _ _ _ (aI c.gr.inputs) (aI c.gr.inputs) _ _
  rw[show aI c.gr.inputs=aI (m:Int)by rw[hm]]
  refine Lg (by omega) (by omega) fun S6 k6 n6 o6=>?_
  rw[Dm]
  have hrep:List.replicate m [AV.v (.bool false)]=(List.range m).map fun k=>[aB (if k<0 then Jb i k else false)]:=by
   apply List.ext_getElem
   ·simp
   ·intro k h1 h2
    simp
  rw[hrep]at o6
  have hs5:=fr.n
  refine ZK (fun y S'=>S'.n=S6.n∧(∀ x,x<S5.n→S'.obj x=S5.obj x)∧∃ j:Nat,y=aI j∧j≤m∧S'.obj S5.n=some (.cells 4 ((List.range m).map fun k=>[aB (if k<j then Jb i k else false)]) true))
   (fun y _=>m - ((Aw y).getD 0).toNat) ⟨rfl,k6.2,0,rfl,AhS _,o6⟩ ?_
  dsimp only[BS]
  rintro _ S7 ⟨n7,f7,j,rfl,hj,o7⟩ KE1 hKE1
  dsimp only[uL,Fi,Lt,Lc]
  rw[As,Ag]
  refine Al (fun hlt1=>?_) (fun hge1=>?_)
  ·have hlt1:j<m:=by simpa using hlt1
   rw[HQ (by omega),E4,AA,Cf hlt1 o7]
   refine B9 o7 (u0:=aB (if j<j then Jb i j else false)) (by rw[AhZ];simp[hlt1]) rfl fun S8 n8 o8 f8=>?_
   rw[Ar (by omega) (by omega)]
   refine hKE1 _ _ ⟨by omega,fun x hx=>(f8 x (by omega)).trans (f7 x hx),j+1,rfl,hlt1,?_⟩ (by simp[Aw];omega)
   rw[o8,AhZ]
   have:=HZ (n:=m) (i:=j) (f:=fun k=>[aB (if k<j then Jb i k else false)]) (f':=fun k=>[aB (if k<j+1 then Jb i k else false)]) hlt1 (fun k hk=>by
    have:(k<j+1)=(k<j):=by apply propext;omega
    simp only[this])
   rw[←this]
   simp[Jb]
  ·have hgj:j=m:=by
     have:¬ ((j:Int)<(m:Int)):=dF hge1
     omega
   subst hgj
   have o7':S7.obj S5.n=some (.cells 4 ((Cr i j).map fun b=>[aB b]) true):=by
    rw[o7,Cr,AiU]
    congr 2
    apply AiR
    intro k hk
    simp[AiO.1 hk]
   have bp:=(f7 b (by omega)).trans fr.pb
   have bz:=(f7 a (by omega)).trans hz
   have kT:∀{T:Aa} {x:Nat} {o:Bw},Am S7 T→x<S5.n→S7.obj x=some o→T.obj x=some o:=fun hT hx ho=>(Kg hT ho)
   have w7:A4 S4.n S7 z 41 (((List.range i).map fun s:Nat=>DP c.gr (Cr s j)).map fun v=>[aL aB v]):=hw.same (by omega) (fun x _ hx=>f7 x hx)
   refine⟨_,fun T hT=>by rw[Ae (kT hT (by omega) bp) rfl rfl];exact⟨rfl,rfl⟩,_,fun T hT=>by rw[Ae (kT hT (by omega) bp) rfl rfl];exact⟨rfl,rfl⟩,_,fun T hT=>by rw[AH];exact⟨rfl,rfl⟩,_,fun T hT=>by rw[Ac];exact⟨rfl,rfl⟩,
    z,fun T hT=>by rw[Ae (kT hT (by omega) bz) rfl rfl];exact⟨rfl,rfl⟩,_,fun T hT=>by rw[Ae (kT hT (by omega) bp) rfl rfl];exact⟨rfl,rfl⟩,_,fun T hT=>by rw[AH];exact⟨rfl,rfl⟩,_,fun T hT=>by rw[Ac];exact⟨rfl,rfl⟩,
    c.gr.av,fun T hT=>by rw[Jz (n:=2) (cs':=c.gr.cells) (kT hT (by omega) bz) (by simp[Ci.cells,Gr.cells]) rfl];exact⟨rfl,rfl⟩,
    aL aB (DP c.gr (Cr i j)),fun T hT=>At (Dq (f:=fun b=>.bool b) (QL hc.gr (ins:=Cr i j) (by simp;omega) (fun T K=>by rw[Dm,It]) (fun T' hT'=>?_))) ⟨rfl,rfl⟩,
    _,fun T hT=>BM rfl (fun _ h=>by cases h) ⟨rfl,rfl⟩,?_⟩
   ·have:=(hT'.2 S5.n (by have:=hT.1;omega)).trans ((hT.2 S5.n (by omega)).trans o7')
    simp only[IZ,this]
    rw[if_pos (by simp)]
    simp[AiD]
   refine QM (f:=aL aB) (fun _ _ h=>by cases h) w7 (by omega) (by simp;omega) (fun z8 S8 w8 b8 hz8=>?_)
   have k8:∀ x,x<S4.n→S8.obj x=S7.obj x:=fun x hx=>b8.2 x (by omega) (fun b m e=>by
    have:=w7.lt e
    omega)
   have n8:=b8.1
   have b8p:=(k8 b (by omega)).trans bp
   refine⟨fun T hT=>by rw[Ae (Kg hT b8p) rfl rfl];exact⟨rfl,rfl⟩,_,fun T hT=>by rw[AH];exact⟨rfl,rfl⟩,_,fun T hT=>by rw[Ac];exact⟨rfl,rfl⟩,?_⟩
   obtain⟨m8,hm8⟩:=hz8
   refine B4 ((k8 a (by omega)).trans bz) (by simp[Ci.cells,Gr.cells]) (by rw[hm8];rfl) fun S9 n9 o9 f9=>?_
   have b9p:=(f9 b (Ne.symm hab)).trans b8p
   rw[Ar (by omega) (by omega)]
   have Eh:∀ x,x<S4.n→x≠a→S9.obj x=S5.obj x:=fun x hx hne=>(f9 x hne).trans ((k8 x hx).trans (f7 x (by omega)))
   have k4n:=k4.1
   refine hKE _ _ ⟨i+1,rfl,hlt,⟨by have:=fr.AR.1;omega,fun x hx=>(Eh x (by omega) (by omega)).trans (fr.AR.2 x hx)⟩,by omega,(Eh _ (by omega) (by omega)).trans fr.cb,(Eh _ (by omega) (by omega)).trans fr.sb,b9p,z8,o9,?_⟩ (by simp[Aw];omega)
   rw[Ai7,AhU]
   exact w8.st (id:=a) (fun b m e=>by rw[hm8]at e;injection e;omega) n9 f9
 ·have hge:i=2 ^ m:=by
    have:¬ ((i:Int)<((2 ^ m:Nat):Int)):=dF hge
    omega
  subst hge
  have hvals:(List.range (2 ^ m)).map (fun s:Nat=>DP c.gr (Cr s m))=AY c:=by unfold AY;rw[hgt]
  rw[hvals]at fr
  clear hw hz z
  have hvl:(AY c).length=2 ^ m:=by rw[←hvals];simp
  have hvalid:AE c=(List.range (AY c).length).map fun s:Nat=>c.cons.all (Ec ((AY c).getD s [])):=by rw[hvl,AE,hgt]
  have hvv:(AE c).length=2 ^ m:=by rw[hvalid];simp[hvl]
  have hR:=Bq.1 h1
  have hlen:∀ s,s<(AY c).length→(((AY c).getD s []).length:Int)=c.gr.vars:=fun s hs=>Qq h1 (by rw[hgt,←hvl];exact hs)
  have hcons:∀ s,s<(AY c).length→Qj c.cons ((AY c).getD s []):=fun s hs=>PM hc.cons.1 hR.2.2.2.2.2.2.2.2.2.2.1 (hlen s hs)
  have hfair:∀ s,s<(AY c).length→Qj c.fair ((AY c).getD s []):=fun s hs=>PM hc.fair.1 hR.2.2.2.2.2.2.2.2.2.2.2.1 (hlen s hs)
  have hlats:∀ s,s<(AY c).length→Qj (c.latches.map (·.1)) ((AY c).getD s []):=fun s hs=>Z5 hc.lats hR.2.2.2.2.2.2.2.1 (hlen s hs)
  have hs5:=fr.n
  obtain⟨z,hz,hw⟩:=fr.mb
  rw[Ae fr.pb rfl rfl,AH,Ac,Ac,Ae hz rfl rfl,Ac]
  show A8 1 _ (aI c.gr.inputs) _ _
  refine B4 fr.sb (by simp) rfl fun S6 n6 o6 f6=>?_
  have b6:=(f6 b (by omega)).trans fr.pb
  have z6:=(f6 a (by omega)).trans hz
  have w6:A4 S4.n S6 z 41 _:=hw.st (id:=S1.n) (fun b m e=>by have:=hw.lt e;omega) n6 f6
  have mk6:Mk c (AY c) S4.n a 102 S6:=⟨by omega,z,z6,w6⟩
  rw[Ae b6 rfl rfl,Ae b6 rfl rfl]
  refine At (yC mk6 (by omega) (g:=fun s=>c.cons.all (Ec ((AY c).getD s []))) (fun T hT s hs=>AhA (mk6.AR hT) hs (hcons s hs) hc.cons.2)) ?_
  rw[←hvalid,Ac]
  refine B4 o6 (by simp) rfl fun S7 n7 o7 f7=>?_
  have b7:=(f7 b (by omega)).trans b6
  have z7:=(f7 a (by omega)).trans z6
  have w7:A4 S4.n S7 z 41 _:=w6.st (id:=S1.n) (fun b m e=>by have:=w6.lt e;omega) n7 f7
  have mk7:Mk c (AY c) S4.n a 102 S7:=⟨by omega,z,z7,w7⟩
  rw[Ae b7 rfl rfl]
  refine At (yC mk7 (by omega) (g:=fun s=>(AE c).getD s false && Ha c s) (fun T hT s hs=>Ah9 (mk7.AR hT) hin.1 (by omega) (by omega) (Kg hT o7) rfl (Kg hT b7))) ?_
  rw[Ac]
  refine B4 o7 (by simp) rfl fun S8 n8 o8 f8=>?_
  have b8:=(f8 b (by omega)).trans b7
  have z8:=(f8 a (by omega)).trans z7
  have w8:A4 S4.n S8 z 41 _:=w7.st (id:=S1.n) (fun b m e=>by have:=w7.lt e;omega) n8 f8
  have old8:∀ x,x≠S1.n→S8.obj x=S5.obj x:=fun x hx=>(f8 x hx).trans ((f7 x hx).trans (f6 x hx))
  have hinit:(Au c).initial=(List.range (AY c).length).map (fun s:Nat=>(AE c).getD s false && Ha c s):=by rw[hvl];simp only[Au,hgt]
  rw[←hinit]at o8
  have fr8:Fr2 c S S1 S4 S8 a b [aI c.gr.inputs,aL aB (AE c),aL aB (Au c).initial,.nl,.nl] .nl 41 []:=
   ⟨⟨by have:=fr.AR.1;omega,fun x hx=>(old8 x (by omega)).trans (fr.AR.2 x hx)⟩,by omega,(old8 _ (by omega)).trans fr.cb,o8,b8,⟨z,z8,w8,fun _ _ _ _ _ e=>by cases e⟩,A4.nl _ _ _⟩
  rw[Ac,Ae fr8.cb rfl rfl,Ax]
  have hfl:c.fair.length≤2000:=hR.2.2.2.2.2.1
  have hspf:(Au c).fair=c.fair.map fun l=>(List.range (AY c).length).map fun s:Nat=>(AE c).getD s false && Ec ((AY c).getD s []) l:=by rw[hvl];simp only[Au,hgt]
  refine ZJ (fun y S'=>∃(i:Nat) (z4:AV),y=aI i∧i≤c.fair.length∧Fr2 c S S1 S4 S' a b [aI c.gr.inputs,aL aB (AE c),aL aB (Au c).initial,.nl,z4] z4 41 (((Au c).fair.take i).map fun v=>aL aB v))
   (fun y _=>c.fair.length - ((Aw y).getD 0).toNat) ⟨0,.nl,rfl,AhS _,fr8⟩ ?_
  dsimp only[BS]
  rintro _ S9 ⟨i,z4,rfl,hi,fr9⟩ KE2 hKE2
  dsimp only[uK,Fi,Lf,Lt,Lc]
  have h9n:=fr9.n
  have hk4:=k4.1
  rw[As,Ag]
  refine Al (fun hlt=>?_) (fun hge=>?_)
  ·have hlt:i<c.fair.length:=by simpa using hlt
   have hlf:i<(Au c).fair.length:=by rw[hspf,AhR];exact hlt
   have hli:=AhP hlt
   have hrow:(Au c).fair[i]=(List.range (AY c).length).map fun s:Nat=>(AE c).getD s false && Ec ((AY c).getD s []) c.fair[i]:=by simp only[hspf,List.getElem_map]
   have htk:(Au c).fair.take (i+1)=(Au c).fair.take i ++ [(Au c).fair[i]]:=by rw[AiA,AhM hlf];rfl
   rw[AM hlt,A1]
   refine BN rfl fun S10 k10 n10 o10=>?_
   refine B9 o10 rfl rfl fun S11 n11 o11 f11=>?_
   have k11:Am S9 S11:=k10.st (AhN _) n11 f11
   obtain⟨zz,hzz,hww,hap⟩:=fr9.mb
   have mk11:Mk c (AY c) S4.n a 102 S11:=⟨by have:=k11.1;omega,zz,(Kg k11 hzz),Ea hww k11⟩
   have m11:=k11.1
   have s11:=(Kg k11 fr9.sb)
   have b11:=(Kg k11 fr9.pb)
   have kT:∀{T:Aa} {x:Nat} {o:Bw},Am S11 T→x<S11.n→S11.obj x=some o→T.obj x=some o:=fun hT hx ho=>(hT.2 _ hx).trans ho
   refine⟨_,fun T hT=>by rw[Ac];exact⟨rfl,rfl⟩,z4,fun T hT=>by rw[Ae (kT hT (by omega) s11) rfl rfl];exact⟨rfl,rfl⟩,_,fun T hT=>by rw[Ae (kT hT (by omega) b11) rfl rfl];exact⟨rfl,rfl⟩,_,fun T hT=>⟨rfl,rfl⟩,
    aL aB (Au c).fair[i],fun T hT=>At (show AT _ _ _ T (aL aB (Au c).fair[i])from hrow ▸ yC (mk11.AR hT) (by omega) (g:=fun s=>(AE c).getD s false && Ec ((AY c).getD s []) c.fair[i]) (fun T' hT' s hs =>
     Ah7 (mk11.AR (hT.trans hT')) (by omega) hs (hfair s hs _ hli).1 (hfair s hs _ hli).2.1 (hfair s hs _ hli).2.2 (kT (hT.trans hT') (by omega) s11) rfl (kT (hT.trans hT') (by omega) b11) (kT (hT.trans hT') (by omega) o11))) ⟨rfl,rfl⟩,
    _,fun T hT=>BM rfl (fun _ h=>by cases h) ⟨rfl,rfl⟩,?_⟩
   refine(Ea fr9.ow k11).app (by omega) (c:=[aL aB (Au c).fair[i]]) rfl (by simp;omega) (fun z5 S12 w12 b12 hz12=>?_) rfl
   obtain⟨m12,hm12⟩:=hz12
   have n12:=b12.1
   have k12:∀ x,x<S4.n→S12.obj x=S11.obj x:=fun x hx=>b12.2 x (by omega) (fun b m e=>by have:=fr9.ow.lt e;omega)
   refine⟨_,fun T hT=>by rw[Ac];exact⟨rfl,rfl⟩,?_⟩
   refine B4 ((k12 S1.n (by omega)).trans s11) (by simp) (by rw[hm12];rfl) fun S13 n13 o13 f13=>?_
   rw[Ar (by omega) (by omega)]
   have Eh:∀ x,x<S4.n→x≠S1.n→S13.obj x=S9.obj x:=fun x hx hne=>(f13 x hne).trans ((k12 x hx).trans (k11.2 x (by omega)))
   have wz:A4 S4.n S13 zz 41 _:=((Ea hww k11).P1 b12 hap).st (id:=S1.n) (fun b m e=>by have:=hww.lt e;omega) n13 f13
   refine hKE2 _ _ ⟨i+1,z5,rfl,hlt,⟨by have:=fr9.AR.1;omega,fun x hx=>(Eh x (by omega) (by omega)).trans (fr9.AR.2 x hx)⟩,by omega,(Eh _ (by omega) (by omega)).trans fr9.cb,o13,(Eh _ (by omega) (by omega)).trans fr9.pb,⟨zz,(Eh _ (by omega) (by omega)).trans hzz,wz,fun x b m b' m' e e'=>?_⟩,?_⟩ (by simp[Aw];omega)
   ·rw[hm12]at e;injection e with e1 e2 e3
    have:=hww.lt e'
    omega
   ·rw[htk,AhU,AhU]
    exact w12.st (id:=S1.n) (fun b m e=>by rw[hm12]at e;injection e;omega) n13 f13
  ·have hge:i=c.fair.length:=by
     have:¬ ((i:Int)<(c.fair.length:Int)):=dF hge
     omega
   subst hge
   rw[AiD (by rw[hspf,AhR];exact AhN _)]at fr9
   obtain⟨zz,hzz,hww,hap⟩:=fr9.mb
   rw[Ae fr9.pb rfl rfl,AH,Ac,Ae hzz rfl rfl,hww.len,AhR]
   have hspn:(Au c).next=(List.range (AY c).length).map fun s:Nat=>if(AE c).getD s false=true then DA c ((AY c).getD s []) (AE c)else[]:=by rw[hvl];simp only[Au,hgt]
   have hnl:(Au c).next.length=(AY c).length:=by rw[hspn,AhR,List.length_range]
   refine ZI (fun y S'=>∃(i:Nat) (z3:AV),y=aI i∧i≤(AY c).length∧Fr2 c S S1 S4 S' a b [aI c.gr.inputs,aL aB (AE c),aL aB (Au c).initial,z3,z4] z3 26 (((Au c).next.take i).map fun v=>aL aI v)∧
       A4 S4.n S' z4 41 (((Au c).fair.map fun v=>aL aB v).map fun v=>[v])∧DL z3 z4)
    (fun y _=>(AY c).length - ((Aw y).getD 0).toNat) ⟨0,.nl,rfl,AhS _,⟨fr9.AR,fr9.n,fr9.cb,fr9.sb,fr9.pb,⟨zz,hzz,hww,fun _ _ _ _ _ e=>by cases e⟩,A4.nl _ _ _⟩,fr9.ow,fun _ _ _ _ _ e=>by cases e⟩ ?_
   clear hzz hww hap zz fr9 h9n
   rintro _ S9 ⟨i,z3,rfl,hi,fr9,wf,hap4⟩ KE3 hKE3
   dsimp only[uJ,Fi,Lt,Lc]
   have h9n:=fr9.n
   obtain⟨zz,hzz,hww,hap⟩:=fr9.mb
   rw[As,Ag]
   refine Al (fun hlt=>?_) (fun hge=>?_)
   ·have hlt:i<(AY c).length:=by
      have:((i:Int)<((AY c).length:Int)):=dT hlt
      omega
    have hlf:i<(Au c).next.length:=by omega
    have hrow:(Au c).next[i]=if(AE c).getD i false=true then DA c ((AY c).getD i []) (AE c)else[]:=by simp only[hspn,List.getElem_map,List.getElem_range]
    have htk:(Au c).next.take (i+1)=(Au c).next.take i ++ [(Au c).next[i]]:=by rw[AiA,AhM hlf];rfl
    have mk9:Mk c (AY c) S4.n a 102 S9:=⟨by omega,zz,hzz,hww⟩
    have kT:∀{T:Aa} {x:Nat} {o:Bw},Am S9 T→x<S9.n→S9.obj x=some o→T.obj x=some o:=fun hT hx ho=>(hT.2 _ hx).trans ho
    have hmm:m=c.inputs.toNat+c.latches.length:=by omega
    refine⟨_,fun T hT=>by rw[Ac];exact⟨rfl,rfl⟩,z3,fun T hT=>by rw[Ae (kT hT (by omega) fr9.sb) rfl rfl];exact⟨rfl,rfl⟩,_,fun T hT=>by rw[Ae (kT hT (by omega) fr9.pb) rfl rfl];exact⟨rfl,rfl⟩,_,fun T hT=>by rw[Ac];exact⟨rfl,rfl⟩,aL aB (AE c),fun T hT=>by rw[Ae (kT hT (by omega) fr9.sb) rfl rfl];exact⟨rfl,rfl⟩,
     aL aI (Au c).next[i],fun T hT=>At (show AT _ _ _ T (aL aI (Au c).next[i])from hrow ▸ Ah6 (mk9.AR hT) hin.1 (by omega) hlt (hlats i hlt) (by rw[hvv,hmm]) (by omega)) ⟨rfl,rfl⟩,
     _,fun T hT=>BM rfl (fun _ h=>by cases h) ⟨rfl,rfl⟩,?_⟩
    refine fr9.ow.app (by omega) (c:=[aL aI (Au c).next[i]]) rfl (by simp;omega) (fun z5 S12 w12 b12 hz12=>?_) rfl
    obtain⟨m12,hm12⟩:=hz12
    have n12:=b12.1
    have k12:∀ x,x<S4.n→S12.obj x=S9.obj x:=fun x hx=>b12.2 x (by omega) (fun b m e=>by have:=fr9.ow.lt e;omega)
    refine⟨_,fun T hT=>by rw[Ac];exact⟨rfl,rfl⟩,?_⟩
    refine B4 ((k12 S1.n (by omega)).trans fr9.sb) (by simp) (by rw[hm12];rfl) fun S13 n13 o13 f13=>?_
    rw[Ar (by omega) (by omega)]
    have Eh:∀ x,x<S4.n→x≠S1.n→S13.obj x=S9.obj x:=fun x hx hne=>(f13 x hne).trans (k12 x hx)
    have wz:A4 S4.n S13 zz 41 _:=(hww.P1 b12 hap).st (id:=S1.n) (fun b m e=>by have:=hww.lt e;omega) n13 f13
    have wf':A4 S4.n S13 z4 41 _:=(wf.P1 b12 hap4).st (id:=S1.n) (fun b m e=>by have:=wf.lt e;omega) n13 f13
    refine hKE3 _ _ ⟨i+1,z5,rfl,hlt,⟨⟨by have:=fr9.AR.1;omega,fun x hx=>(Eh x (by omega) (by omega)).trans (fr9.AR.2 x hx)⟩,by omega,(Eh _ (by omega) (by omega)).trans fr9.cb,o13,(Eh _ (by omega) (by omega)).trans fr9.pb,⟨zz,(Eh _ (by omega) (by omega)).trans hzz,wz,fun x b m b' m' e e'=>?_⟩,?_⟩,wf',fun x b m b' m' e e'=>?_⟩ (by simp[Aw];omega)
    ·rw[hm12]at e;injection e with e1 e2 e3
     have:=hww.lt e'
     omega
    ·rw[htk,AhU,AhU]
     exact w12.st (id:=S1.n) (fun b m e=>by rw[hm12]at e;injection e;omega) n13 f13
    ·rw[hm12]at e;injection e with e1 e2 e3
     have:=wf.lt e'
     omega
   ·have hge:i=(AY c).length:=by
      have:¬ ((i:Int)<((AY c).length:Int)):=dF hge
      omega
    subst hge
    have hnx:=fr9.ow
    rw[AiD (by omega)]at hnx
    rw[An (n:=5) fr9.sb rfl]
    refine AG fr9.sb rfl rfl fun S10 n10 o10 f10=>?_
    rw[An (n:=5) o10 rfl]
    have w3:A4 S.n S10 z3 26 _:=(hnx.st (id:=S1.n) (fun b m e=>by have:=hnx.lt e;omega) n10 f10).low (by omega)
    have w4:A4 S.n S10 z4 41 _:=(wf.st (id:=S1.n) (fun b m e=>by have:=wf.lt e;omega) n10 f10).low (by omega)
    rw[AiU]at w3 w4
    refine⟨_,rfl,fr9.AR.st (by omega) n10 f10,DU (s4 (.v _) (Ek _ _ _) (Ek _ _ _) (Mu (fun _ _=>D7 _) w3) (Mu (fun _ _=>Ek _) w4)) (.v _)⟩
theorem AfZ{c:Ci}(hc:c.ok){s:Int}{l:List Int}(hl:∀ x∈l,Bv x)(hn:l.length≤9223372036854775807):BF Pg 25 [c.av,aI s,aL aI l] (aB (l.all (DM c s))):=by
 intro S
 refine Ad.Bu (pO ?_)
 unfold m25
 refine Ai rfl fun S1 k1 n1 o1=>?_
 refine ZO (fun y S'=>S'=S1∧∃ i:Nat,y=aI i∧i≤l.length∧∀ j (h:j<l.length),j<i→DM c s l[j]=true)
  (fun y _=>l.length - ((Aw y).getD 0).toNat) ⟨rfl,0,rfl,AhS _,fun j _ hj=>(AhY _ hj).elim⟩ ?_
 dsimp only[BS]
 rintro _ S1 ⟨rfl,i,rfl,hi,hok⟩ KE hKE
 dsimp only[uP,Fi,Lq,Ld]
 rw[Ax,As,Ag]
 refine Al (fun hlt=>?_) (fun hge=>?_)
 ·have hlt:i<l.length:=by simpa using hlt
  have hm:=AhP hlt
  show ∃ q5:AV,_
  refine⟨_,by rw[An (n:=8) o1 rfl];exact⟨rfl,rfl⟩,?_⟩
  refine⟨_,by rw[AM hlt];exact⟨rfl,rfl⟩,?_⟩
  refine⟨_,by rw[A1];exact⟨rfl,rfl⟩,?_⟩
  refine⟨_,Af (IU hc (hl _ hm)) ⟨rfl,rfl⟩,?_⟩
  refine⟨_,by rw[AJ];exact⟨rfl,rfl⟩,?_⟩
  rw[Ag]
  refine Al (fun h=>⟨?_,k1⟩) (fun h=>?_)
  ·have:l.all (DM c s)=false:=by
     rw[AiN]
     exact⟨_,hm,by simpa using h⟩
   rw[this]
  ·have hadd:∀ K:AV→Aa→Prop,∀ S,bin .add 0 (.v (.int .i64 (i:Int))) (.v (.int .i64 1)) S K=K (aI (i+1:Nat)) S:=fun K S=>Ar (by omega) (by omega) 0
   rw[hadd]
   refine hKE _ _ ⟨rfl,i+1,rfl,hlt,fun j hj hj'=>?_⟩ (by simp[Aw];omega)
   rcases AiB j i with h'|h'
   ·exact hok j hj h'
   ·have:j=i:=by omega
    subst this
    simpa using h
 ·have hge:i=l.length:=by simp at hge;omega
  subst hge
  refine⟨?_,k1⟩
  have:l.all (DM c s)=true:=by
   rw[AhW]
   intro x hx
   obtain⟨j,hj,rfl⟩:=AiI hx
   exact hok j hj hj
  rw[this]
theorem AfY{c:Ci}(hll:c.latches.length≤1000000)(h0:0≤c.inputs)(h60:c.inputs+c.latches.length≤60){s:Int}(hs:0≤s):BF Pg 26 [c.av,aI s] (aB (Ha c s)):=by
 intro S
 refine Ad.Bu (pN ?_)
 unfold m26
 refine Ai rfl fun S1 k1 n1 o1=>?_
 refine ZN (fun w S'=>S'=S1∧∃ i:Nat,w=aI i∧i≤c.latches.length∧∀ j,j<i→(decide ((c.latches.getD j (0,0)).2=2) || decide (s.fdiv (2 ^ (c.inputs.toNat+j)) % 2=(c.latches.getD j (0,0)).2))=true)
  (fun w _=>c.latches.length - ((Aw w).getD 0).toNat) ⟨rfl,0,rfl,AhS _,fun j hj=>(AhY _ hj).elim⟩ ?_
 dsimp only[BS]
 rintro _ S1 ⟨rfl,i,rfl,hi,hok⟩ KE hKE
 dsimp only[uO,Fi,Lf]
 rw[Ac,Ae o1 rfl rfl,Bz,As,Ag]
 refine Al (fun hlt=>?_) (fun hge=>?_)
 ·have hlt:i<c.latches.length:=by simpa using hlt
  have hget:c.latches.getD i (0,0)=c.latches[i]:=by simp[AhL,hlt]
  have hadd:∀ K:AV→Aa→Prop,∀ S,bin .add 0 (.v (.int .i64 (i:Int))) (.v (.int .i64 1)) S K=K (aI (i+1:Nat)) S:=fun K S=>Ar (by omega) (by omega) 0
  have hno:(decide ((c.latches.getD i (0,0)).2=2) || decide (s.fdiv (2 ^ (c.inputs.toNat+i)) % 2=(c.latches.getD i (0,0)).2))=false→Ha c s=false:=fun hh=>by
   rw[Ha,AiN]
   exact⟨i,by simpa using hlt,by rw[hh];decide⟩
  rw[hget]at hno
  have hnext:(decide (c.latches[i].2=2) || decide (s.fdiv (2 ^ (c.inputs.toNat+i)) % 2=c.latches[i].2))=true→KE 33 (Im (aI s) (.p S.n 0 0) (aI (i+1:Nat))) S1:=fun hh=>hKE _ _ ⟨rfl,i+1,rfl,hlt,fun j hj=>by
   rcases AiB j i with h'|h'
   ·exact hok j h'
   ·have:j=i:=by omega
    subst this
    rw[hget];exact hh⟩ (by simp[Aw];omega)
  have e:c.inputs+(i:Int)=((c.inputs.toNat+i:Nat):Int):=by omega
  rw[Ac,Ae o1 rfl rfl,C6 hlt,Fe,ES (u:=aI c.latches[i].2) rfl,Bl,Ag]
  generalize c.latches[i]=x at *
  refine Al (fun h4=>?_) (fun h4=>?_)
  ·have h4:¬ x.2=2:=by simpa using h4
   have hnn:0≤s.fdiv (2 ^ (c.inputs.toNat+i)):=Int.fdiv_nonneg hs (Int.le_of_lt (Int.pow_pos (by decide)))
   rw[Ac,Ae o1 rfl rfl,Ar (by omega) (by omega),e,HQ (by omega),Ez (by decide),Bl,Ag,show(s.fdiv (2 ^ (c.inputs.toNat+i))).tmod 2=s.fdiv (2 ^ (c.inputs.toNat+i)) % 2 from AiK hnn]
   refine Al (fun h5=>⟨?_,k1⟩) (fun h5=>?_)
   ·have h5:¬ s.fdiv (2 ^ (c.inputs.toNat+i)) % 2=x.2:=by simpa using h5
    rw[hno (by simp only[h4,h5,decide_false,Bool.or_self])]
   ·have h5:s.fdiv (2 ^ (c.inputs.toNat+i)) % 2=x.2:=by simpa using h5
    rw[hadd]
    exact hnext (by simp only[h5,decide_true,Bool.or_true])
  ·have h4:x.2=2:=by simpa using h4
   rw[hadd]
   exact hnext (by simp only[h4,decide_true,Bool.true_or])
 ·have hge:i=c.latches.length:=by simp at hge;omega
  subst hge
  refine⟨?_,k1⟩
  have:Ha c s=true:=by
   rw[Ha,AhW]
   exact fun j hj=>hok j (by simpa using hj)
  rw[this]
theorem Xx{c:Ci}{s:Nat}(hs:s<2 ^ c.gr.inputs.toNat):(AY c).getD s []=DP c.gr (Cr s c.gr.inputs.toNat):=by
 simp[AY,AhL,hs]
theorem PQ{c:Ci}(h:c.right=true)(h10:c.gr.inputs≤60){s:Nat}(hs:s<2 ^ c.gr.inputs.toNat){l:Int}(hl:c.gr.lit l=true):DM c s l=Ec ((AY c).getD s []) l:=by
 have hv:=Qq h hs
 rw[Xx hs]at hv ⊢
 obtain⟨g1,g2,g3⟩:=CQ h
 have hpos:0<(DP c.gr (Cr s c.gr.inputs.toNat)).length:=by
  have:1≤c.gr.vars:=by unfold Gr.vars;omega
  omega
 simp only[DM,h,AhQ,h10,decide_true,Gr.eval,hpos,hl]
theorem Qr{c:Ci}(h:c.right=true)(h10:c.gr.inputs≤60){s:Nat}(hs:s<2 ^ c.gr.inputs.toNat){l:List Int}(hl:l.all c.gr.lit=true):l.all (DM c s)=l.all (Ec ((AY c).getD s [])):=by
 have:=AhW.1 hl
 clear hl
 induction l with
 |nil=>rfl
 |cons a l ih =>
  rw[AiX,AiX,PQ h h10 hs (this a (by simp)),ih fun x hx=>this x (by simp[hx])]
theorem Nl{c:Ci}(h:c.right=true)(h10:c.gr.inputs≤60){s:Nat}(hs:s<2 ^ c.gr.inputs.toNat):∀{i:Nat},i≤c.latches.length→Dj c s i=Cx c ((AY c).getD s []) i
 |0,_=>rfl
 |i+1,hi=>by
  have hlt:i<c.latches.length:=hi
  have hget:c.latches.getD i (0,0)=c.latches[i]:=by simp[AhL,hlt]
  have hlit:c.gr.lit c.latches[i].1=true:=by
   have:=AhW.1 (Bq.1 h).2.2.2.2.2.2.2.1 _ (AhP hlt)
   simp only[Db,AhO]at this
   exact this.1
  rw[Dj,Cx,Nl h h10 hs (by omega),hget,PQ h h10 hs hlit]
theorem K6{c:Ci}(h:c.right=true)(h10:c.gr.inputs≤60){s:Nat}(hs:s<2 ^ c.gr.inputs.toNat):GZ c s=Cx c ((AY c).getD s []) c.latches.length:=by
 rw[GZ,h,decide_eq_true h10,AhQ,if_pos rfl,Nl h h10 hs (AhN _)]
abbrev Lz(i:Int):AV:=.v (.int .u16 i)
def BW(l:List Int)(k:Nat)(n:Int):Int:=if l.length<k+1 then 0 else(l.getD k 0).tmod n
theorem kO{S:Aa}{aid lid ta tl k:Nat}{l:List Int}{n:Int}{Q:Bh→Aa→Prop}(h1:S.obj aid=some (.cells ta [[aI k]] true))(h2:S.obj lid=some (.cells tl [[aL Lz l]] true))(hne:lid≠aid)
    (hl:∀ x∈l,0≤x∧x<65536) (hn:0<n) (hk:k≤1000000)
    (K:∀ S',S'.n=S.n→S'.obj aid=some (.cells ta [[aI (k+1:Nat)]] true)→(∀ x,x≠aid→S'.obj x=S.obj x)→Q (.ret (aI (BW l k n))) S'):Ad Pg 36 [aI n,.p aid 0 0,.p lid 0 0] S Q:=by
 refine pE ?_
 dsimp only[m36,Fi]
 have hadd:∀ K:AV→Aa→Prop,∀ S,bin .add 0 (.v (.int .i64 (k:Int))) (.v (.int .i64 1)) S K=K (aI (k+1:Nat)) S:=fun K S=>Ar (by omega) (by omega) 0
 rw[Ae h1 rfl rfl,hadd]
 refine B9 h1 rfl rfl fun S1 n1 o1 f1=>?_
 have p1:=(f1 lid hne).trans h2
 rw[Ae o1 rfl rfl,Ae p1 rfl rfl,Ax,AO,Ag]
 refine Al (fun h=>?_) (fun h=>?_)
 ·have h:=dT h
  have:=K S1 n1 o1 f1
  rw[BW,if_pos (by omega)]at this
  exact this
 ·have h:=dF h
  have hlt:k<l.length:=by omega
  have hx:=hl _ (AhP hlt)
  have hsub:∀ K:AV→Aa→Prop,∀ S,bin .sub 0 (.v (.int .i64 ((k+1:Nat):Int))) (.v (.int .i64 1)) S K=K (aI k) S:=fun K S=>(Bx (by omega) (by omega) 0).trans (by rw[show((k+1:Nat):Int) - 1=k by omega])
  rw[Ae p1 rfl rfl,Ae o1 rfl rfl,hsub,AM hlt,A1,Gc _ (by omega) (by omega),Ez (by omega)]
  have:=K S1 n1 o1 f1
  rw[BW,if_neg (by omega),show l.getD k 0=l[k]by simp[AhL,hlt]]at this
  exact this
def xr(x y:Int):Int:=IntKind.i64.wrap (BitVec.ofInt 64 x ^^^ BitVec.ofInt 64 y).toNat
theorem Vi{a b:Int}{S:Aa}{K:AV→Aa→Prop}:bin .xor 0 (aI a) (aI b) S K=K (aI (xr a b)) S:=by
 show BK (b2 .xor 0 (.int .i64 a) (.int .i64 b)) _=_
 have:b2 .xor 0 (.int .i64 a) (.int .i64 b)=some (.int .i64 (xr a b)):=rfl
 rw[this,BP]
theorem VI{g:Gr}(hg:g.ok){a b:Int}(ha:Bv a)(hb:Bv b):(g.and a b).1.ok:=by
 have h0:(⟨0,[]⟩:Gr).ok:=⟨⟨by decide,by decide⟩,by simp,fun p hp=>by simp at hp⟩
 unfold Gr.and
 split
 ·exact h0
 ·rename_i h1
  have hr:g.right=true:=by
   cases e:g.right with
   |true=>rfl
   |false=>exact absurd (by rw[e];rfl) h1
  unfold RX
  have hx:Bv (if b > a then b else a):=by split<;>assumption
  have hy:Bv (if b<a then b else a):=by split<;>assumption
  generalize(if b > a then b else a)=x at *
  generalize(if b<a then b else a)=y at *
  repeat' split
  all_goals first|exact hg|exact h0|skip
  obtain⟨_,_,r3,_⟩:=CF.1 hr
  refine⟨hg.inp,by simp;omega,fun p hp=>?_⟩
  rcases Ai8.1 hp with hp|hp
  ·exact hg.pairs p hp
  ·have:p=(x,y):=by simpa using hp
   subst this
   exact⟨hx,hy⟩
def N1(g:Gr)(last:Int)(s:Int):Gr × Int:=
 let many:=2*g.vars
 let r:=g.and (s.tmod many) ((s.tdiv many).tmod many)
 if r.2.2=0 then(r.1,xr r.2.1 ((s.tdiv 7).tmod 2))else(g,last)
def AP(n:Int)(l:List Int):Nat→Gr × Int
 |0=>(⟨n,[]⟩,1)
 |i+1=>N1 (AP n l i).1 (AP n l i).2 (l.getD i 0)
theorem Vt{g:Gr}{a b:Int}(h:(g.and a b).2.2=0):(g.and a b).1.inputs=g.inputs:=by
 revert h
 unfold Gr.and
 split
 ·intro h;cases h
 ·unfold RX
  generalize(if b > a then b else a)=x
  generalize(if b<a then b else a)=y
  repeat' split
  all_goals first|(intro _;rfl)|(intro h;cases h)
theorem GB(n:Int)(l:List Int):∀ i,(AP n l i).1.inputs=n
 |0=>rfl
 |i+1=>by
  have ih:=GB n l i
  simp only[AP,N1]
  split
  ·rename_i h
   rw[Vt h,ih]
  ·exact ih
theorem H3{a b:Int}(h0:0≤a)(h1:a≤65536)(hb:0<b):0≤a.tmod b∧a.tmod b≤65536:=by
 rw[AiK h0]
 have h2:=Int.emod_nonneg a (show b≠0 by omega)
 have h3:a % b≤a:=by
  have h4:=Int.mul_ediv_add_emod a b
  have h5:0≤b*(a / b):=Int.mul_nonneg (by omega) (Int.ediv_nonneg h0 (by omega))
  omega
 omega
theorem KP{n:Int}(hn:Bv n){l:List Int}(hl:∀ x∈l,0≤x∧x<65536)(h0:0≤n):∀ i,(AP n l i).1.ok
 |0=>⟨hn,by simp[AP],fun p hp=>by simp[AP]at hp⟩
 |i+1=>by
  have ih:=KP hn hl h0 i
  have hv:0<2*(AP n l i).1.vars:=by
   have:=GB n l i
   unfold Gr.vars
   omega
  have hx:0≤l.getD i 0∧l.getD i 0≤65536:=by
   rw[AhL]
   rcases AiB i l.length with h|h
   ·rw[AhM h]
    have:=hl _ (AhP h)
    exact⟨this.1,by show l[i]≤65536;omega⟩
   ·rw[AiH h]
    exact⟨by decide,by decide⟩
  have hd:0≤(l.getD i 0).tdiv (2*(AP n l i).1.vars)∧(l.getD i 0).tdiv (2*(AP n l i).1.vars)≤65536:=by
   rw[Ai0 hx.1]
   have h1:=Int.ediv_nonneg hx.1 (show 0≤2*(AP n l i).1.vars by omega)
   have h2:=Int.ediv_le_self (2*(AP n l i).1.vars) hx.1
   omega
  have ha:=H3 hx.1 hx.2 hv
  have hb:=H3 hd.1 hd.2 hv
  simp only[AP,N1]
  split
  ·exact VI ih ⟨by omega,by omega⟩ ⟨by omega,by omega⟩
  ·exact ih
theorem Dg{g:Gr}{l:Int}:g.lit l=true↔0≤g.inputs∧g.inputs≤2000∧0≤l∧l / 2<g.vars:=by
 simp only[Gr.lit,AhO,decide_eq_true_eq]
 constructor
 ·rintro⟨h1,h2,h3,h4⟩
  rw[Ai0 h3]at h4
  exact⟨h1,h2,h3,h4⟩
 ·rintro⟨h1,h2,h3,h4⟩
  rw[Ai0 h3]
  exact⟨h1,h2,h3,h4⟩
theorem and_right{g:Gr}(h:g.right=true){a b:Int}(e:(g.and a b).2.2=0):
    (g.and a b).1.right=true∧(g.and a b).1.lit (g.and a b).2.1=true∧(g.and a b).1.vars≤g.vars+1∧g.vars≤(g.and a b).1.vars∧(g.and a b).1.inputs=g.inputs:=by
 have hin:=Vt e
 obtain⟨r1,r2,r3,r4,r5,r6⟩:=CF.1 h
 have hv:g.vars=g.inputs+1+g.ands.length:=rfl
 revert e
 unfold Gr.and
 split
 ·intro e;cases e
 ·rename_i hl
  have hl:(g.right && (g.lit a && g.lit b))=true:=by simpa using hl
  simp only[AhO]at hl
  obtain⟨_,la,lb⟩:=hl
  have lx:g.lit (if b > a then b else a)=true:=by split<;>assumption
  have ly:g.lit (if b<a then b else a)=true:=by split<;>assumption
  have hxy:(if b<a then b else a)≤(if b > a then b else a):=by split<;>split<;>omega
  generalize(if b > a then b else a)=x at *
  generalize(if b<a then b else a)=y at *
  obtain⟨_,_,x0,x1⟩:=Dg.1 lx
  obtain⟨_,_,y0,y1⟩:=Dg.1 ly
  unfold RX
  split
  ·intro _;exact⟨h,Dg.2 ⟨r1,r2,Int.le_refl _,by show(0:Int) / 2<g.vars;omega⟩,by show g.vars≤_;omega,Int.le_refl _,rfl⟩
  rename_i hy0
  split
  ·intro _;exact⟨h,Dg.2 ⟨r1,r2,Int.le_refl _,by show(0:Int) / 2<g.vars;omega⟩,by show g.vars≤_;omega,Int.le_refl _,rfl⟩
  rename_i hd
  split
  ·intro _;exact⟨h,lx,by show g.vars≤_;omega,Int.le_refl _,rfl⟩
  rename_i hy1
  split
  ·intro _;exact⟨h,lx,by show g.vars≤_;omega,Int.le_refl _,rfl⟩
  rename_i hne
  rw[Ai0 x0,Ai0 y0]at hd
  split
  ·rename_i i hi
   obtain⟨hi,_,_⟩:=AiV.1 hi
   intro _
   exact⟨h,Dg.2 ⟨r1,r2,by show 0≤2*(g.inputs+1+(i:Int));omega,by show 2*(g.inputs+1+(i:Int)) / 2<g.vars;omega⟩,by show g.vars≤_;omega,Int.le_refl _,rfl⟩
  ·rename_i hi
   split
   ·intro e;cases e
   ·rename_i hbig
    intro _
    have hv':(⟨g.inputs,g.ands ++ [(x,y)]⟩:Gr).vars=g.vars+1:=by simp[Gr.vars];omega
    refine⟨CF.2 ⟨r1,r2,by simp;omega,by rw[hv'];omega,fun j hj=>?_,?_⟩,Dg.2 ⟨r1,r2,by show 0≤2*(g.vars+1) - 2;omega,by rw[hv'];show(2*(g.vars+1) - 2) / 2<_;omega⟩,by rw[hv'];omega,by rw[hv'];omega,rfl⟩
    ·rcases AiB j g.ands.length with hj'|hj'
     ·have:=r5 j hj'
      simpa[AhL,List.getElem?_append_left hj']using this
     ·have hj2:j=g.ands.length:=by simp at hj;omega
      subst hj2
      have:(g.ands ++ [(x,y)]).getD g.ands.length (0,0)=(x,y):=by simp[AhL]
      show may ((g.ands ++ [(x,y)]).getD g.ands.length (0,0)) _=true
      rw[this]
      simp only[may,AhO,decide_eq_true_eq]
      rw[Ai0 x0,Ai0 y0]
      refine⟨by omega,?_,?_⟩
      ·have:x / 2≠y / 2:=fun q=>hd ⟨q,hne⟩
       omega
      ·show x / 2<g.inputs+1+(g.ands.length:Int);omega
    ·show(g.ands ++ [(x,y)]).Nodup
     rw[Aj0]
     refine⟨r6,by simp,fun p hp q hq=>?_⟩
     have:q=(x,y):=by simpa using hq
     subst this
     rintro rfl
     have:=AiY.1 hi _ hp
     simp at this
theorem vW(a b:Nat)(ha:a<2 ^ 62)(hb:b<2 ^ 62):xr (a:Int) (b:Int)=((a ^^^ b:Nat):Int):=by
 have h1:a ^^^ b<2 ^ 62:=Nat.xor_lt_two_pow ha hb
 have hp:(2:Nat) ^ 62=4611686018427387904:=by decide
 unfold xr
 have e:(BitVec.ofInt 64 (a:Int) ^^^ BitVec.ofInt 64 (b:Int)).toNat=a ^^^ b:=by
  rw[BitVec.toNat_xor,BitVec.ofInt_natCast,BitVec.ofInt_natCast,BitVec.toNat_ofNat,BitVec.toNat_ofNat,Nat.mod_eq_of_lt (by omega),Nat.mod_eq_of_lt (by omega)]
 rw[e,wrap64 (by omega) (by omega)]
theorem jY{a b:Int}(h0:0≤a)(h1:a≤1000000)(hb:b=0∨b=1):0≤xr a b∧xr a b / 2=a / 2∧xr a b≤1000001:=by
 obtain⟨n,rfl⟩:=AhX h0
 obtain⟨m,rfl,hm⟩:∃ m:Nat,b=(m:Int)∧m<2:=by rcases hb with rfl|rfl;exact⟨0,rfl,by decide⟩;exact⟨1,rfl,by decide⟩
 have hp:(2:Nat) ^ 62=4611686018427387904:=by decide
 rw[vW n m (by omega) (by omega)]
 have:(n ^^^ m) / 2=n / 2:=by
  rw[Nat.xor_div_two,show m / 2=0 by omega,Nat.xor_zero]
 omega
theorem Jq{n:Int}(h0:0≤n)(hn:n≤100){l:List Int}(hl:∀ x∈l,0≤x∧x<65536):∀ i,i≤40→(AP n l i).1.right=true∧(AP n l i).1.lit (AP n l i).2=true∧n+1≤(AP n l i).1.vars∧(AP n l i).1.vars≤n+1+i
 |0,_=>by
  refine⟨CF.2 ⟨h0,by show n≤2000;omega,by show((0:Nat):Int)≤2000;decide,by show n+1+0≤2000;omega,fun j hj=>by simp[AP]at hj,by simp[AP]⟩,Dg.2 ⟨h0,by show n≤2000;omega,by show(0:Int)≤1;decide,by show(1:Int) / 2<n+1+0;omega⟩,by show _≤n+1+0;omega,by show n+1+0≤_;omega⟩
 |i+1,hi=>by
  obtain⟨h1,h2,h3,h4⟩:=Jq h0 hn hl i (by omega)
  have hx:0≤l.getD i 0:=by
   rw[AhL]
   rcases AiB i l.length with h|h
   ·rw[AhM h]
    exact(hl _ (AhP h)).1
   ·rw[AiH h]
    exact Int.le_refl 0
  simp only[AP,N1]
  split
  ·rename_i he
   obtain⟨k1,k2,k3,k4,k5⟩:=and_right h1 he
   generalize(AP n l i).1.and ((l.getD i 0).tmod (2*(AP n l i).1.vars)) (((l.getD i 0).tdiv (2*(AP n l i).1.vars)).tmod (2*(AP n l i).1.vars))=r at *
   obtain⟨l1,l2,l3,l4⟩:=Dg.1 k2
   have hb:((l.getD i 0).tdiv 7).tmod 2=0∨((l.getD i 0).tdiv 7).tmod 2=1:=by
    rw[Ai0 hx,AiK (by omega)]
    omega
   obtain⟨q1,q2,_⟩:=jY (a:=r.2.1) l3 (by omega) hb
   exact⟨k1,Dg.2 ⟨l1,l2,q1,by rw[q2];exact l4⟩,by show _≤r.1.vars;omega,by show r.1.vars≤_;omega⟩
  ·exact⟨h1,h2,h3,by show(AP n l i).1.vars≤_;omega⟩
structure IV (c:Ci):Prop where
 ok:c.ok
 right:c.right=true
 inp:0≤c.inputs∧c.inputs≤3
 lats:1≤c.latches.length∧c.latches.length≤3
 ands:c.ands.length≤8
 outs:c.outs.length≤2
 bads:c.bads.length≤1
 cons:c.cons.length≤1
 fair:c.fair.length≤1
 names:∃(b1 b2:Bool) (t:ByteArray),c.names=(if b1 then[⟨108,0,⟨#[113]⟩⟩]else[])++(if b2 then[⟨111,c.outs.length - 1,t⟩]else[])∧(b2=true→0<c.outs.length∧(t=⟨#[111,117,116]⟩∨t=⟨#[108,49]⟩∨t=⟨#[97,45,98]⟩))
section
set_option maxRecDepth 100000
def c37:Code:=(Tryz.f37.body).getD .skip
def r37:List ResultVar:=Tryz.f37.results.toList
def Ik(y1 y4 y6 y7 y8:AV):List AV:=[y1,y4,y6,y7,y8]
def Tj:List Nat:=[1,4,6,7,8]
def Yz:List (List Nat):=[Tj,[]]
def m37(x0 x1:AV)(S:Aa)(Q:Aq):Prop:=
 Az 61 2 (.a [aI 0,.nl]) S fun c S=>CD [(0,1),(1,1)] [aI 0,.nl] [(0,x0)] S fun d S=>Az 61 2 (.a [aI 0,.nl]) S fun e S=>A8 2 e d S fun f S=>Ap Tj (vc Pg (c37.at_ [1,1,1,0,1,0,0]) (Yz.drop 1)) 68 (Ik x1 c e (aI 1) (aI 0)) S (Ak 0 (Av (vc Pg (c37.at_ [1,1,1,1]) (Yz.drop 1)) (Ao Pg r37 Q)))
theorem pD{x0 x1:AV}{S:Aa}{Q:Aq}(h:m37 x0 x1 S Q):Ad Pg 37 [x0,x1] S Q:=
 Bj (n:=68) Yz Tryz.func37 (by kernel_rfl) (Eq.mpr (by kernel_rfl) h)
def uH(y1 y4 y6 y7 y8:AV)(S:Aa)(KE0:By)(Q:Aq):Prop:=
 AF y1 S fun c S=>bin .lss 0 y8 c S fun d S=>Fi d (bin .lss 0 y8 (aI 40) S fun e S=>Fi e (AB 2 y6 S fun f S=>Ah Pg 16 [f] S Q fun g S=>bin .mul 0 (aI 2) g S fun h S=>(fun S0:Aa=>Lq S0 (AS 87 1 y1 y8) fun i=>Lq S0 (Ay i) fun k=>Lq S0 (Cq .i64 k) fun l=>Lq S0 (bin .rem 0 l h) fun m=>Lq S0 (AS 87 1 y1 y8) fun n=>Lq S0 (Ay n) fun o=>Lq S0 (Cq .i64 o) fun p=>Lq S0 (bin .quo 0 p h) fun q=>Lq S0 (bin .rem 0 q h) fun r=>AB 2 y6 S fun s S=>Ah Pg 84 [s,m,r] S Q fun u S=>AZ u 0 S fun v S=>AZ u 1 S fun w S=>AZ u 2 S fun x S=>Az 61 2 (.a [aI 0,.nl]) S fun y S=>A8 2 y v S fun z S=>bin .eql 0 x (aI 0) S fun A S=>Fi A (Lt S (AB 2 y) fun B=>Lt S (AS 87 1 y1 y8) fun C=>Lt S (Ay C) fun D=>Lt S (Cq .i64 D) fun E=>Lt S (bin .quo 0 E (aI 7)) fun F=>Lt S (bin .rem 0 F (aI 2)) fun G=>Lt S (bin .xor 0 w G) fun H=>A8 2 y6 B S fun I S=>(∀ T:Aa,Am S T→bin .xor 0 w G T fun J S=>J=H∧S=T)∧(∀ T:Aa,Am S T→bin .rem 0 F (aI 2) T fun K S=>K=G∧S=T)∧(∀ T:Aa,Am S T→bin .quo 0 E (aI 7) T fun L S=>L=F∧S=T)∧(∀ T:Aa,Am S T→Cq .i64 D T fun M S=>M=E∧S=T)∧(∀ T:Aa,Am S T→Ay C T fun N S=>N=D∧S=T)∧(∀ T:Aa,Am S T→AS 87 1 y1 y8 T fun O S=>O=C∧S=T)∧bin .add 0 y8 (aI 1) S fun P S=>KE0 68 (Ik y1 y4 y6 H P) S) (bin .add 0 y8 (aI 1) S fun R S=>KE0 68 (Ik y1 y4 y6 y7 R) S)) S) (AB 2 y6 S fun U S=>A8 2 y4 U S fun V S=>AB 2 y4 S fun W _=>Q (.ret (.t [W,y7])) S)) (AB 2 y6 S fun X S=>A8 2 y4 X S fun Y S=>AB 2 y4 S fun Z _=>Q (.ret (.t [Z,y7])) S)
theorem ZG{y1 y4 y6:AV}{y70 y80:AV}{S:Aa}{Q:Aq}(I:AV→AV→Aa→Prop)(μ:AV→AV→Aa→Nat)(h0:I y70 y80 S)(hr:Dw (fun y7 y8=>Ik y1 y4 y6 y7 y8) 68 I μ fun y7 y8 S KE0=>uH y1 y4 y6 y7 y8 S KE0 Q):
 Ap Tj (vc Pg (c37.at_ [1,1,1,0,1,0,0]) (Yz.drop 1)) 68 (Ik y1 y4 y6 y70 y80) S (Ak 0 (Av (vc Pg (c37.at_ [1,1,1,1]) (Yz.drop 1)) (Ao Pg r37 Q))):=IB (E:=fun y7 y8=>Ik y1 y4 y6 y7 y8) 3 4 (fun _ _=>⟨rfl,rfl⟩) (fun _ _ _ _=>by kernel_rfl) h0 hr
end
theorem HA(S:Aa):S.BA (fun _=>false)=S:=by
 cases S with
 |mk n obj =>
  unfold Aa.BA
  congr 1
  funext i
  cases h:obj i with
  |none=>simp[h]
  |some o=>simp[h,TI]
theorem RW{P:Program}{f:FuncId}{args args2:List AV}{S:Aa}{r:AV}(hl:args.length=args2.length)(hcv:∀(k:Nat) (u u2:AV),args[k]? = some u→args2[k]? = some u2→Cv S S.n u u2)(h:AT P f args2 S r):AT P f args S r:=by
 refine Ad.BA (fun _=>false) hl ?_ ?_
 ·rw[HA];exact hcv
 ·rw[HA];exact h
theorem AhB{n:Int}(h0:0≤n)(hn:n≤1000){l:List Int}(hl:∀ x∈l,0≤x∧x<65536)(hlen:l.length≤1000000){S:Aa}{x1:AV}(hx1:∀(T:Aa) (K:AV→Aa→Prop),AF x1 T K=K (aI l.length) T)
    {P:Nat→AV} (hP:∀ T,Am S T→∀ i (h:i<l.length),(∀ K:AV→Aa→Prop,AS 87 1 x1 (aI i) T K=K (P i) T)∧∀ K:AV→Aa→Prop,Ay (P i) T K=K (Lz l[i]) T):
    AT Pg 37 [aI n,x1] S (.t [(AP n l (min l.length 40)).1.av,aI (AP n l (min l.length 40)).2]):=by
 refine Ad.tree (pD ?_)
 unfold m37
 have hok:=KP (n:=n) ⟨by omega,by omega⟩ hl h0
 have hin:=GB n l
 refine Ai rfl fun S1 k1 n1 o1=>?_
 rw[A6 (cs:=[aI n,.nl]) rfl]
 refine Ai rfl fun S2 k2 n2 o2=>?_
 refine AG o2 rfl rfl fun S3 n3 o3 f3=>?_
 have k3:Am S S3:=(k1.trans k2).st (by omega) n3 f3
 refine ZG (fun y w S'=>Am S S'∧S3.n≤S'.n∧S'.obj S.n=some (.cells 61 [[aI 0,.nl]] true)∧∃ i:Nat,w=aI i∧i≤min l.length 40∧y=aI (AP n l i).2∧
     (((AP n l i).1=⟨n,[]⟩∧S'.obj S1.n=some (.cells 61 [[aI n,.nl]] true))∨S'.obj S1.n=some (.cells 61 [(AP n l i).1.cells] true)))
  (fun _ w _=>40 - ((Aw w).getD 0).toNat) ⟨k3,AhN _,(f3 _ (by omega)).trans (Kg k2 o1),0,rfl,AhS _,rfl,.inl ⟨rfl,o3⟩⟩ ?_
 dsimp only[Dw]
 rintro _ _ S4 ⟨k4,n4,p4,i,rfl,hi,rfl,hg⟩ KE hKE
 have hk3:=k3.1
 obtain⟨cs,hcs,hcl,hcv⟩:∃ cs,S4.obj S1.n=some (.cells 61 [cs] true)∧cs.length=2∧∀(T:Aa) (m:Nat),Cv T m (.a cs) (AP n l i).1.av:=by
  rcases hg with⟨e,h⟩|h
  ·exact⟨_,h,rfl,fun T m=>by rw[e];exact aT (.v _) .nl⟩
  ·exact⟨_,h,rfl,fun T m=>Gr.tree _ _ _⟩
 have hgi:=hin i
 have hgo:=hok i
 have hlen2:=hgo.len
 have fin:i=min l.length 40→AB 2 (.p S1.n 0 0) S4 fun v S5=>A8 2 (.p S.n 0 0) v S5 fun _ S5=>AB 2 (.p S.n 0 0) S5 fun v S6=>∃ r,Bh.ret (.t [v,aI (AP n l i).2]) = .ret r∧Am S S6∧Cv (S6.BA (AL S.n)) S.n r (.t [(AP n l (min l.length 40)).1.av,aI (AP n l (min l.length 40)).2]):=fun e=>by
  rw[An (n:=2) hcs hcl]
  refine AG p4 hcl rfl fun S5 n5 o5 f5=>?_
  rw[An (n:=2) o5 hcl]
  exact⟨_,rfl,k4.st (AhN _) n5 f5,by rw[←e];exact DU (hcv _ _) (.v _)⟩
 dsimp only[uH,Fi,Lt,Lq]
 rw[hx1,As,Ag]
 refine Al (fun hlt=>?_) (fun hge=>fin (by have:=dF hge;omega))
 rw[As,Ag]
 refine Al (fun h40=>?_) (fun hge=>fin (by have:¬ ((i:Int)<40):=dF hge;omega))
 have hlt:i<l.length:=by have:=dT hlt;omega
 have h40:i<40:=by have:((i:Int)<40):=dT h40;omega
 obtain⟨hP1,hP2⟩:=hP S4 k4 i hlt
 have hx:=hl _ (AhP hlt)
 have hgd:l.getD i 0=l[i]:=by simp[AhL,hlt]
 have hv:0<2*(AP n l i).1.vars:=by unfold Gr.vars;omega
 have hv2:(AP n l i).1.vars≤1002000:=by unfold Gr.vars;omega
 have hd:0≤l[i].tdiv (2*(AP n l i).1.vars)∧l[i].tdiv (2*(AP n l i).1.vars)≤65536:=by
  rw[Ai0 hx.1]
  have h1:=Int.ediv_nonneg hx.1 (show 0≤2*(AP n l i).1.vars by omega)
  have h2:=Int.ediv_le_self (2*(AP n l i).1.vars) hx.1
  omega
 have ha:=H3 hx.1 (by omega) hv
 have hb:=H3 hd.1 hd.2 hv
 have cv1:∀(T:Aa) (k:Nat) (u u2:AV),[AV.a cs][k]? = some u→[(AP n l i).1.av][k]? = some u2→Cv T T.n u u2:=fun T k u u2 hu hu2=>by
  match k with
  |0=>cases hu;cases hu2;exact hcv _ _
  |k+1=>simp at hu
 rw[An (n:=2) hcs hcl]
 have hva:AT Pg 16 [.a cs] S4 (aI (AP n l i).1.vars):=RW (args2:=[(AP n l i).1.av]) rfl (cv1 S4) (Ox hgo (by omega) (by omega) S4)
 refine At hva ?_
 rw[Iu (by omega) (by omega)]
 show ∃ q13:AV,_
 refine⟨_,by rw[hP1];exact⟨rfl,rfl⟩,?_⟩
 refine⟨_,by rw[hP2];exact⟨rfl,rfl⟩,?_⟩
 refine⟨aI l[i],by rw[Gc _ (by omega) (by omega)];exact⟨rfl,rfl⟩,?_⟩
 refine⟨aI (l[i].tmod (2*(AP n l i).1.vars)),by rw[Ez (by omega)];exact⟨rfl,rfl⟩,?_⟩
 refine⟨_,by rw[hP1];exact⟨rfl,rfl⟩,?_⟩
 refine⟨_,by rw[hP2];exact⟨rfl,rfl⟩,?_⟩
 refine⟨aI l[i],by rw[Gc _ (by omega) (by omega)];exact⟨rfl,rfl⟩,?_⟩
 refine⟨aI (l[i].tdiv (2*(AP n l i).1.vars)),by rw[Fy (by omega) (by omega) (by omega)];exact⟨rfl,rfl⟩,?_⟩
 refine⟨aI ((l[i].tdiv (2*(AP n l i).1.vars)).tmod (2*(AP n l i).1.vars)),by rw[Ez (by omega)];exact⟨rfl,rfl⟩,?_⟩
 have hand:AT Pg 84 [.a cs,aI (l[i].tmod (2*(AP n l i).1.vars)),aI ((l[i].tdiv (2*(AP n l i).1.vars)).tmod (2*(AP n l i).1.vars))] S4 (Vu ((AP n l i).1.and (l[i].tmod (2*(AP n l i).1.vars)) ((l[i].tdiv (2*(AP n l i).1.vars)).tmod (2*(AP n l i).1.vars)))):=
  RW (args2:=[(AP n l i).1.av,aI (l[i].tmod (2*(AP n l i).1.vars)),aI ((l[i].tdiv (2*(AP n l i).1.vars)).tmod (2*(AP n l i).1.vars))]) rfl (fun k u u2 hu hu2=>by
   match k with
   |0=>cases hu;cases hu2;exact hcv _ _
   |1|2=>cases hu;cases hu2;exact .v _
   |k+3=>simp at hu) (AfK hgo ⟨by omega,by omega⟩ ⟨by omega,by omega⟩ S4)
 rw[An (n:=2) hcs hcl]
 refine At hand ?_
 have hs:AP n l (i+1)=N1 (AP n l i).1 (AP n l i).2 l[i]:=by rw[AP,hgd]
 simp only[N1]at hs
 generalize(AP n l i).1.and (l[i].tmod (2*(AP n l i).1.vars)) ((l[i].tdiv (2*(AP n l i).1.vars)).tmod (2*(AP n l i).1.vars))=r at *
 unfold Vu
 rw[Co,Cn,JH]
 refine Ai rfl fun S5 k5 n5 o5=>?_
 refine AG o5 rfl rfl fun S6 n6 o6 f6=>?_
 have k6:Am S4 S6:=k5.st (AhN _) n6 f6
 have p6:=(Kg k6 p4)
 have c6:=(k6.2 S1.n (by omega)).trans hcs
 have hadd:∀ K:AV→Aa→Prop,∀ S,bin .add 0 (.v (.int .i64 (i:Int))) (.v (.int .i64 1)) S K=K (aI (i+1:Nat)) S:=fun K S=>Ar (by omega) (by omega) 0
 have hμ:40 - ((Aw (aI (i+1:Nat))).getD 0).toNat<40 - ((Aw (aI i)).getD 0).toNat:=by simp[Aw];omega
 rw[AA,Ag]
 refine Al (fun h=>?_) (fun h=>?_)
 ·have h:r.2.2=0:=dT h
  simp only[h,if_true]at hs
  have qq:0≤l[i].tdiv 7∧l[i].tdiv 7≤65536:=by
   rw[Ai0 hx.1];omega
  have e1:∀(T:Aa) (K:AV→Aa→Prop),Cq .i64 (Lz l[i]) T K=K (aI l[i]) T:=fun T K=>Gc _ (by omega) (by omega)
  have e2:∀(T:Aa) (K:AV→Aa→Prop),bin .quo 0 (aI l[i]) (.v (.int .i64 7)) T K=K (aI (l[i].tdiv 7)) T:=fun T K=>Fy (by decide) (by omega) (by omega) 0
  have e3:∀(T:Aa) (K:AV→Aa→Prop),bin .rem 0 (aI (l[i].tdiv 7)) (.v (.int .i64 2)) T K=K (aI ((l[i].tdiv 7).tmod 2)) T:=fun T K=>Ez (by decide) _ 0
  have pT:∀{T:Aa},Am S T→_:=fun{T} hT=>hP T hT i hlt
  refine⟨.a r.1.cells,fun T hT=>by rw[An (n:=2) (Kg hT o6) rfl];exact⟨rfl,rfl⟩,P i,fun T hT=>by rw[(pT ((k4.trans k6).trans hT)).1];exact⟨rfl,rfl⟩,_,fun T hT=>by rw[(pT ((k4.trans k6).trans hT)).2];exact⟨rfl,rfl⟩,_,fun T hT=>by rw[e1];exact⟨rfl,rfl⟩,_,fun T hT=>by rw[e2];exact⟨rfl,rfl⟩,_,fun T hT=>by rw[e3];exact⟨rfl,rfl⟩,_,fun T hT=>by rw[Vi];exact⟨rfl,rfl⟩,?_⟩
  refine AG c6 rfl hcl fun S7 n7 o7 f7=>?_
  have k7:Am S S7:=(k4.trans k6).st (by omega) n7 f7
  refine⟨fun T hT=>by rw[Vi];exact⟨rfl,rfl⟩,fun T hT=>by rw[e3];exact⟨rfl,rfl⟩,fun T hT=>by rw[e2];exact⟨rfl,rfl⟩,fun T hT=>by rw[e1];exact⟨rfl,rfl⟩,fun T hT=>by rw[(pT (k7.trans hT)).2];exact⟨rfl,rfl⟩,fun T hT=>by rw[(pT (k7.trans hT)).1];exact⟨rfl,rfl⟩,?_⟩
  rw[hadd]
  exact hKE _ _ _ ⟨k7,by have:=k6.1;omega,(f7 _ (by omega)).trans p6,i+1,rfl,by omega,by rw[hs],.inr (by rw[hs];exact o7)⟩ hμ
 ·have h:¬ r.2.2=0:=dF h
  simp only[h,if_false]at hs
  rw[hadd]
  refine hKE _ _ _ ⟨k4.trans k6,by have:=k6.1;omega,p6,i+1,rfl,by omega,by rw[hs],?_⟩ hμ
  rcases hg with⟨e,h'⟩|h'
  ·exact .inl ⟨by rw[hs];exact e,(k6.2 S1.n (by omega)).trans h'⟩
  ·exact .inr (by rw[hs];exact(k6.2 S1.n (by omega)).trans h')
section
set_option maxRecDepth 100000
def IS:Code:=(Tryz.f11.body).getD .skip
def Xq:List ResultVar:=Tryz.f11.results.toList
def Iq(y1 y2 y4 y5 y6:AV):List AV:=[y1,y2,y4,y5,y6]
def Tx:List Nat:=[1,2,4,5,6]
def D5(y1 y2 y4 y5 y8:AV):List AV:=[y1,y2,y4,y5,y8]
def I7:List Nat:=[1,2,4,5,8]
def GV(y1 y2 y4 y5 y8 y9 y10:AV):List AV:=[y1,y2,y4,y5,y8,y9,y10]
def Tw:List Nat:=[1,2,4,5,8,9,10]
def DF(y1 y2 y4 y5 y11:AV):List AV:=[y1,y2,y4,y5,y11]
def I6:List Nat:=[1,2,4,5,11]
def Ip(y1 y2 y4 y5 y11 y12 y13 y14:AV):List AV:=[y1,y2,y4,y5,y11,y12,y13,y14]
def Tv:List Nat:=[1,2,4,5,11,12,13,14]
def C5:List (List Nat):=[Tx,I7,Tw,I6,Tv,[]]
def m11(x0:AV)(S:Aa)(Q:Aq):Prop:=
 Az 29 8 x0 S fun c S=>Az 45 5 (.a Xl) S fun d S=>AB 8 c S fun e S=>Ah Pg 24 [e] S Q fun f S=>un .not f S fun g S=>Fi g (CD Ub Xl [] S fun h S=>A8 5 d h S fun i S=>AB 5 d S fun k _=>Q (.ret (.t [k,aI 1])) S) (Lf c 0 S fun l S=>Lf c 1 S fun m S=>AF m S fun n S=>bin .add 0 l n S fun o S=>bin .gtr 0 o (aI 10) S fun p S=>Fi p (CD Ub Xl [] S fun q S=>A8 5 d q S fun r S=>AB 5 d S fun s _=>Q (.ret (.t [s,aI 2])) S) (CD Ub Xl [(0,o)] S fun u S=>Az 45 5 (.a Xl) S fun v S=>A8 5 v u S fun w S=>Ap Tx (vc Pg (IS.at_ [1,1,1,1,1,0,1,0,0]) (C5.drop 1)) 138 (Iq c d o v (aI 0)) S (Ak 0 (Av (vc Pg (IS.at_ [1,1,1,1,1,1]) (C5.drop 1)) (Ao Pg Xq Q)))))
theorem qA{x0:AV}{S:Aa}{Q:Aq}(h:m11 x0 S Q):Ad Pg 11 [x0] S Q:=
 Bj (n:=138) C5 Tryz.func11 (by kernel_rfl) (Eq.mpr (by kernel_rfl) h)
def uW(y1 y2 y4 y5 y6:AV)(S:Aa)(KE0:By)(Q:Aq):Prop:=
 bin .shl 0 (aI 1) y4 S fun a S=>bin .lss 0 y6 a S fun c S=>Fi c (AB 8 y1 S fun d S=>Lf y1 5 S fun e S=>Ah Pg 25 [d,y6,e] S Q fun f S=>Lf y5 1 S fun g S=>AU 4 1 1 [.v (.bool false)] [(0,f)] S fun h S=>Bo 4 1 1 g h S fun i S=>shift y5 1 S fun k S=>A8 1 k i S fun l S=>Lt S (shift y5 2) fun m=>Lt S (Ay m) fun n=>Fi f (Lt S (AB 8 y1) fun o=>Lc S 26 [o,y6] fun p=>∃ q:AV,(∀ T:Aa,Am S T→p=q∧T=T)∧Lt S (AU 4 1 1 [.v (.bool false)] [(0,q)]) fun r=>Bo 4 1 1 n r S fun s S=>Lt S (shift y5 2) fun t=>A8 1 t s S fun u S=>bin .add 0 y6 (aI 1) S fun w S=>KE0 138 (Iq y1 y2 y4 y5 w) S) (∃ x:AV,(∀ T:Aa,Am S T→(.v (.bool false))=x∧T=T)∧Lt S (AU 4 1 1 [.v (.bool false)] [(0,x)]) fun y=>Bo 4 1 1 n y S fun z S=>Lt S (shift y5 2) fun A=>A8 1 A z S fun B S=>bin .add 0 y6 (aI 1) S fun C S=>KE0 138 (Iq y1 y2 y4 y5 C) S)) (Ap I7 (vc Pg (IS.at_ [1,1,1,1,1,1,0,1,0,0]) (C5.drop 2)) 138 (D5 y1 y2 y4 y5 (aI 0)) S (Ak 2 (Av (vc Pg (IS.at_ [1,1,1,1,1,1,1]) (C5.drop 3)) (Ao Pg Xq Q))))
theorem ZV{y1 y2 y4 y5:AV}{y60:AV}{S:Aa}{Q:Aq}(I:AV→Aa→Prop)(μ:AV→Aa→Nat)(h0:I y60 S)(hr:BS (fun y6=>Iq y1 y2 y4 y5 y6) 138 I μ fun y6 S KE0=>uW y1 y2 y4 y5 y6 S KE0 Q):
 Ap Tx (vc Pg (IS.at_ [1,1,1,1,1,0,1,0,0]) (C5.drop 1)) 138 (Iq y1 y2 y4 y5 y60) S (Ak 0 (Av (vc Pg (IS.at_ [1,1,1,1,1,1]) (C5.drop 1)) (Ao Pg Xq Q))):=DQ 4 (fun _=>rfl) (fun _ _ _=>by kernel_rfl) h0 hr
def gH(y1 y2 y4 y5 y8:AV)(S:Aa)(KE1:By)(Q:Aq):Prop:=
 Lf y1 6 S fun a S=>AF a S fun c S=>bin .lss 0 y8 c S fun d S=>Fi d (Ap Tw (vc Pg (IS.at_ [1,1,1,1,1,1,0,1,0,0,1,0,0,1,0,1,0,0]) (C5.drop 3)) 138 (GV y1 y2 y4 y5 y8 .nl (aI 0)) S (Ak 4 (Av (vc Pg (IS.at_ [1,1,1,1,1,1,0,1,0,0,1,0,0,1,1]) (C5.drop 3)) (Ak 3 (Av (vc Pg (IS.at_ [1,1,1,1,1,1,0,1,0,0,1,1]) (C5.drop 3)) (BV (Hc I7 KE1) (Ak 2 (Av (vc Pg (IS.at_ [1,1,1,1,1,1,1]) (C5.drop 3)) (Ao Pg Xq Q))))))))) (Ap I6 (vc Pg (IS.at_ [1,1,1,1,1,1,1,0,1,0,0]) (C5.drop 4)) 138 (DF y1 y2 y4 y5 (aI 0)) S (Ak 6 (Av (vc Pg (IS.at_ [1,1,1,1,1,1,1,1]) (C5.drop 5)) (Ao Pg Xq Q))))
theorem gG(y1 y2 y4 y5 y8:AV)(S:Aa)(KE1:By)(Q:Aq):vc Pg (IS.at_ [1,1,1,1,1,1,0,1,0,0]) (C5.drop 2) (Ls 138 I7 (D5 y1 y2 y4 y5 y8)) S (BV (Hc I7 KE1) (Ak 2 (Av (vc Pg (IS.at_ [1,1,1,1,1,1,1]) (C5.drop 3)) (Ao Pg Xq Q))))=gH y1 y2 y4 y5 y8 S KE1 Q:=by kernel_rfl
theorem V1{y1 y2 y4 y5 y8:AV}{S:Aa}{Q:Aq}(I:AV→AV→AV→AV→AV→Aa→Prop)(μ:AV→AV→AV→AV→AV→Aa→Nat)(h0:∃(y1' y2' y4' y5' y8':AV) (S':Aa),Wk S (D5 y1 y2 y4 y5 y8) S' (D5 y1' y2' y4' y5' y8')∧I y1' y2' y4' y5' y8' S')
    (hr:∀(y1 y2 y4 y5 y8:AV) (S:Aa),I y1 y2 y4 y5 y8 S→∀ KE1:By,(∀(y1' y2' y4' y5' y8':AV) (S':Aa) (y1'' y2'' y4'' y5'' y8'':AV) (S'':Aa),Wk S' (D5 y1' y2' y4' y5' y8') S'' (D5 y1'' y2'' y4'' y5'' y8'')→I y1'' y2'' y4'' y5'' y8'' S''→μ y1'' y2'' y4'' y5'' y8'' S''<μ y1 y2 y4 y5 y8 S→KE1 138 (D5 y1' y2' y4' y5' y8') S')→gH y1 y2 y4 y5 y8 S KE1 Q):
    Ap I7 (vc Pg (IS.at_ [1,1,1,1,1,1,0,1,0,0]) (C5.drop 2)) 138 (D5 y1 y2 y4 y5 y8) S (Ak 2 (Av (vc Pg (IS.at_ [1,1,1,1,1,1,1]) (C5.drop 3)) (Ao Pg Xq Q))):=by
 obtain⟨y1',y2',y4',y5',y8',S0,hw0,h0⟩:=h0
 refine⟨fun n e S=>n=138∧∃ y1 y2 y4 y5 y8:AV,e=(D5 y1 y2 y4 y5 y8)∧I y1 y2 y4 y5 y8 S,fun _ e S=>μ (e.getD 0 .j) (e.getD 1 .j) (e.getD 2 .j) (e.getD 3 .j) (e.getD 4 .j) S,?_,?_⟩
 ·exact⟨_,_,hw0,rfl,_,_,_,_,_,rfl,h0⟩
 ·rintro _ e S ⟨rfl,y1,y2,y4,y5,y8,rfl,hI⟩
  exact(gG _ _ _ _ _ _ _ _).mpr (hr y1 y2 y4 y5 y8 S hI _ (fun y1' y2' y4' y5' y8' S' y1'' y2'' y4'' y5'' y8'' S'' hw hI' hm=>⟨_,_,hw,⟨rfl,_,_,_,_,_,rfl,hI'⟩,hm⟩))
def uV(y1 y2 y4 y5 y8 y9 y10:AV)(S:Aa)(KE2:By)(KE1:By)(Q:Aq):Prop:=
 bin .shl 0 (aI 1) y4 S fun a S=>bin .lss 0 y10 a S fun c S=>Fi c (Lt S (shift y5 1) fun d=>Lt S (Ay d) fun e=>Lt S (AS 4 1 e y10) fun f=>Lt S (Ay f) fun g=>Fi g (Lt S (AB 8 y1) fun h=>Lt S (shift y1 6) fun i=>Lt S (Ay i) fun k=>Lt S (AS 3 1 k y8) fun l=>Lt S (Ay l) fun m=>Lc S 27 [h,y10,m] fun n=>∃ o:AV,(∀ T:Aa,Am S T→n=o∧T=T)∧Lt S (AU 4 1 1 [.v (.bool false)] [(0,o)]) fun p=>Bo 4 1 1 y9 p S fun q S=>bin .add 0 y10 (aI 1) S fun r S=>KE2 138 (GV y1 y2 y4 y5 y8 q r) S) (∃ s:AV,(∀ T:Aa,Am S T→(.v (.bool false))=s∧T=T)∧Lt S (AU 4 1 1 [.v (.bool false)] [(0,s)]) fun t=>Bo 4 1 1 y9 t S fun u S=>bin .add 0 y10 (aI 1) S fun w S=>KE2 138 (GV y1 y2 y4 y5 y8 u w) S)) (Lf y5 4 S fun x S=>AU 41 1 1 [.nl] [(0,y9)] S fun y S=>Bo 41 1 24 x y S fun z S=>shift y5 4 S fun A S=>A8 1 A z S fun B S=>bin .add 0 y8 (aI 1) S fun C S=>KE1 138 (D5 y1 y2 y4 y5 C) S)
theorem ZU{y1 y2 y4 y5 y8:AV}{y90 y100:AV}{S:Aa}{KE1:By}{Q:Aq}(I:AV→AV→Aa→Prop)(μ:AV→AV→Aa→Nat)(h0:I y90 y100 S)(hr:Dw (fun y9 y10=>GV y1 y2 y4 y5 y8 y9 y10) 138 I μ fun y9 y10 S KE2=>uV y1 y2 y4 y5 y8 y9 y10 S KE2 KE1 Q):
 Ap Tw (vc Pg (IS.at_ [1,1,1,1,1,1,0,1,0,0,1,0,0,1,0,1,0,0]) (C5.drop 3)) 138 (GV y1 y2 y4 y5 y8 y90 y100) S (Ak 4 (Av (vc Pg (IS.at_ [1,1,1,1,1,1,0,1,0,0,1,0,0,1,1]) (C5.drop 3)) (Ak 3 (Av (vc Pg (IS.at_ [1,1,1,1,1,1,0,1,0,0,1,1]) (C5.drop 3)) (BV (Hc I7 KE1) (Ak 2 (Av (vc Pg (IS.at_ [1,1,1,1,1,1,1]) (C5.drop 3)) (Ao Pg Xq Q)))))))):=IB (E:=fun y9 y10=>GV y1 y2 y4 y5 y8 y9 y10) 5 6 (fun _ _=>⟨rfl,rfl⟩) (fun _ _ _ _=>by kernel_rfl) h0 hr
def gF(y1 y2 y4 y5 y11:AV)(S:Aa)(KE3:By)(Q:Aq):Prop:=
 bin .shl 0 (aI 1) y4 S fun a S=>bin .lss 0 y11 a S fun c S=>Fi c (AB 8 y1 S fun d S=>Ah Pg 28 [d,y11] S Q fun e S=>Ap Tv (vc Pg (IS.at_ [1,1,1,1,1,1,1,0,1,0,0,1,0,0,1,1,0,1,0,0]) (C5.drop 5)) 138 (Ip y1 y2 y4 y5 y11 .nl e (aI 0)) S (Ak 8 (Av (vc Pg (IS.at_ [1,1,1,1,1,1,1,0,1,0,0,1,0,0,1,1,1]) (C5.drop 5)) (Ak 7 (Av (vc Pg (IS.at_ [1,1,1,1,1,1,1,0,1,0,0,1,1]) (C5.drop 5)) (BV (Hc I6 KE3) (Ak 6 (Av (vc Pg (IS.at_ [1,1,1,1,1,1,1,1]) (C5.drop 5)) (Ao Pg Xq Q))))))))) (AB 5 y5 S fun f S=>A8 5 y2 f S fun g S=>AB 5 y2 S fun h _=>Q (.ret (.t [h,aI 0])) S)
theorem gE(y1 y2 y4 y5 y11:AV)(S:Aa)(KE3:By)(Q:Aq):vc Pg (IS.at_ [1,1,1,1,1,1,1,0,1,0,0]) (C5.drop 4) (Ls 138 I6 (DF y1 y2 y4 y5 y11)) S (BV (Hc I6 KE3) (Ak 6 (Av (vc Pg (IS.at_ [1,1,1,1,1,1,1,1]) (C5.drop 5)) (Ao Pg Xq Q))))=gF y1 y2 y4 y5 y11 S KE3 Q:=by kernel_rfl
theorem V0{y1 y2 y4 y5 y11:AV}{S:Aa}{Q:Aq}(I:AV→AV→AV→AV→AV→Aa→Prop)(μ:AV→AV→AV→AV→AV→Aa→Nat)(h0:∃(y1' y2' y4' y5' y11':AV) (S':Aa),Wk S (DF y1 y2 y4 y5 y11) S' (DF y1' y2' y4' y5' y11')∧I y1' y2' y4' y5' y11' S')
    (hr:∀(y1 y2 y4 y5 y11:AV) (S:Aa),I y1 y2 y4 y5 y11 S→∀ KE3:By,(∀(y1' y2' y4' y5' y11':AV) (S':Aa) (y1'' y2'' y4'' y5'' y11'':AV) (S'':Aa),Wk S' (DF y1' y2' y4' y5' y11') S'' (DF y1'' y2'' y4'' y5'' y11'')→I y1'' y2'' y4'' y5'' y11'' S''→μ y1'' y2'' y4'' y5'' y11'' S''<μ y1 y2 y4 y5 y11 S→KE3 138 (DF y1' y2' y4' y5' y11') S')→gF y1 y2 y4 y5 y11 S KE3 Q):
    Ap I6 (vc Pg (IS.at_ [1,1,1,1,1,1,1,0,1,0,0]) (C5.drop 4)) 138 (DF y1 y2 y4 y5 y11) S (Ak 6 (Av (vc Pg (IS.at_ [1,1,1,1,1,1,1,1]) (C5.drop 5)) (Ao Pg Xq Q))):=by
 obtain⟨y1',y2',y4',y5',y11',S0,hw0,h0⟩:=h0
 refine⟨fun n e S=>n=138∧∃ y1 y2 y4 y5 y11:AV,e=(DF y1 y2 y4 y5 y11)∧I y1 y2 y4 y5 y11 S,fun _ e S=>μ (e.getD 0 .j) (e.getD 1 .j) (e.getD 2 .j) (e.getD 3 .j) (e.getD 4 .j) S,?_,?_⟩
 ·exact⟨_,_,hw0,rfl,_,_,_,_,_,rfl,h0⟩
 ·rintro _ e S ⟨rfl,y1,y2,y4,y5,y11,rfl,hI⟩
  exact(gE _ _ _ _ _ _ _ _).mpr (hr y1 y2 y4 y5 y11 S hI _ (fun y1' y2' y4' y5' y11' S' y1'' y2'' y4'' y5'' y11'' S'' hw hI' hm=>⟨_,_,hw,⟨rfl,_,_,_,_,_,rfl,hI'⟩,hm⟩))
abbrev Qb(y5:AV)(S:Aa)(y12 y11:AV)(KE3:By)(y1 y2 y4:AV):Prop:=Lf y5 3 S fun a S=>AU 26 1 1 [.nl] [(0,y12)] S fun c S=>Bo 26 1 24 a c S fun d S=>shift y5 3 S fun e S=>A8 1 e d S fun f S=>bin .add 0 y11 (aI 1) S fun g S=>KE3 138 (DF y1 y2 y4 y5 g) S
def uU(y1 y2 y4 y5 y11 y12 y13 y14:AV)(S:Aa)(KE4:By)(KE3:By)(Q:Aq):Prop:=
 Lf y1 0 S fun a S=>bin .shl 0 (aI 1) a S fun c S=>bin .lss 0 y14 c S fun d S=>Fi d (Lf y5 1 S fun e S=>AS 4 1 e y11 S fun f S=>Ay f S fun g S=>Fi g (Lf y5 1 S fun h S=>bin .add 0 y13 y14 S fun i S=>AS 4 1 h i S fun k S=>Ay k S fun l S=>Fi l (bin .add 0 y13 y14 S fun m S=>AU 3 1 1 [aI 0] [(0,m)] S fun n S=>Bo 3 1 8 y12 n S fun o S=>bin .add 0 y14 (aI 1) S fun p S=>KE4 138 (Ip y1 y2 y4 y5 y11 o y13 p) S) (bin .add 0 y14 (aI 1) S fun q S=>KE4 138 (Ip y1 y2 y4 y5 y11 y12 y13 q) S)) (Qb y5 S y12 y11 KE3 y1 y2 y4)) (Qb y5 S y12 y11 KE3 y1 y2 y4)
theorem ZT{y1 y2 y4 y5 y11 y13:AV}{y120 y140:AV}{S:Aa}{KE3:By}{Q:Aq}(I:AV→AV→Aa→Prop)(μ:AV→AV→Aa→Nat)(h0:I y120 y140 S)(hr:Dw (fun y12 y14=>Ip y1 y2 y4 y5 y11 y12 y13 y14) 138 I μ fun y12 y14 S KE4=>uU y1 y2 y4 y5 y11 y12 y13 y14 S KE4 KE3 Q):
 Ap Tv (vc Pg (IS.at_ [1,1,1,1,1,1,1,0,1,0,0,1,0,0,1,1,0,1,0,0]) (C5.drop 5)) 138 (Ip y1 y2 y4 y5 y11 y120 y13 y140) S (Ak 8 (Av (vc Pg (IS.at_ [1,1,1,1,1,1,1,0,1,0,0,1,0,0,1,1,1]) (C5.drop 5)) (Ak 7 (Av (vc Pg (IS.at_ [1,1,1,1,1,1,1,0,1,0,0,1,1]) (C5.drop 5)) (BV (Hc I6 KE3) (Ak 6 (Av (vc Pg (IS.at_ [1,1,1,1,1,1,1,1]) (C5.drop 5)) (Ao Pg Xq Q)))))))):=IB (E:=fun y12 y14=>Ip y1 y2 y4 y5 y11 y12 y13 y14) 5 7 (fun _ _=>⟨rfl,rfl⟩) (fun _ _ _ _=>by kernel_rfl) h0 hr
end
structure Fv (c:Ci) (S S1 S2 S4 S':Aa) (m:Nat) (zv zi:AV) (i:Nat):Prop where
 AR:Am S S'
 n:S4.n≤S'.n
 cb:S'.obj S.n=some (.cells 29 [c.cells] true)
 ob:S'.obj S1.n=some (.cells 45 [[aI 0,.nl,.nl,.nl,.nl]] true)
 sb:S'.obj S2.n=some (.cells 45 [[aI m,zv,zi,.nl,.nl]] true)
 wv:A4 S4.n S' zv 4 (((AE c).take i).map fun b=>[aB b])
 wi:A4 S4.n S' zi 4 (((Au c).initial.take i).map fun b=>[aB b])
 ap:DL zv zi
 ap':DL zi zv
structure Ff (c:Ci) (S S1 S2 S4 S':Aa) (sp:List AV) (z:AV) (e:Nat) (rows:List AV):Prop where
 AR:Am S S'
 n:S4.n≤S'.n
 cb:S'.obj S.n=some (.cells 29 [c.cells] true)
 ob:S'.obj S1.n=some (.cells 45 [[aI 0,.nl,.nl,.nl,.nl]] true)
 sb:S'.obj S2.n=some (.cells 45 [sp] true)
 ow:A4 S4.n S' z e (rows.map fun v=>[v])
theorem OP{α:Type}{f:α→Value}{n:Nat}{S:Aa}{x:AV}{e:Nat}{l:List α}{F:Nat→Bool}(h:A4 n S x e (l.map fun a=>[.v (f a)]))(hF:∀ i b m,x = .s i b m→F i=true):Cv (S.BA F) S.n x (aL (fun a=>.v (f a)) l):=by
 rcases h with⟨rfl,h⟩|⟨id,rfl,h1,h2,h3⟩
 ·have:l = []:=AiT.1 h
  subst this
  exact .nl
 ·refine .s id 0 _ e _ _ (by rw[GK h3,hF id _ _ rfl];rfl) (by simp) (by simp) (fun i c c2 hi hi2=>?_) (fun i c c2 k u u2 hi hi2 hk hk2=>?_)
  ·rw[AhZ]at hi;rw[hi]at hi2;cases hi2;rfl
  ·rw[AhZ]at hi;rw[hi]at hi2;cases hi2
   rw[hk]at hk2;cases hk2
   rw[Ai4]at hi
   obtain⟨a,_,rfl⟩:=AiQ.1 hi
   cases k with
   |zero=>cases hk;exact .v _
   |succ k=>simp at hk
theorem VQ{α:Type}{f:α→AV}{n:Nat}{S:Aa}{x:AV}{e:Nat}{l:List α}(hf:∀ a∈l,Tree (f a))(h:A4 n S x e (l.map fun a=>[f a])){k:Nat}(hk:k≤n):Cv (S.BA (AL k)) S.n x (aL f l):=by
 rcases h with⟨rfl,h⟩|⟨id,rfl,h1,h2,h3⟩
 ·have:l = []:=AiT.1 h
  subst this
  exact .nl
 ·refine .s id 0 _ e _ _ (by rw[GK h3];have:AL k id=true:=by simp[AL];omega
                             rw[this];rfl) (by simp) (by simp) (fun i c c2 hi hi2=>?_) (fun i c c2 k u u2 hi hi2 hk hk2=>?_)
  ·rw[AhZ]at hi;rw[hi]at hi2;cases hi2;rfl
  ·rw[AhZ]at hi;rw[hi]at hi2;cases hi2
   rw[hk]at hk2;cases hk2
   rw[Ai4]at hi
   obtain⟨a,ha,rfl⟩:=AiQ.1 hi
   cases k with
   |zero=>cases hk;exact hf a (AiS ha) _ _
   |succ k=>simp at hk
theorem Uw{n:Nat}{S0 S:Aa}{x:AV}{e:Nat}{l:List Bool}(_:S0.n≤n)(_:n≤S.n)(h:A4 n S x e (l.map fun a=>[aB a])):Cv (S.BA (AL n)) S.n x (aL aB l):=
 OP (f:=fun b=>.bool b) h fun i b m e=>by have:=h.lt e;simp[AL];omega
theorem kR{n id:Nat}{S:Aa}{x:AV}{e:Nat}{l:List Bool}(_:n≤S.n)(h:A4 n S x e (l.map fun a=>[aB a]))(hne:∀ b m,x≠.s id b m):Cv (S.BA (DY n id)) S.n x (aL aB l):=
 OP (f:=fun b=>.bool b) h fun i b m e=>by
  have:=h.lt e
  have:i≠id:=fun q=>hne b m (by rw[e,q])
  simp[DY,this];omega
theorem Ag3{c:Ci}(hc:c.ok):BF Pg 11 [c.av] (.t [(BI c).1.av,aI (BI c).2]):=by
 intro S
 refine Ad.tree (qA ?_)
 have hll:=hc.llen
 dsimp only[m11,Fi,Lf]
 have bz:∀{S:Aa} {K:AV→Aa→Prop},CD [(0,1),(1,1),(2,1),(3,1),(4,1)] [.v (.int .i64 0),.nl,.nl,.nl,.nl] [] S K=K (.a [aI 0,.nl,.nl,.nl,.nl]) S:=A6 rfl
 refine Ai rfl fun S1 k1 n1 o1=>?_
 refine Ai rfl fun S2 k2 n2 o2=>?_
 have k2':=k1.trans k2
 have p2:S2.obj S.n=_:=(Kg k2 o1)
 rw[An (n:=8) p2 rfl]
 refine Af (Vs hc) ?_
 rw[AJ,Ag]
 refine Al (fun h1=>?_) (fun h1=>?_)
 ·rw[bz]
  refine AG o2 rfl rfl fun S3 n3 o3 f3=>?_
  rw[An (n:=5) o3 rfl]
  rw[Ai6]at h1
  refine⟨_,rfl,k2'.st (by omega) n3 f3,?_⟩
  rw[BI,if_pos h1]
  exact DU Nb (.v _)
 have h1:c.right=true:=by simpa using h1
 have h1':¬ c.right=false:=by rw[h1];decide
 obtain⟨g1,g2,g3⟩:=CQ h1
 have hR:=Bq.1 h1
 have hin:=hR.1
 rw[Ac,Ae p2 rfl rfl,Ac,Ae p2 rfl rfl,Bz,Ar (by omega) (by omega),←g1,AO,Ag]
 refine Al (fun h2=>?_) (fun h2=>?_)
 ·rw[bz]
  refine AG o2 rfl rfl fun S3 n3 o3 f3=>?_
  rw[An (n:=5) o3 rfl]
  refine⟨_,rfl,k2'.st (by omega) n3 f3,?_⟩
  rw[BI,if_neg h1',if_pos (dT h2)]
  exact DU Nb (.v _)
 have h2:¬ 10<c.gr.inputs:=dF h2
 obtain⟨m,hm⟩:=AhX g2
 have hm10:m≤10:=by omega
 have hgt:c.gr.inputs.toNat=m:=by rw[hm];rfl
 have hres:BI c=(Au c,0):=by rw[BI,if_neg h1',if_neg h2]
 rw[hres]
 have hN1:2 ^ m≤1024:=AiJ (by decide) (show m≤10 by omega)
 have hpow:((2:Int) ^ m)=((2 ^ m:Nat):Int):=by rw[Aj1];rfl
 rw[show c.gr.inputs=(m:Int)from hm,A6 (cs:=[aI m,.nl,.nl,.nl,.nl]) rfl]
 refine Ai rfl fun S3 k3 n3 o3=>?_
 refine AG o3 rfl rfl fun S4 n4 o4 f4=>?_
 have k4:Am S S4:=(k2'.trans k3).st (by omega) n4 f4
 have fr4:Fv c S S1 S2 S4 S4 m .nl .nl 0:=⟨k4,AhN _,(f4 _ (by omega)).trans (Kg k3 p2),(f4 _ (by omega)).trans (Kg k3 o2),o4,A4.nl _ _ _,A4.nl _ _ _,(fun _ _ _ _ _ e=>by cases e),(fun _ _ _ _ _ e=>by cases e)⟩
 have hvalid:AE c=(List.range (2 ^ m)).map fun s:Nat=>c.cons.all (DM c s):=by
  rw[AE,hgt]
  apply AiR
  intro s hs
  exact(Qr h1 (by omega) (by rw[hgt];exact AiO.1 hs) hR.2.2.2.2.2.2.2.2.2.2.1).symm
 have hvl:(AE c).length=2 ^ m:=by rw[hvalid];simp
 have hinit:(Au c).initial=(List.range (2 ^ m)).map fun s:Nat=>(AE c).getD s false && Ha c s:=by simp only[Au,hgt]
 have hil:(Au c).initial.length=2 ^ m:=by rw[hinit];simp
 refine ZV (fun y S'=>∃(i:Nat) (zv zi:AV),y=aI i∧i≤2 ^ m∧Fv c S S1 S2 S4 S' m zv zi i)
  (fun y _=>2 ^ m - ((Aw y).getD 0).toNat) ⟨0,.nl,.nl,rfl,AhS _,fr4⟩ ?_
 dsimp only[BS]
 rintro _ S5 ⟨i,zv,zi,rfl,hi,fr⟩ KE hKE
 have hk4:=k4.1
 have h5n:=fr.n
 dsimp only[uW,Fi,Lf,Lt,Lc]
 rw[DH (by omega),hpow,As,Ag]
 refine Al (fun hlt=>?_) (fun hge=>?_)
 ·have hlt:i<2 ^ m:=by
    have:((i:Int)<((2 ^ m:Nat):Int)):=dT hlt
    omega
  have hadd:∀ K:AV→Aa→Prop,∀ S,bin .add 0 (.v (.int .i64 (i:Int))) (.v (.int .i64 1)) S K=K (aI (i+1:Nat)) S:=fun K S=>Ar (by omega) (by omega) 0
  have hv:(AE c)[i]? = some (c.cons.all (DM c i)):=by rw[hvalid];simp[hlt]
  have hvg:(AE c).getD i false=c.cons.all (DM c i):=by rw[AhL,hv];rfl
  have hi2:(Au c).initial[i]? = some (c.cons.all (DM c i) && Ha c i):=by
   rw[hinit,Ai4,List.getElem?_range hlt]
   show some ((AE c).getD i false && Ha c i)=_
   rw[hvg]
  rw[An (n:=8) fr.cb rfl,Ac,Ae fr.cb rfl rfl]
  refine Af (AfZ hc (s:=i) hc.cons.1 hc.cons.2) ?_
  rw[Ac,Ae fr.sb rfl rfl]
  refine BM rfl (fun _ h=>by cases h) ?_
  refine fr.wv.app (by omega) (c:=[aB (c.cons.all (DM c i))]) rfl (by rw[AhR,AiF];omega) (fun z6 S6 w6 b6 hz6=>?_) rfl
  obtain⟨m6,hm6⟩:=hz6
  have n6:=b6.1
  have k6:∀ x,x<S4.n→S6.obj x=S5.obj x:=fun x hx=>b6.2 x (by omega) (fun b m e=>by have:=fr.wv.lt e;omega)
  rw[Ac]
  refine B4 ((k6 S2.n (by omega)).trans fr.sb) (by simp) (by rw[hm6];rfl) fun S7 n7 o7 f7=>?_
  have w7:A4 S4.n S7 z6 4 _:=w6.st (id:=S2.n) (fun b m e=>by rw[hm6]at e;injection e;omega) n7 f7
  have wi7:A4 S4.n S7 zi 4 _:=(fr.wi.P1 b6 fr.ap).st (id:=S2.n) (fun b m e=>by have:=fr.wi.lt e;omega) n7 f7
  have ap7:DL zi z6:=fun x b m b' m' e e'=>by
   rw[hm6]at e';injection e' with e1
   have:=fr.wi.lt e
   omega
  have c7:=(f7 S.n (by omega)).trans ((k6 S.n (by omega)).trans fr.cb)
  refine⟨_,fun T hT=>by rw[Ac];exact⟨rfl,rfl⟩,zi,fun T hT=>by rw[Ae (Kg hT o7) rfl rfl];exact⟨rfl,rfl⟩,?_⟩
  have step:∀ b,(c.cons.all (DM c i) && Ha c i)=b→Bo 4 1 1 zi (.l [[aB b]]) S7 fun v T=>∃ q50:AV,(∀ T':Aa,Am T T'→shift (.p S2.n 0 0) 2 T' fun v51 S=>v51=q50∧S=T')∧A8 1 q50 v T fun _ T=>bin .add 0 (aI i) (.v (.int .i64 1)) T fun v' T=>KE 138 (Iq (.p S.n 0 0) (.p S1.n 0 0) (aI m) (.p S2.n 0 0) v') T:=fun b hb=>by
   refine wi7.app (by omega) (c:=[aB b]) rfl (by rw[AhR,AiF];omega) (fun z8 S8 w8 b8 hz8=>?_) rfl
   obtain⟨m8,hm8⟩:=hz8
   have n8:=b8.1
   have k8:∀ x,x<S4.n→S8.obj x=S7.obj x:=fun x hx=>b8.2 x (by omega) (fun b m e=>by have:=wi7.lt e;omega)
   refine⟨_,fun T hT=>by rw[Ac];exact⟨rfl,rfl⟩,?_⟩
   refine B4 ((k8 S2.n (by omega)).trans o7) (by simp) (by rw[hm8];rfl) fun S9 n9 o9 f9=>?_
   rw[hadd]
   have Eh:∀ x,x<S4.n→x≠S2.n→S9.obj x=S5.obj x:=fun x hx hne=>(f9 x hne).trans ((k8 x hx).trans ((f7 x hne).trans (k6 x hx)))
   refine hKE _ _ ⟨i+1,z6,z8,rfl,hlt,⟨by have:=fr.AR.1;omega,fun x hx=>(Eh x (by omega) (by omega)).trans (fr.AR.2 x hx)⟩,by omega,(Eh _ (by omega) (by omega)).trans fr.cb,(Eh _ (by omega) (by omega)).trans fr.ob,o9,?_,?_,fun x b m b' m' e e'=>?_,fun x b m b' m' e e'=>?_⟩ (by simp[Aw];omega)
   ·rw[AiA,hv,AhU]
    exact(w7.P1 b8 ap7).st (id:=S2.n) (fun b m e=>by rw[hm6]at e;injection e;omega) n9 f9
   ·rw[AiA,hi2,hb,AhU]
    exact w8.st (id:=S2.n) (fun b m e=>by rw[hm8]at e;injection e;omega) n9 f9
   ·rw[hm8]at e';injection e' with e1
    have:=w7.lt e
    omega
   ·rw[hm8]at e;injection e with e1
    have:=w7.lt e'
    omega
  rw[Ag]
  refine Al (fun h3=>?_) (fun h3=>?_)
  ·refine⟨_,fun T hT=>by rw[An (n:=8) (Kg hT c7) rfl];exact⟨rfl,rfl⟩,_,fun T hT=>Af (AfY hll hin.1 (by omega) (by omega)) ⟨rfl,rfl⟩,_,fun T hT=>⟨rfl,rfl⟩,_,fun T hT=>BM rfl (fun _ h=>by cases h) ⟨rfl,rfl⟩,?_⟩
   exact step _ (by rw[h3,AhQ])
  ·refine⟨_,fun T hT=>⟨rfl,rfl⟩,_,fun T hT=>BM rfl (fun _ h=>by cases h) ⟨rfl,rfl⟩,?_⟩
   exact step _ (by rw[h3,AhV])
 ·have hge:i=2 ^ m:=by
    have:¬ ((i:Int)<((2 ^ m:Nat):Int)):=dF hge
    omega
  subst hge
  have hfl:c.fair.length≤2000:=hR.2.2.2.2.2.1
  have hspf:(Au c).fair=c.fair.map fun l=>(List.range (2 ^ m)).map fun s:Nat=>(AE c).getD s false && DM c s l:=by
   simp only[Au,hgt]
   apply AiR
   intro l hl
   apply AiR
   intro s hs
   rw[PQ h1 (by omega) (by rw[hgt];exact AiO.1 hs) (AhW.1 hR.2.2.2.2.2.2.2.2.2.2.2.1 l hl)]
  have hfln:(Au c).fair.length=c.fair.length:=by rw[hspf,AhR]
  have wv:=fr.wv
  have wi:=fr.wi
  rw[AiD (by omega)]at wv wi
  refine V1 (fun y1 y2 y4 y5 y8 S'=>y1 = .p S.n 0 0∧y2 = .p S1.n 0 0∧y4=aI m∧y5 = .p S2.n 0 0∧∃(k:Nat) (zf:AV),y8=aI k∧k≤c.fair.length∧Ff c S S1 S2 S4 S' [aI m,aL aB (AE c),aL aB (Au c).initial,.nl,zf] zf 41 (((Au c).fair.take k).map fun v=>aL aB v))
   (fun _ _ _ _ y _=>c.fair.length - ((Aw y).getD 0).toNat) ⟨_,_,_,_,_,_,Wk.row (AL S4.n) fr.sb (by simp[AL];omega) (es2:=[[aI m,aL aB (AE c),aL aB (Au c).initial,.nl,.nl]]) ⟨rfl,fun i c1 c2 e1 e2=>?_⟩,rfl,rfl,rfl,rfl,0,.nl,rfl,AhS _,?_⟩ ?_
  ·match i with
   |0 =>
    cases e1;cases e2
    refine⟨rfl,fun k u u2 hk hk2=>?_⟩
    match k with
    |0=>cases hk;cases hk2;exact .v _
    |1=>cases hk;cases hk2;exact(Uw hk4 h5n wv)
    |2=>cases hk;cases hk2;exact(Uw hk4 h5n wi)
    |3|4=>cases hk;cases hk2;exact .nl'
    |k+5=>simp at hk
   |i+1=>simp at e1
  ·have hlow:∀ x,x<S4.n→x≠S2.n→(S5.Ku (AL S4.n) S2.n (.cells 45 [[aI m,aL aB (AE c),aL aB (Au c).initial,.nl,.nl]] true)).obj x=S5.obj x:=fun x hx hne=>Et hne (by simp[AL];omega)
   refine⟨⟨by rw[FE];exact fr.AR.1,fun x hx=>(hlow x (by omega) (by omega)).trans (fr.AR.2 x hx)⟩,by rw[FE];exact fr.n,(hlow _ (by omega) (by omega)).trans fr.cb,(hlow _ (by omega) (by omega)).trans fr.ob,HX,A4.nl _ _ _⟩
  clear wv wi fr h5n hi S5 KE hKE
  rintro _ _ _ _ _ S5 ⟨rfl,rfl,rfl,rfl,k,zf,rfl,hk,fr⟩ KE hKE
  dsimp only[gH,Fi,Lf]
  have h5n:=fr.n
  rw[Ac,Ae fr.cb rfl rfl,Ax,As,Ag]
  refine Al (fun hlt=>?_) (fun hge=>?_)
  ·have hlt:k<c.fair.length:=by simpa using hlt
   have hlf:k<(Au c).fair.length:=by omega
   have hml:=AhP hlt
   have hrow:(Au c).fair[k]=(List.range (2 ^ m)).map fun s:Nat=>(AE c).getD s false && DM c s c.fair[k]:=by simp only[hspf,List.getElem_map]
   refine ZU (fun y9 y10 S'=>∃ i:Nat,y10=aI i∧i≤2 ^ m∧Ff c S S1 S2 S4 S' [aI m,aL aB (AE c),aL aB (Au c).initial,.nl,zf] zf 41 (((Au c).fair.take k).map fun v=>aL aB v)∧
       A4 S4.n S' y9 4 (((Au c).fair[k].take i).map fun b=>[aB b])∧DL y9 zf)
    (fun _ y _=>2 ^ m - ((Aw y).getD 0).toNat) ⟨0,rfl,AhS _,fr,A4.nl _ _ _,fun _ _ _ _ _ e=>by cases e⟩ ?_
   clear fr h5n S5
   rintro y9 _ S5 ⟨i,rfl,hi,fr,w9,ap9⟩ KE2 hKE2
   dsimp only[uV,Fi,Lf,Lt,Lc]
   have h5n:=fr.n
   rw[DH (by omega),hpow,As,Ag]
   refine Al (fun hl2=>?_) (fun hg2=>?_)
   ·have hl2:i<2 ^ m:=by
      have:((i:Int)<((2 ^ m:Nat):Int)):=dT hl2
      omega
    have kT:∀{T:Aa} {x:Nat} {o:Bw},Am S5 T→x<S5.n→S5.obj x=some o→T.obj x=some o:=fun hT hx ho=>(hT.2 _ hx).trans ho
    have hget:(Au c).fair[k][i]? = some ((AE c).getD i false && DM c i c.fair[k]):=by rw[hrow,Ai4,List.getElem?_range hl2];rfl
    have hvi:(AE c)[i]'(by omega)=(AE c).getD i false:=by simp[AhL,hvl,hl2]
    have step:∀ b,((AE c).getD i false && DM c i c.fair[k])=b→Bo 4 1 1 y9 (.l [[aB b]]) S5 fun v T=>bin .add 0 (aI i) (.v (.int .i64 1)) T fun v' T=>KE2 138 (GV (.p S.n 0 0) (.p S1.n 0 0) (aI m) (.p S2.n 0 0) (aI k) v v') T:=fun b hb=>by
     refine w9.app (by omega) (c:=[aB b]) rfl (by rw[AhR,AiF];omega) (fun z8 S8 w8 b8 hz8=>?_) rfl
     obtain⟨m8,hm8⟩:=hz8
     have n8:=b8.1
     have k8:∀ x,x<S4.n→S8.obj x=S5.obj x:=fun x hx=>b8.2 x (by omega) (fun b m e=>by have:=w9.lt e;omega)
     rw[Ar (by omega) (by omega)]
     refine hKE2 _ _ _ ⟨i+1,rfl,hl2,⟨⟨by have:=fr.AR.1;omega,fun x hx=>(k8 x (by omega)).trans (fr.AR.2 x hx)⟩,by omega,(k8 _ (by omega)).trans fr.cb,(k8 _ (by omega)).trans fr.ob,(k8 _ (by omega)).trans fr.sb,fr.ow.P1 b8 ap9⟩,?_,fun x b m b' m' e e'=>?_⟩ (by simp[Aw];omega)
     ·rw[AiA,hget,hb,AhU]
      exact w8
     ·rw[hm8]at e;injection e with e1
      have:=fr.ow.lt e'
      omega
    refine⟨_,fun T hT=>by rw[Ac];exact⟨rfl,rfl⟩,_,fun T hT=>by rw[Ae (kT hT (by omega) fr.sb) rfl rfl];exact⟨rfl,rfl⟩,_,fun T hT=>by rw[AM (by omega)];exact⟨rfl,rfl⟩,_,fun T hT=>by rw[A1];exact⟨rfl,rfl⟩,?_⟩
    rw[hvi,Ag]
    refine Al (fun h3=>?_) (fun h3=>?_)
    ·refine⟨_,fun T hT=>by rw[An (n:=8) (kT hT (by omega) fr.cb) rfl];exact⟨rfl,rfl⟩,_,fun T hT=>by rw[Ac];exact⟨rfl,rfl⟩,_,fun T hT=>by rw[Ae (kT hT (by omega) fr.cb) rfl rfl];exact⟨rfl,rfl⟩,_,fun T hT=>by rw[AM hlt];exact⟨rfl,rfl⟩,_,fun T hT=>by rw[A1];exact⟨rfl,rfl⟩,
       _,fun T hT=>Af (IU hc (hc.fair.1 _ hml)) ⟨rfl,rfl⟩,_,fun T hT=>⟨rfl,rfl⟩,_,fun T hT=>BM rfl (fun _ h=>by cases h) ⟨rfl,rfl⟩,?_⟩
     exact step _ (by rw[h3,AhQ])
    ·refine⟨_,fun T hT=>⟨rfl,rfl⟩,_,fun T hT=>BM rfl (fun _ h=>by cases h) ⟨rfl,rfl⟩,?_⟩
     exact step _ (by rw[h3,AhV])
   ·have hge:i=2 ^ m:=by
      have:¬ ((i:Int)<((2 ^ m:Nat):Int)):=dF hg2
      omega
    subst hge
    rw[AiD (by rw[hrow];simp)]at w9
    rw[Ac,Ae fr.sb rfl rfl]
    have h9one:y9.one=true:=by rcases w9 with⟨rfl,_⟩|⟨id,rfl,_⟩<;>rfl
    have h9A:∀ cs,y9≠.a cs:=by rcases w9 with⟨rfl,_⟩|⟨id,rfl,_⟩<;>(intro cs h;cases h)
    refine BM h9one h9A ?_
    refine fr.ow.app (by omega) (c:=[y9]) rfl (by rw[AhR,AhR,AiF];omega) (fun z8 S8 w8 b8 hz8=>?_) rfl
    obtain⟨m8,hm8⟩:=hz8
    have n8:=b8.1
    have k8:∀ x,x<S4.n→S8.obj x=S5.obj x:=fun x hx=>b8.2 x (by omega) (fun b m e=>by have:=fr.ow.lt e;omega)
    have w98:A4 S4.n S8 y9 4 _:=w9.P1 b8 (fun x b m b' m' e e'=>ap9 x b' m' b m e' e)
    rw[Ac]
    refine B4 ((k8 S2.n (by omega)).trans fr.sb) (by simp) (by rw[hm8];rfl) fun S9 n9 o9 f9=>?_
    rw[Ar (by omega) (by omega)]
    have w99:A4 S4.n S9 y9 4 _:=w98.st (id:=S2.n) (fun b m e=>by have:=w98.lt e;omega) n9 f9
    have w89:=w8.st (id:=S2.n) (fun b m e=>by rw[hm8]at e;injection e;omega) n9 f9
    have hne9:∀ b m',y9≠.s S5.n b m':=fun b m' e=>by have:=w9.lt e;omega
    obtain⟨id,e8,h8a,h8b,h8o⟩:=w89.ix (i:=0) (by simp)
    have hid:id=S5.n:=by rw[hm8]at e8;injection e8 with e;exact e.symm
    subst hid
    have htk:(Au c).fair.take (k+1)=(Au c).fair.take k ++ [(Au c).fair[k]]:=by rw[AiA,AhM hlf];rfl
    refine hKE _ _ _ _ _ S9 _ _ _ _ _ _ (Wk.row (DY S4.n S5.n) h8o (by simp[DY]) (es2:=(((Au c).fair.take (k+1)).map fun v=>aL aB v).map fun v=>[v]) ?_) ⟨rfl,rfl,rfl,rfl,k+1,z8,rfl,hlt,?_⟩ (by simp[Aw];omega)
    ·rw[htk,AhU,AhU]
     refine K7.snoc (fun r hr u hu=>?_) rfl (fun k' u u2 e1 e2=>?_)
     ·simp only[Ai5]at hr
      obtain⟨x,⟨v,_,rfl⟩,rfl⟩:=hr
      obtain rfl:=AhT.1 hu
      exact Ek _
     ·match k' with
      |0=>cases e1;cases e2;exact kR (by omega) w99 hne9
      |k'+1=>simp at e1
    ·have Eh:∀ x,x<S4.n→x≠S2.n→(S9.Ku (DY S4.n S5.n) S5.n (.cells 41 ((((Au c).fair.take (k+1)).map fun v=>aL aB v).map fun v=>[v]) true)).obj x=S5.obj x:=fun x hx hne=>(Et (by omega) (by simp[DY];omega)).trans ((f9 x hne).trans (k8 x hx))
     refine⟨⟨by rw[FE];have:=fr.AR.1;omega,fun x hx=>(Eh x (by omega) (by omega)).trans (fr.AR.2 x hx)⟩,by rw[FE];omega,(Eh _ (by omega) (by omega)).trans fr.cb,(Eh _ (by omega) (by omega)).trans fr.ob,(Et (by omega) (by simp[DY];omega)).trans o9,?_⟩
     refine .inr ⟨S5.n,?_,by omega,by rw[FE];omega,HX⟩
     rw[e8,htk]
     simp
     omega
  ·have hge:k=c.fair.length:=by
     have:¬ ((k:Int)<(c.fair.length:Int)):=dF hge
     omega
   subst hge
   have wf:=fr.ow
   rw[AiD (by omega)]at wf
   have hspn:(Au c).next=(List.range (2 ^ m)).map fun s:Nat=>if(AE c).getD s false=true then DA c ((AY c).getD s []) (AE c)else[]:=by simp only[Au,hgt]
   have hnl:(Au c).next.length=2 ^ m:=by rw[hspn];simp
   refine V0 (fun y1 y2 y4 y5 y11 S'=>y1 = .p S.n 0 0∧y2 = .p S1.n 0 0∧y4=aI m∧y5 = .p S2.n 0 0∧∃(k:Nat) (zn:AV),y11=aI k∧k≤2 ^ m∧Ff c S S1 S2 S4 S' [aI m,aL aB (AE c),aL aB (Au c).initial,zn,aL (aL aB) (Au c).fair] zn 26 (((Au c).next.take k).map fun v=>aL aI v))
    (fun _ _ _ _ y _=>2 ^ m - ((Aw y).getD 0).toNat) ⟨_,_,_,_,_,_,Wk.row (AL S4.n) fr.sb (by simp[AL];omega) (es2:=[[aI m,aL aB (AE c),aL aB (Au c).initial,.nl,aL (aL aB) (Au c).fair]]) ⟨rfl,fun i c1 c2 e1 e2=>?_⟩,rfl,rfl,rfl,rfl,0,.nl,rfl,AhS _,?_⟩ ?_
   ·match i with
    |0 =>
     cases e1;cases e2
     refine⟨rfl,fun k u u2 hk hk2=>?_⟩
     match k with
     |0=>cases hk;cases hk2;exact .v _
     |1=>cases hk;cases hk2;exact Ek _ _ _
     |2=>cases hk;cases hk2;exact Ek _ _ _
     |3=>cases hk;cases hk2;exact .nl'
     |4=>cases hk;cases hk2;exact VQ (fun _ _=>Ek _) (by rw[AiU]at wf;exact wf) (by omega)
     |k+5=>simp at hk
    |i+1=>simp at e1
   ·have hlow:∀ x,x<S4.n→x≠S2.n→(S5.Ku (AL S4.n) S2.n (.cells 45 [[aI m,aL aB (AE c),aL aB (Au c).initial,.nl,aL (aL aB) (Au c).fair]] true)).obj x=S5.obj x:=fun x hx hne=>Et hne (by simp[AL];omega)
    refine⟨⟨by rw[FE];exact fr.AR.1,fun x hx=>(hlow x (by omega) (by omega)).trans (fr.AR.2 x hx)⟩,by rw[FE];exact fr.n,(hlow _ (by omega) (by omega)).trans fr.cb,(hlow _ (by omega) (by omega)).trans fr.ob,HX,A4.nl _ _ _⟩
   clear wf fr h5n hk S5 KE hKE zf
   rintro _ _ _ _ _ S5 ⟨rfl,rfl,rfl,rfl,k,zn,rfl,hk,fr⟩ KE hKE
   dsimp only[gF,Fi]
   have h5n:=fr.n
   rw[DH (by omega),hpow,As,Ag]
   refine Al (fun hlt=>?_) (fun hge=>?_)
   ·have hlt:k<2 ^ m:=by
      have:((k:Int)<((2 ^ m:Nat):Int)):=dT hlt
      omega
    have hlf:k<(Au c).next.length:=by omega
    have hrow:(Au c).next[k]=if(AE c).getD k false=true then DA c ((AY c).getD k []) (AE c)else[]:=by simp only[hspn,List.getElem_map,List.getElem_range]
    have htk:(Au c).next.take (k+1)=(Au c).next.take k ++ [(Au c).next[k]]:=by rw[AiA,AhM hlf];rfl
    rw[An (n:=8) fr.cb rfl]
    refine Af (iM hc k) ?_
    rw[K6 h1 (by omega) (by rw[hgt];exact hlt)]
    obtain⟨a0,a1⟩:=K5 c ((AY c).getD k []) c.latches.length
    obtain⟨aq,aq1,aq2⟩:=E6 c ((AY c).getD k []) c.latches.length
    have hml:c.inputs.toNat+c.latches.length=m:=by omega
    have hin10:c.inputs.toNat≤10:=by omega
    generalize hA:Cx c ((AY c).getD k []) c.latches.length=a at *
    have hbnd:∀ x,x<2 ^ c.inputs.toNat→a.toNat+x<2 ^ m:=fun x hx=>by
     rw[aq2]
     have h1:2 ^ c.inputs.toNat*aq+x<2 ^ c.inputs.toNat*(aq+1):=by rw[Nat.mul_add];omega
     have h2:2 ^ c.inputs.toNat*(aq+1)≤2 ^ c.inputs.toNat*2 ^ c.latches.length:=Nat.mul_le_mul_left _ aq1
     rw[←Nat.pow_add,hml]at h2
     have:(((2 ^ c.inputs.toNat*aq:Nat):Int)).toNat=2 ^ c.inputs.toNat*aq:=Ai1 _
     omega
    let nt:Nat→List Int:=fun x=>((List.range x).filter fun x=>(AE c).getD (a.toNat+x) false).map fun x:Nat=>a+(x:Int)
    have nts:∀ x,nt (x+1)=if(AE c).getD (a.toNat+x) false=true then nt x ++ [a+(x:Int)]else nt x:=fun x=>by
     simp only[nt,Ai7,AiW,AhU]
     by_cases hq:(AE c).getD (a.toNat+x) false=true
     ·rw[if_pos hq,List.filter_cons,if_pos hq];rfl
     ·rw[if_neg hq,List.filter_cons,if_neg hq,List.filter_nil,List.map_nil,List.append_nil]
    have ntl:∀ x,(nt x).length≤x:=fun x=>by
     simp only[nt,AhR]
     have:=List.length_filter_le (fun x=>(AE c).getD (a.toNat+x) false) (List.range x)
     simpa using this
    have hN:DA c ((AY c).getD k []) (AE c)=nt (2 ^ c.inputs.toNat):=by simp only[DA,hA,nt]
    have hp2:2 ^ c.inputs.toNat≤1024:=AiJ (by decide) hin10
    have hpi:((2:Int) ^ c.inputs.toNat)=((2 ^ c.inputs.toNat:Nat):Int):=by rw[Aj1];rfl
    have hci:aI c.inputs=aI (c.inputs.toNat:Int):=by rw[Int.toNat_of_nonneg hin.1]
    refine ZT (fun y12 y14 S'=>∃ x:Nat,y14=aI x∧x≤2 ^ c.inputs.toNat∧(0<x→(AE c).getD k false=true)∧Ff c S S1 S2 S4 S' [aI m,aL aB (AE c),aL aB (Au c).initial,zn,aL (aL aB) (Au c).fair] zn 26 (((Au c).next.take k).map fun v=>aL aI v)∧
        A4 S4.n S' y12 3 ((nt x).map fun b=>[aI b])∧DL y12 zn)
     (fun _ y _=>2 ^ c.inputs.toNat - ((Aw y).getD 0).toNat) ⟨0,rfl,AhS _,fun h=>by omega,fr,A4.nl _ _ _,fun _ _ _ _ _ e=>by cases e⟩ ?_
    clear fr h5n S5
    rintro y12 _ S5 ⟨x,rfl,hx,hx0,fr,w9,ap9⟩ KE4 hKE4
    have h5n:=fr.n
    have fin:nt x=(Au c).next[k]→shift (.p S2.n 0 0) 3 S5 fun v137 T=>Ay v137 T fun v138 T=>AU 26 1 1 [.nl] [(0,y12)] T fun v139 T=>Bo 26 1 24 v138 v139 T fun v140 T=>shift (.p S2.n 0 0) 3 T fun v141 T=>A8 1 v141 v140 T fun v142 T=>bin .add 0 (aI k) (.v (.int .i64 1)) T fun v143 T=>KE 138 (DF (.p S.n 0 0) (.p S1.n 0 0) (aI m) (.p S2.n 0 0) v143) T:=fun hxr=>by
     rw[hxr]at w9
     rw[Ac,Ae fr.sb rfl rfl]
     have h9one:y12.one=true:=by rcases w9 with⟨rfl,_⟩|⟨id,rfl,_⟩<;>rfl
     have h9A:∀ cs,y12≠.a cs:=by rcases w9 with⟨rfl,_⟩|⟨id,rfl,_⟩<;>(intro cs h;cases h)
     refine BM h9one h9A ?_
     refine fr.ow.app (by omega) (c:=[y12]) rfl (by rw[AhR,AhR,AiF];omega) (fun z8 S8 w8 b8 hz8=>?_) rfl
     obtain⟨m8,hm8⟩:=hz8
     have n8:=b8.1
     have k8:∀ x,x<S4.n→S8.obj x=S5.obj x:=fun x hx=>b8.2 x (by omega) (fun b m e=>by have:=fr.ow.lt e;omega)
     have w98:A4 S4.n S8 y12 3 _:=w9.P1 b8 (fun x b m b' m' e e'=>ap9 x b' m' b m e' e)
     rw[Ac]
     refine B4 ((k8 S2.n (by omega)).trans fr.sb) (by simp) (by rw[hm8];rfl) fun S9 n9 o9 f9=>?_
     rw[Ar (by omega) (by omega)]
     have w99:A4 S4.n S9 y12 3 _:=w98.st (id:=S2.n) (fun b m e=>by have:=w98.lt e;omega) n9 f9
     have w89:=w8.st (id:=S2.n) (fun b m e=>by rw[hm8]at e;injection e;omega) n9 f9
     have hne9:∀ b m',y12≠.s S5.n b m':=fun b m' e=>by have:=w9.lt e;omega
     obtain⟨id,e8,h8a,h8b,h8o⟩:=w89.ix (i:=0) (by simp)
     have hid:id=S5.n:=by rw[hm8]at e8;injection e8 with e;exact e.symm
     subst hid
     refine hKE _ _ _ _ _ S9 _ _ _ _ _ _ (Wk.row (DY S4.n S5.n) h8o (by simp[DY]) (es2:=(((Au c).next.take (k+1)).map fun v=>aL aI v).map fun v=>[v]) ?_) ⟨rfl,rfl,rfl,rfl,k+1,z8,rfl,hlt,?_⟩ (by simp[Aw];omega)
     ·rw[htk,AhU,AhU]
      refine K7.snoc (fun r hr u hu=>?_) rfl (fun k' u u2 e1 e2=>?_)
      ·simp only[Ai5]at hr
       obtain⟨x,⟨v,_,rfl⟩,rfl⟩:=hr
       obtain rfl:=AhT.1 hu
       exact D7 _
      ·match k' with
       |0 =>
        cases e1;cases e2
        exact OP (f:=fun i=>.int .i64 i) w99 fun i b m e=>by
         have:=w99.lt e
         have:i≠S5.n:=fun q=>hne9 b m (by rw[e,q])
         simp[DY,this];omega
       |k'+1=>simp at e1
     ·have Eh:∀ x,x<S4.n→x≠S2.n→(S9.Ku (DY S4.n S5.n) S5.n (.cells 26 ((((Au c).next.take (k+1)).map fun v=>aL aI v).map fun v=>[v]) true)).obj x=S5.obj x:=fun x hx hne=>(Et (by omega) (by simp[DY];omega)).trans ((f9 x hne).trans (k8 x hx))
      refine⟨⟨by rw[FE];have:=fr.AR.1;omega,fun x hx=>(Eh x (by omega) (by omega)).trans (fr.AR.2 x hx)⟩,by rw[FE];omega,(Eh _ (by omega) (by omega)).trans fr.cb,(Eh _ (by omega) (by omega)).trans fr.ob,(Et (by omega) (by simp[DY];omega)).trans o9,?_⟩
      refine .inr ⟨S5.n,?_,by omega,by rw[FE];omega,HX⟩
      rw[e8,htk]
      simp
      omega
    dsimp only[uU,Qb,Fi,Lf]
    rw[Ac,Ae fr.cb rfl rfl,hci,DH (by omega),hpi,As,Ag]
    have hvk:(AE c)[k]'(by omega)=(AE c).getD k false:=by simp[AhL,hvl,hlt]
    refine Al (fun hl2=>?_) (fun hg2=>?_)
    ·have hl2:x<2 ^ c.inputs.toNat:=by
       have:((x:Int)<((2 ^ c.inputs.toNat:Nat):Int)):=dT hl2
       omega
     rw[Ac,Ae fr.sb rfl rfl,AM (by omega),A1,hvk,Ag]
     refine Al (fun h3=>?_) (fun h3=>?_)
     ·have hb:=hbnd x hl2
      have hax:a+(x:Int)=((a.toNat+x:Nat):Int):=by omega
      have hvx:(AE c)[a.toNat+x]'(by omega)=(AE c).getD (a.toNat+x) false:=by simp[AhL,hvl,hb]
      rw[Ac,Ae fr.sb rfl rfl,Ar (by omega) (by omega),hax,AM (by omega),A1,hvx,Ag]
      refine Al (fun h4=>?_) (fun h4=>?_)
      ·rw[Ar (by omega) (by omega)]
       refine BM rfl (fun _ h=>by cases h) ?_
       refine w9.app (by omega) (c:=[aI (a+(x:Int))]) rfl (by have:=ntl x;rw[AhR];omega) (fun z8 S8 w8 b8 hz8=>?_) rfl
       obtain⟨m8,hm8⟩:=hz8
       have n8:=b8.1
       have k8:∀ x,x<S4.n→S8.obj x=S5.obj x:=fun x hx=>b8.2 x (by omega) (fun b m e=>by have:=w9.lt e;omega)
       rw[Ar (by omega) (by omega)]
       refine hKE4 _ _ _ ⟨x+1,rfl,hl2,fun _=>h3,⟨⟨by have:=fr.AR.1;omega,fun x hx=>(k8 x (by omega)).trans (fr.AR.2 x hx)⟩,by omega,(k8 _ (by omega)).trans fr.cb,(k8 _ (by omega)).trans fr.ob,(k8 _ (by omega)).trans fr.sb,fr.ow.P1 b8 ap9⟩,?_,fun x b m b' m' e e'=>?_⟩ (by simp[Aw];omega)
       ·rw[nts,if_pos h4,AhU]
        exact w8
       ·rw[hm8]at e;injection e with e1
        have:=fr.ow.lt e'
        omega
      ·rw[Ar (by omega) (by omega)]
       refine hKE4 _ _ _ ⟨x+1,rfl,hl2,fun _=>h3,fr,?_,ap9⟩ (by simp[Aw];omega)
       rw[nts,if_neg (by rw[h4];decide)]
       exact w9
     ·refine fin ?_
      have:x=0:=by
       rcases Nat.eq_zero_or_pos x with h|h
       ·exact h
       ·rw[hx0 h]at h3;cases h3
      subst this
      rw[hrow,h3,if_neg (by decide)]
      rfl
    ·have hge:x=2 ^ c.inputs.toNat:=by
       have:¬ ((x:Int)<((2 ^ c.inputs.toNat:Nat):Int)):=dF hg2
       omega
     refine fin ?_
     have hpos:0<2 ^ c.inputs.toNat:=Nat.two_pow_pos _
     rw[hrow,hx0 (by omega),if_pos rfl,hN,hge]
   ·have hge:k=2 ^ m:=by
      have:¬ ((k:Int)<((2 ^ m:Nat):Int)):=dF hge
      omega
    subst hge
    have hnx:=fr.ow
    rw[AiD (by omega)]at hnx
    rw[An (n:=5) fr.sb rfl]
    refine AG fr.ob rfl rfl fun S10 n10 o10 f10=>?_
    rw[An (n:=5) o10 rfl]
    have w3:A4 S.n S10 zn 26 _:=(hnx.st (id:=S1.n) (fun b m e=>by have:=hnx.lt e;omega) n10 f10).low (by omega)
    rw[AiU]at w3
    have hbits:(Au c).bits=(m:Int):=hm
    refine⟨_,rfl,fr.AR.st (by omega) n10 f10,DU (s4 (by rw[hbits];exact .v _) (Ek _ _ _) (Ek _ _ _) (Mu (fun _ _=>D7 _) w3) (Tree.aL (fun _ _=>Ek _) _ _)) (.v _)⟩
theorem BD{l:List Int}(hl:∀ x∈l,0≤x∧x<65536){k:Nat}{n:Int}(hn:0<n):0≤BW l k n∧BW l k n<n:=by
 unfold BW
 split
 ·omega
 ·rename_i h
  have hlt:k<l.length:=by omega
  have hx:=hl _ (AhP hlt)
  rw[show l.getD k 0=l[k]by simp[AhL,hlt],AiK hx.1]
  exact⟨Int.emod_nonneg _ (by omega),Int.emod_lt_of_pos _ hn⟩
structure Fm (S:Aa) (l:List Int) (S':Aa) (k:Nat) (cs:List AV):Prop where
 AR:Am S S'
 n:S.n+4≤S'.n
 lo:S'.obj S.n=some (.cells 22 [[aL Lz l]] true)
 ro:S'.obj (S.n+1)=some (.cells 29 [[aI 0,.nl,.nl,.nl,.nl,.nl,.nl,.nl]] true)
 ao:S'.obj (S.n+2)=some (.cells 3 [[aI k]] true)
 co:S'.obj (S.n+3)=some (.cells 29 [cs] true)
abbrev CN(S:Aa):AV:=.f (.func 36) [] [.p (S.n+2) 0 0,.p S.n 0 0]
theorem Fm.Eh{S S' S'':Aa}{l:List Int}{k:Nat}{cs:List AV}(h:Fm S l S' k cs)(hn:S'.n≤S''.n)(ho:∀ x,x<S.n+4→S''.obj x=S'.obj x):Fm S l S'' k cs:=
 ⟨⟨by have:=h.AR.1;omega,fun x hx=>(ho x (by omega)).trans (h.AR.2 x hx)⟩,by have:=h.n;omega,(ho _ (by omega)).trans h.lo,(ho _ (by omega)).trans h.ro,(ho _ (by omega)).trans h.ao,(ho _ (by omega)).trans h.co⟩
theorem Fm.pick{S S':Aa}{l:List Int}{k:Nat}{cs:List AV}(h:Fm S l S' k cs)(hl:∀ x∈l,0≤x∧x<65536){n:Int}(hn:0<n)(hk:k≤1000){K X:AV→Aa→Prop}
    (kk:∀ S'',Fm S l S'' (k+1) cs→S''.n=S'.n→(∀ x,x≠S.n+2→S''.obj x=S'.obj x)→K (aI (BW l k n)) S''):Bg Pg (CN S) [aI n] S' K X:=by
 refine .inl (kO h.ao h.lo (by omega) hl hn (by omega) fun S'' n2 o2 f2=>kk S'' ⟨⟨by have:=h.AR.1;omega,fun x hx=>(f2 x (by omega)).trans (h.AR.2 x hx)⟩,by have:=h.n;omega,(f2 _ (by omega)).trans h.lo,(f2 _ (by omega)).trans h.ro,o2,(f2 _ (by omega)).trans h.co⟩ n2 f2)
theorem Fm.st{S S':Aa}{l:List Int}{k j:Nat}{cs:List AV}{u:AV}(h:Fm S l S' k cs)(hj:j<cs.length)(hu:u.one=true){K:AV→Aa→Prop}
    (kk:∀ S'',Fm S l S'' k (cs.set j u)→S''.n=S'.n→(∀ x,x≠S.n+3→S''.obj x=S'.obj x)→K .j S''):A8 1 (.p (S.n+3) 0 j) u S' K:=
 B4 h.co hj hu fun S'' n2 o2 f2=>kk S'' ⟨⟨by have:=h.AR.1;omega,fun x hx=>(f2 x (by omega)).trans (h.AR.2 x hx)⟩,by have:=h.n;omega,(f2 _ (by omega)).trans h.lo,(f2 _ (by omega)).trans h.ro,(f2 _ (by omega)).trans h.ao,o2⟩ n2 f2
theorem Fm.kT{S S' T:Aa}{l:List Int}{k:Nat}{cs:List AV}(h:Fm S l S' k cs)(hT:Am S' T):T.obj (S.n+3)=some (.cells 29 [cs] true):=(hT.2 _ (by have:=h.n;omega)).trans h.co
theorem Fm.wk{S S':Aa}{l:List Int}{k:Nat}{cs cs2:List AV}(h:Fm S l S' k cs)(hl:cs.length=cs2.length)(hc:∀(k:Nat) (u u2:AV),cs[k]? = some u→cs2[k]? = some u2→Cv (S'.BA (AL (S.n+4))) S'.n u u2)(ls:List AV):
    ∃ S'',Wk S' ls S'' ls∧Fm S l S'' k cs2∧S''.n=S'.n:=by
 refine⟨_,Wk.row (AL (S.n+4)) h.co (by simp[AL]) (es2:=[cs2]) ⟨rfl,fun i c1 c2 e1 e2=>?_⟩,?_,rfl⟩
 ·match i with
  |0=>cases e1;cases e2;exact⟨hl,hc⟩
  |i+1=>simp at e1
 ·have hlow:∀ x,x<S.n+4→x≠S.n+3→(S'.Ku (AL (S.n+4)) (S.n+3) (.cells 29 [cs2] true)).obj x=S'.obj x:=fun x hx hne=>Et hne (by simp[AL];omega)
  exact⟨⟨h.AR.1,fun x hx=>(hlow x (by omega) (by omega)).trans (h.AR.2 x hx)⟩,h.n,(hlow _ (by omega) (by omega)).trans h.lo,(hlow _ (by omega) (by omega)).trans h.ro,(hlow _ (by omega) (by omega)).trans h.ao,HX⟩
theorem AeY{e:Nat}{z u v w:AV}{S:Aa}{K:AV→Aa→Prop}(hu:u.one=true)(hv:v.one=true)(hw:w.one=true)(k:K (.l [[u],[v],[w]]) S):AU e 1 3 [z] [(0,u),(1,v),(2,w)] S K:=by
 refine⟨[u,v,w],?_,.inr ?_⟩
 ·simp[CC,Cw hu,Cw hv,Cw hw,Kq,Ai7]
 ·simpa[chunks,Ai7]using k
theorem s9{e:Nat}{z1 z2 z3 u v w:AV}{S:Aa}{K:AV→Aa→Prop}(k:K (.l [[u,v,w]]) S):AU e 3 1 [z1,z2,z3] [(0,.a [u,v,w])] S K:=by
 refine⟨[u,v,w],?_,.inr ?_⟩
 ·simp[CC,cellsOf,Kq]
 ·simpa[chunks]using k
theorem Gw{n:Nat}{S:Aa}{x:AV}{e:Nat}{es:List (List AV)}(h:A4 n S x e es):x.one=true:=by rcases h with⟨rfl,_⟩|⟨id,rfl,_⟩<;>rfl
theorem vX{x:Int}(h0:0≤x)(h1:x<65536):IntKind.u16.wrap x=x:=by rw[IntKind.wrap_u16];omega
theorem _root_.Go.Ab.A4.fm{S S' S'':Aa}{x:AV}{e:Nat}{es:List (List AV)}{id:Nat}(h:A4 (S.n+4) S' x e es)(hid:id<S.n+4)(hn:S''.n=S'.n)(ho:∀ y,y≠id→S''.obj y=S'.obj y):A4 (S.n+4) S'' x e es:=
 h.st (id:=id) (fun b m e=>by have:=h.lt e;omega) hn ho
theorem kS{n:Nat}{S:Aa}{x:AV}{e:Nat}{l:List (Int × Int)}{F:Nat→Bool}{k:Nat}(h:A4 n S x e (l.map fun p=>[aI p.1,aI p.2]))(hF:∀ i b m,x = .s i b m→F i=true):Cv (S.BA F) k x (pL l):=by
 rcases h with⟨rfl,h⟩|⟨id,rfl,h1,h2,h3⟩
 ·have:l = []:=AiT.1 h
  subst this
  exact .nl
 ·refine .s id 0 _ e _ _ (by rw[GK h3,hF id _ _ rfl];rfl) (by simp) (by simp) (fun i c c2 hi hi2=>?_) (fun i c c2 k u u2 hi hi2 hk hk2=>?_)
  ·rw[AhZ]at hi;rw[hi]at hi2;cases hi2;rfl
  ·rw[AhZ]at hi;rw[hi]at hi2;cases hi2
   rw[hk]at hk2;cases hk2
   rw[Ai4]at hi
   obtain⟨a,_,rfl⟩:=AiQ.1 hi
   match k with
   |0=>cases hk;exact .v _
   |1=>cases hk;exact .v _
   |k+2=>simp at hk
theorem LI{n:Nat}{S:Aa}{x:AV}{e:Nat}{l:List Int}{F:Nat→Bool}{k:Nat}(h:A4 n S x e (l.map fun p=>[aI p]))(hF:∀ i b m,x = .s i b m→F i=true):Cv (S.BA F) k x (aL aI l):=by
 rcases h with⟨rfl,h⟩|⟨id,rfl,h1,h2,h3⟩
 ·have:l = []:=AiT.1 h
  subst this
  exact .nl
 ·refine .s id 0 _ e _ _ (by rw[GK h3,hF id _ _ rfl];rfl) (by simp) (by simp) (fun i c c2 hi hi2=>?_) (fun i c c2 k u u2 hi hi2 hk hk2=>?_)
  ·rw[AhZ]at hi;rw[hi]at hi2;cases hi2;rfl
  ·rw[AhZ]at hi;rw[hi]at hi2;cases hi2
   rw[hk]at hk2;cases hk2
   rw[Ai4]at hi
   obtain⟨a,_,rfl⟩:=AiQ.1 hi
   match k with
   |0=>cases hk;exact .v _
   |k+1=>simp at hk
theorem kU{n:Nat}{S:Aa}{x:AV}{e:Nat}{l:List Na}{F:Nat→Bool}{k:Nat}(h:A4 n S x e (l.map Na.row))(hF:∀ i b m,x = .s i b m→F i=true):Cv (S.BA F) k x (nL l):=by
 rcases h with⟨rfl,h⟩|⟨id,rfl,h1,h2,h3⟩
 ·have:l = []:=AiT.1 h
  subst this
  exact .nl
 ·refine .s id 0 _ e _ _ (by rw[GK h3,hF id _ _ rfl];rfl) (by simp) (by simp) (fun i c c2 hi hi2=>?_) (fun i c c2 k u u2 hi hi2 hk hk2=>?_)
  ·rw[AhZ]at hi;rw[hi]at hi2;cases hi2;rfl
  ·rw[AhZ]at hi;rw[hi]at hi2;cases hi2
   rw[hk]at hk2;cases hk2
   rw[Ai4]at hi
   obtain⟨a,_,rfl⟩:=AiQ.1 hi
   unfold Na.row at hk
   match k with
   |0=>cases hk;exact .v _
   |1=>cases hk;exact .v _
   |2=>cases hk;exact .v _
   |k+3=>simp at hk
theorem _root_.Go.Ab.A4.fF{n:Nat}{S:Aa}{x:AV}{e:Nat}{es:List (List AV)}(h:A4 n S x e es){m:Nat}(hm:m≤n):∀ i b k,x = .s i b k→AL m i=true:=fun i b k e=>by
 have:=h.lt e
 simp[AL];omega
end
end Go.Proofs.YteooinddnfbglaaGreatDoor.G

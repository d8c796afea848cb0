/- Truth -/
import Derived.Test.YtolgpokppnajdaaGreatProg
import Derived.KernelRfl
import Derived.Test.YtolgpokppnajdaaGreatWgT2
set_option linter.unusedVariables false
set_option linter.unusedSimpArgs false
namespace Go.Proofs.YtolgpokppnajdaaGreat.G
open Go Go.Ab
noncomputable section
section
set_option maxRecDepth 100000
abbrev Pg : Program := Tryz.prog
def c185:Code:=(Tryz.f185.body).getD .skip
def ms185:List (List Nat):=[[]]
def m185(x0:AV)(S:Store)(Q:PoT):Prop:=
 bin .neq 0 x0 x0 S fun a S=>Q (.ret a) S
theorem calls185{x0:AV}{S:Store}{Q:PoT}(h:m185 x0 S Q):ACalls Pg 185 [x0] S Q:=
 calls_of_vc (fn:=Tryz.f185) (c:=c185) (n:=6) Tryz.func185 (by kernel_rfl) (by kernel_rfl) (by kernel_rfl) ms185 (Eq.mpr (by kernel_rfl) h)
def c170:Code:=(Tryz.f170.body).getD .skip
def ms170:List (List Nat):=[[]]
def m170(x0 x1:AV)(S:Store)(Q:PoT):Prop:=
 callF Pg 185 [x0] S Q fun a S=>callF Pg 185 [x1] S Q fun c S=>onB a fun b=>gd b (onB c fun b=>gd b (Q (.ret (.v (.int .i64 0))) S) (Q (.ret (.v (.int .i64 (-1)))) S)) (onB c fun b=>gd b (Q (.ret (.v (.int .i64 1))) S) (bin .lss 0 x0 x1 S fun d S=>onB d fun b=>gd b (Q (.ret (.v (.int .i64 (-1)))) S) (bin .gtr 0 x0 x1 S fun e S=>onB e fun b=>gd b (Q (.ret (.v (.int .i64 1))) S) (Q (.ret (.v (.int .i64 0))) S))))
theorem calls170{x0 x1:AV}{S:Store}{Q:PoT}(h:m170 x0 x1 S Q):ACalls Pg 170 [x0,x1] S Q:=
 calls_of_vc (fn:=Tryz.f170) (c:=c170) (n:=20) Tryz.func170 (by kernel_rfl) (by kernel_rfl) (by kernel_rfl) ms170 (Eq.mpr (by kernel_rfl) h)
def c169:Code:=(Tryz.f169.body).getD .skip
def r169:List ResultVar:=Tryz.f169.results.toList
def env169_0(y3 y6 y7 y8:AV):List AV:=[y3,y6,y7,y8]
def lv169_0:List Nat:=[3,6,7,8]
def ms169:List (List Nat):=[lv169_0,[]]
def m169(x0:AV)(S:Store)(Q:PoT):Prop:=
 lenS x0 S fun a S=>loopV lv169_0 (vc Pg (c169.at_ [1,1,0,1,0,0]) (ms169.drop 1)) 18 (env169_0 (.v (.int .i64 0)) x0 a (.v (.int .i64 0))) S (blockK 0 (seqK (vc Pg (c169.at_ [1,1,1]) (ms169.drop 1)) (bodyK Pg r169 Q)))
theorem calls169{x0:AV}{S:Store}{Q:PoT}(h:m169 x0 S Q):ACalls Pg 169 [x0] S Q:=
 calls_of_vc (fn:=Tryz.f169) (c:=c169) (n:=18) Tryz.func169 (by kernel_rfl) (by kernel_rfl) (by kernel_rfl) ms169 (Eq.mpr (by kernel_rfl) h)
def b169_0(y3 y6 y7 y8:AV)(S:Store)(KE0:KeT)(Q:PoT):Prop:=
 bin .lss 0 y8 y7 S fun a S=>onB a fun b=>gd b (ixS 3 1 y6 y8 S fun c S=>ld1 c S fun d S=>bin .neq 0 d y3 S fun e S=>onB e fun b=>gd b (Q (.ret d) S) (bin .add 0 y8 (.v (.int .i64 1)) S fun f S=>KE0 18 (env169_0 y3 y6 y7 f) S)) (Q (.ret y3) S)
theorem b169_0_eq(y3 y6 y7 y8:AV)(S:Store)(KE0:KeT)(Q:PoT):vc Pg (c169.at_ [1,1,0,1,0,0]) (ms169.drop 1) (mkE 18 lv169_0 (env169_0 y3 y6 y7 y8)) S (thenK (fgK lv169_0 KE0) (blockK 0 (seqK (vc Pg (c169.at_ [1,1,1]) (ms169.drop 1)) (bodyK Pg r169 Q))))=b169_0 y3 y6 y7 y8 S KE0 Q:=by kernel_rfl
theorem loop169_0{y3 y6 y7:AV}{y80:AV}{S:Store}{Q:PoT}(I:AV→Store→Prop)(μ:AV→Store→Nat)(h0:I y80 S)
    (hr:∀(y8:AV) (S:Store),I y8 S→∀ KE0:KeT,(∀(y8':AV) (S':Store),I y8' S'→μ y8' S'<μ y8 S→KE0 18 (env169_0 y3 y6 y7 y8') S')→b169_0 y3 y6 y7 y8 S KE0 Q):
    loopV lv169_0 (vc Pg (c169.at_ [1,1,0,1,0,0]) (ms169.drop 1)) 18 (env169_0 y3 y6 y7 y80) S (blockK 0 (seqK (vc Pg (c169.at_ [1,1,1]) (ms169.drop 1)) (bodyK Pg r169 Q))):=by
 refine⟨fun n e S=>n=18∧∃ y8:AV,e=(env169_0 y3 y6 y7 y8)∧I y8 S,fun _ e S=>μ (e.getD 3 .j) S,?_,?_⟩
 ·exact⟨_,_,Wk.refl _ _,rfl,_,rfl,h0⟩
 ·rintro _ e S ⟨rfl,y8,rfl,hI⟩
  exact(b169_0_eq _ _ _ _ _ _ _).mpr (hr y8 S hI _ (fun y8' S' hI' hm=>⟨_,_,Wk.refl _ _,⟨rfl,_,rfl,hI'⟩,hm⟩))
def c84:Code:=(Tryz.f84.body).getD .skip
def ms84:List (List Nat):=[[]]
def m84(x0:AV)(S:Store)(Q:PoT):Prop:=
 boxN 42 8 x0 S fun c S=>boxN 82 2 (.a [.v (.int .i64 0),.nl]) S fun d S=>shift c 0 S fun e S=>ld1 e S fun f S=>shift c 1 S fun g S=>ld1 g S fun h S=>lenS h S fun i S=>bin .add 0 f i S fun k S=>shift c 2 S fun l S=>ld1 l S fun m S=>bld [(0,1),(1,1)] [.v (.int .i64 0),.nl] [(0,k),(1,m)] S fun n S=>stN 2 d n S fun o S=>ldN 2 d S fun p _=>Q (.ret p) S
theorem calls84{x0:AV}{S:Store}{Q:PoT}(h:m84 x0 S Q):ACalls Pg 84 [x0] S Q:=
 calls_of_vc (fn:=Tryz.f84) (c:=c84) (n:=12) Tryz.func84 (by kernel_rfl) (by kernel_rfl) (by kernel_rfl) ms84 (Eq.mpr (by kernel_rfl) h)
def c41:Code:=(Tryz.f41.body).getD .skip
def ms41:List (List Nat):=[[]]
def m41(x0:AV)(S:Store)(Q:PoT):Prop:=
 boxN 42 8 x0 S fun c S=>boxN 82 2 (.a [.v (.int .i64 0),.nl]) S fun d S=>shift c 0 S fun e S=>ld1 e S fun f S=>shift c 1 S fun g S=>ld1 g S fun h S=>lenS h S fun i S=>bin .add 0 f i S fun k S=>shift c 2 S fun l S=>ld1 l S fun m S=>bld [(0,1),(1,1)] [.v (.int .i64 0),.nl] [(0,k),(1,m)] S fun n S=>stN 2 d n S fun o S=>ldN 2 d S fun p _=>Q (.ret p) S
theorem calls41{x0:AV}{S:Store}{Q:PoT}(h:m41 x0 S Q):ACalls Pg 41 [x0] S Q:=
 calls_of_vc (fn:=Tryz.f41) (c:=c41) (n:=12) Tryz.func41 (by kernel_rfl) (by kernel_rfl) (by kernel_rfl) ms41 (Eq.mpr (by kernel_rfl) h)
def c127:Code:=(Tryz.f127.body).getD .skip
def ms127:List (List Nat):=[[]]
def m127(x0:AV)(S:Store)(Q:PoT):Prop:=
 boxN 42 8 x0 S fun a S=>mkM (.i .i32) S fun c S=>shift a 0 S fun d S=>ld1 d S fun e S=>updM (.i .i32) c (.v (.int .i32 105)) e S fun f S=>shift a 1 S fun g S=>ld1 g S fun h S=>lenS h S fun k S=>updM (.i .i32) c (.v (.int .i32 108)) k S fun l S=>shift a 3 S fun m S=>ld1 m S fun n S=>lenS n S fun o S=>updM (.i .i32) c (.v (.int .i32 111)) o S fun p S=>shift a 4 S fun q S=>ld1 q S fun r S=>lenS r S fun s S=>updM (.i .i32) c (.v (.int .i32 98)) s S fun t S=>shift a 5 S fun u S=>ld1 u S fun w S=>lenS w S fun x S=>updM (.i .i32) c (.v (.int .i32 99)) x S fun y S=>shift a 6 S fun z S=>ld1 z S fun A S=>lenS A S fun B S=>updM (.i .i32) c (.v (.int .i32 102)) B S fun C S=>Q (.ret c) S
theorem calls127{x0:AV}{S:Store}{Q:PoT}(h:m127 x0 S Q):ACalls Pg 127 [x0] S Q:=
 calls_of_vc (fn:=Tryz.f127) (c:=c127) (n:=22) Tryz.func127 (by kernel_rfl) (by kernel_rfl) (by kernel_rfl) ms127 (Eq.mpr (by kernel_rfl) h)
def c150:Code:=(Tryz.f150.body).getD .skip
def ms150:List (List Nat):=[[]]
def m150(x0 x1:AV)(S:Store)(Q:PoT):Prop:=
 boxN 42 8 x0 S fun a S=>callF Pg 151 [x1] S Q fun c S=>bin .lss 0 c (.v (.int .i64 0)) S fun d S=>onB d fun b=>gd b (Q (.ret (.v (.int .i64 0))) S) (shift a 0 S fun e S=>ld1 e S fun f S=>shift a 1 S fun g S=>ld1 g S fun h S=>lenS h S fun i S=>shift a 3 S fun k S=>ld1 k S fun l S=>lenS l S fun m S=>shift a 4 S fun n S=>ld1 n S fun o S=>lenS o S fun p S=>shift a 5 S fun q S=>ld1 q S fun r S=>lenS r S fun s S=>shift a 6 S fun t S=>ld1 t S fun u S=>lenS u S fun w S=>bslN 3 1 6 [.v (.int .i64 0)] [(0,f),(1,i),(2,m),(3,p),(4,s),(5,w)] S fun x S=>ixS 3 1 x c S fun y S=>ld1 y S fun z S=>Q (.ret z) S)
theorem calls150{x0 x1:AV}{S:Store}{Q:PoT}(h:m150 x0 x1 S Q):ACalls Pg 150 [x0,x1] S Q:=
 calls_of_vc (fn:=Tryz.f150) (c:=c150) (n:=31) Tryz.func150 (by kernel_rfl) (by kernel_rfl) (by kernel_rfl) ms150 (Eq.mpr (by kernel_rfl) h)
def c33:Code:=(Tryz.f33.body).getD .skip
def ms33:List (List Nat):=[[]]
def m33(x0 x1:AV)(S:Store)(Q:PoT):Prop:=
 boxN 24 4 x1 S fun c S=>boxN 24 4 (.a [.v (.int .i64 0),.v (.string ByteArray.empty),.v (.int .i64 0),.nl]) S fun d S=>ldN 4 c S fun e S=>bslN 24 4 1 [.v (.int .i64 0),.v (.string ByteArray.empty),.v (.int .i64 0),.nl] [(0,e)] S fun f S=>bld [(0,1),(1,1),(2,1),(3,1)] [.v (.int .i64 0),.v (.string ByteArray.empty),.v (.int .i64 0),.nl] [(0,x0),(3,f)] S fun g S=>stN 4 d g S fun h S=>ldN 4 d S fun i _=>Q (.ret i) S
theorem calls33{x0 x1:AV}{S:Store}{Q:PoT}(h:m33 x0 x1 S Q):ACalls Pg 33 [x0,x1] S Q:=
 calls_of_vc (fn:=Tryz.f33) (c:=c33) (n:=9) Tryz.func33 (by kernel_rfl) (by kernel_rfl) (by kernel_rfl) ms33 (Eq.mpr (by kernel_rfl) h)
def c16:Code:=(Tryz.f16.body).getD .skip
def ms16:List (List Nat):=[[]]
def m16(x0 x1:AV)(S:Store)(Q:PoT):Prop:=
 boxN 24 4 (.a [.v (.int .i64 0),.v (.string ByteArray.empty),.v (.int .i64 0),.nl]) S fun c S=>callF Pg 34 [x0] S Q fun d S=>callF Pg 42 [d,x1] S Q fun e S=>stN 4 c e S fun f S=>ldN 4 c S fun g _=>Q (.ret g) S
theorem calls16{x0 x1:AV}{S:Store}{Q:PoT}(h:m16 x0 x1 S Q):ACalls Pg 16 [x0,x1] S Q:=
 calls_of_vc (fn:=Tryz.f16) (c:=c16) (n:=9) Tryz.func16 (by kernel_rfl) (by kernel_rfl) (by kernel_rfl) ms16 (Eq.mpr (by kernel_rfl) h)
def c23:Code:=(Tryz.f23.body).getD .skip
def ms23:List (List Nat):=[[16]]
def m23(x0 x1:AV)(S:Store)(Q:PoT):Prop:=
 boxN 42 8 (.a [.v (.int .i64 0),.nl,.nl,.nl,.nl,.nl,.nl,.nl]) S fun c S=>boxN 24 4 (.a [.v (.int .i64 0),.v (.string ByteArray.empty),.v (.int .i64 0),.nl]) S fun d S=>callF Pg 48 [x0] S Q fun e S=>boxN 42 8 (.a [.v (.int .i64 0),.nl,.nl,.nl,.nl,.nl,.nl,.nl]) S fun f S=>stN 8 f e S fun g S=>∃ h:AV,(∀ T:Store,Keep S T→ldN 8 f T fun i S=>i=h∧S=T)∧∃ k:AV,(∀ T:Store,Keep S T→ldN 8 f T fun l S=>l=k∧S=T)∧∃ m:AV,(∀ T:Store,Keep S T→callF Pg 41 [k] T (fun _ _=>False) fun n S=>n=m∧S=T)∧∃ o:AV,(∀ T:Store,Keep S T→callF Pg 40 [m] T (fun _ _=>False) fun p S=>p=o∧S=T)∧∃ q:AV,(∀ T:Store,Keep S T→bin .mul 0 (.v (.int .i64 2)) o T fun r S=>r=q∧S=T)∧callF Pg 16 [x1,q] S (fun _ _=>False) fun s S=>(∀ T:Store,Keep S T→ldN 8 f T fun u S=>u=h∧S=T)∧stN 8 c h S fun w S=>stN 4 d s S fun x S=>ldN 8 c S fun y _=>ldN 4 d S fun z _=>Q (.ret (.t [y,z])) S
theorem calls23{x0 x1:AV}{S:Store}{Q:PoT}(h:m23 x0 x1 S Q):ACalls Pg 23 [x0,x1] S Q:=
 calls_of_vc (fn:=Tryz.f23) (c:=c23) (n:=16) Tryz.func23 (by kernel_rfl) (by kernel_rfl) (by kernel_rfl) ms23 (Eq.mpr (by kernel_rfl) h)
def c10:Code:=(Tryz.f10.body).getD .skip
def ms10:List (List Nat):=[[]]
def m10(x0 x1 x2 x3:AV)(S:Store)(Q:PoT):Prop:=
 callF Pg 23 [x0,x1] S Q fun c S=>extr c 0 S fun d S=>extr c 1 S fun e S=>boxN 42 8 (.a [.v (.int .i64 0),.nl,.nl,.nl,.nl,.nl,.nl,.nl]) S fun f S=>boxN 24 4 (.a [.v (.int .i64 0),.v (.string ByteArray.empty),.v (.int .i64 0),.nl]) S fun g S=>stN 8 f d S fun h S=>stN 4 g e S fun i S=>bin .rem 0 x2 (.v (.int .u8 5)) S fun k S=>bin .eql 0 k (.v (.int .u8 0)) S fun l S=>onB l fun b=>gd b (bld [(0,1),(1,1),(2,1),(3,1)] [.v (.int .i64 0),.v (.string ByteArray.empty),.v (.int .i64 0),.nl] [(0,(.v (.int .i64 3))),(2,x3)] S fun m S=>callF Pg 33 [.v (.int .i64 9),m] S Q fun n S=>stN 4 g n S fun o S=>shift f 0 S fun p S=>ld1 p S fun q S=>shift f 1 S fun r S=>ld1 r S fun s S=>lenS s S fun t S=>bin .add 0 q t S fun u S=>callF Pg 31 [] S Q fun w S=>onB w fun b=>gd b (bin .gtr 0 u (.v (.int .i64 6)) S fun x S=>onB x fun b=>gd b (bin .leq 0 u (.v (.int .i64 10)) S fun y S=>onB y fun b=>gd b (Q (.ret (.v (.bool true))) S) (ldN 8 f S fun z S=>ldN 4 g S fun A S=>callF Pg 32 [z,A] S Q fun B S=>Q (.ret B) S)) (ldN 8 f S fun C S=>ldN 4 g S fun D S=>callF Pg 32 [C,D] S Q fun E S=>Q (.ret E) S)) (Q (.ret (.v (.bool false))) S)) (bin .eql 0 k (.v (.int .u8 1)) S fun F S=>onB F fun b=>gd b (callF Pg 34 [x1] S Q fun G S=>stN 4 g G S fun H S=>shift f 0 S fun I S=>ld1 I S fun J S=>shift f 1 S fun K S=>ld1 K S fun L S=>lenS L S fun M S=>bin .add 0 J M S fun N S=>callF Pg 31 [] S Q fun O S=>onB O fun b=>gd b (bin .gtr 0 N (.v (.int .i64 6)) S fun P S=>onB P fun b=>gd b (bin .leq 0 N (.v (.int .i64 10)) S fun R S=>onB R fun b=>gd b (Q (.ret (.v (.bool true))) S) (ldN 8 f S fun T S=>ldN 4 g S fun U S=>callF Pg 32 [T,U] S Q fun V S=>Q (.ret V) S)) (ldN 8 f S fun W S=>ldN 4 g S fun X S=>callF Pg 32 [W,X] S Q fun Y S=>Q (.ret Y) S)) (Q (.ret (.v (.bool false))) S)) (bin .eql 0 k (.v (.int .u8 2)) S fun Z S=>onB Z fun b=>gd b (shift f 0 S fun a0 S=>stN 1 a0 x3 S fun a1 S=>shift f 0 S fun a2 S=>ld1 a2 S fun a3 S=>shift f 1 S fun a4 S=>ld1 a4 S fun a5 S=>lenS a5 S fun a6 S=>bin .add 0 a3 a6 S fun a7 S=>callF Pg 31 [] S Q fun a8 S=>onB a8 fun b=>gd b (bin .gtr 0 a7 (.v (.int .i64 6)) S fun a9 S=>onB a9 fun b=>gd b (bin .leq 0 a7 (.v (.int .i64 10)) S fun b0 S=>onB b0 fun b=>gd b (Q (.ret (.v (.bool true))) S) (ldN 8 f S fun b1 S=>ldN 4 g S fun b2 S=>callF Pg 32 [b1,b2] S Q fun b3 S=>Q (.ret b3) S)) (ldN 8 f S fun b4 S=>ldN 4 g S fun b5 S=>callF Pg 32 [b4,b5] S Q fun b6 S=>Q (.ret b6) S)) (Q (.ret (.v (.bool false))) S)) (bin .eql 0 k (.v (.int .u8 3)) S fun b7 S=>onB b7 fun b=>gd b (shift g 3 S fun b8 S=>ld1 b8 S fun b9 S=>bld [(0,1),(1,1),(2,1),(3,1)] [.v (.int .i64 0),.v (.string ByteArray.empty),.v (.int .i64 0),.nl] [(0,x3),(3,b9)] S fun c0 S=>stN 4 g c0 S fun c1 S=>shift f 0 S fun c2 S=>ld1 c2 S fun c3 S=>shift f 1 S fun c4 S=>ld1 c4 S fun c5 S=>lenS c5 S fun c6 S=>bin .add 0 c3 c6 S fun c7 S=>callF Pg 31 [] S Q fun c8 S=>onB c8 fun b=>gd b (bin .gtr 0 c7 (.v (.int .i64 6)) S fun c9 S=>onB c9 fun b=>gd b (bin .leq 0 c7 (.v (.int .i64 10)) S fun d0 S=>onB d0 fun b=>gd b (Q (.ret (.v (.bool true))) S) (ldN 8 f S fun d1 S=>ldN 4 g S fun d2 S=>callF Pg 32 [d1,d2] S Q fun d3 S=>Q (.ret d3) S)) (ldN 8 f S fun d4 S=>ldN 4 g S fun d5 S=>callF Pg 32 [d4,d5] S Q fun d6 S=>Q (.ret d6) S)) (Q (.ret (.v (.bool false))) S)) (shift f 1 S fun d7 S=>ld1 d7 S fun d8 S=>bld [(0,1),(1,1)] [.v (.int .i64 0),.v (.int .i64 0)] [] S fun d9 S=>bld [(0,1),(1,1)] [.v (.int .i64 0),.v (.int .i64 0)] [] S fun e0 S=>bld [(0,1),(1,1)] [.v (.int .i64 0),.v (.int .i64 0)] [] S fun e1 S=>bld [(0,1),(1,1)] [.v (.int .i64 0),.v (.int .i64 0)] [] S fun e2 S=>bld [(0,1),(1,1)] [.v (.int .i64 0),.v (.int .i64 0)] [] S fun e3 S=>bld [(0,1),(1,1)] [.v (.int .i64 0),.v (.int .i64 0)] [] S fun e4 S=>bld [(0,1),(1,1)] [.v (.int .i64 0),.v (.int .i64 0)] [] S fun e5 S=>bld [(0,1),(1,1)] [.v (.int .i64 0),.v (.int .i64 0)] [] S fun e6 S=>bld [(0,1),(1,1)] [.v (.int .i64 0),.v (.int .i64 0)] [] S fun e7 S=>bslN 66 2 9 [.v (.int .i64 0),.v (.int .i64 0)] [(0,d9),(1,e0),(2,e1),(3,e2),(4,e3),(5,e4),(6,e5),(7,e6),(8,e7)] S fun e8 S=>appS 66 2 16 d8 e8 S fun e9 S=>shift f 1 S fun f0 S=>stN 1 f0 e9 S fun f1 S=>shift f 0 S fun f2 S=>ld1 f2 S fun f3 S=>shift f 1 S fun f4 S=>ld1 f4 S fun f5 S=>lenS f5 S fun f6 S=>bin .add 0 f3 f6 S fun f7 S=>callF Pg 31 [] S Q fun f8 S=>onB f8 fun b=>gd b (bin .gtr 0 f7 (.v (.int .i64 6)) S fun f9 S=>onB f9 fun b=>gd b (bin .leq 0 f7 (.v (.int .i64 10)) S fun g0 S=>onB g0 fun b=>gd b (Q (.ret (.v (.bool true))) S) (ldN 8 f S fun g1 S=>ldN 4 g S fun g2 S=>callF Pg 32 [g1,g2] S Q fun g3 S=>Q (.ret g3) S)) (ldN 8 f S fun g4 S=>ldN 4 g S fun g5 S=>callF Pg 32 [g4,g5] S Q fun g6 S=>Q (.ret g6) S)) (Q (.ret (.v (.bool false))) S)))))
theorem calls10{x0 x1 x2 x3:AV}{S:Store}{Q:PoT}(h:m10 x0 x1 x2 x3 S Q):ACalls Pg 10 [x0,x1,x2,x3] S Q:=
 calls_of_vc (fn:=Tryz.f10) (c:=c10) (n:=73) Tryz.func10 (by kernel_rfl) (by kernel_rfl) (by kernel_rfl) ms10 (Eq.mpr (by kernel_rfl) h)
def c48:Code:=(Tryz.f48.body).getD .skip
def r48:List ResultVar:=Tryz.f48.results.toList
def env48_0(y2 y4 y5 y6 y7 y8:AV):List AV:=[y2,y4,y5,y6,y7,y8]
def lv48_0:List Nat:=[2,4,5,6,7,8]
def env48_1(y2 y4 y5 y6 y10 y11 y12:AV):List AV:=[y2,y4,y5,y6,y10,y11,y12]
def lv48_1:List Nat:=[2,4,5,6,10,11,12]
def env48_2(y2 y4 y5 y11 y14:AV):List AV:=[y2,y4,y5,y11,y14]
def lv48_2:List Nat:=[2,4,5,11,14]
def env48_3(y2 y4 y5 y11 y15:AV):List AV:=[y2,y4,y5,y11,y15]
def lv48_3:List Nat:=[2,4,5,11,15]
def ms48:List (List Nat):=[lv48_0,lv48_1,lv48_2,lv48_3,[0]]
def m48(x0:AV)(S:Store)(Q:PoT):Prop:=
 boxN 33 1 x0 S fun c S=>boxN 42 8 (.a [.v (.int .i64 0),.nl,.nl,.nl,.nl,.nl,.nl,.nl]) S fun d S=>boxN 3 1 (.v (.int .i64 0)) S fun e S=>stN 1 e (.v (.int .i64 0)) S fun g S=>boxN 42 8 (.a [.v (.int .i64 0),.nl,.nl,.nl,.nl,.nl,.nl,.nl]) S fun h S=>callV Pg (.f (.func 78) [] [e,c]) [.v (.int .i64 4)] S (fun i S=>shift h 0 S fun k S=>stN 1 k i S fun l S=>callV Pg (.f (.func 78) [] [e,c]) [.v (.int .i64 3)] S (fun m S=>bin .add 0 (.v (.int .i64 1)) m S fun n S=>callV Pg (.f (.func 78) [] [e,c]) [.v (.int .i64 9)] S (fun o S=>loopV lv48_0 (vc Pg (c48.at_ [1,1,1,1,1,1,1,0,1,0,0]) (ms48.drop 1)) 156 (env48_0 d (.f (.func 78) [] [e,c]) h n .nl o) S (blockK 0 (seqK (vc Pg (c48.at_ [1,1,1,1,1,1,1,1]) (ms48.drop 1)) (bodyK Pg r48 Q)))) (fun u S=>Q (.pan u) S)) (fun u S=>Q (.pan u) S)) (fun u S=>Q (.pan u) S)
theorem calls48{x0:AV}{S:Store}{Q:PoT}(h:m48 x0 S Q):ACalls Pg 48 [x0] S Q:=
 calls_of_vc (fn:=Tryz.f48) (c:=c48) (n:=156) Tryz.func48 (by kernel_rfl) (by kernel_rfl) (by kernel_rfl) ms48 (Eq.mpr (by kernel_rfl) h)
def b48_0(y2 y4 y5 y6 y7 y8:AV)(S:Store)(KE0:KeT)(Q:PoT):Prop:=
 bin .gtr 0 y8 (.v (.int .i64 0)) S fun c S=>onB c fun b=>gd b (callV Pg y4 [.v (.int .i64 65536)] S (fun d S=>convI .u16 d S fun e S=>bslN 126 1 1 [.v (.int .u16 0)] [(0,e)] S fun f S=>appS 126 1 2 y7 f S fun g S=>bin .sub 0 y8 (.v (.int .i64 1)) S fun h S=>KE0 156 (env48_0 y2 y4 y5 y6 g h) S) (fun u S=>Q (.pan u) S)) (shift y5 0 S fun i S=>ld1 i S fun k S=>bin .add 0 k y6 S fun l S=>callF Pg 79 [l,y7] S Q fun m S=>extr m 0 S fun n S=>extr m 1 S fun o S=>boxN 82 2 (.a [.v (.int .i64 0),.nl]) S fun p S=>stN 2 p n S fun q S=>shift p 1 S fun r S=>ld1 r S fun s S=>shift y5 2 S fun t S=>stN 1 t s S fun w S=>ldN 2 p S fun x S=>callF Pg 40 [x] S Q fun y S=>bin .mul 0 (.v (.int .i64 2)) y S fun z S=>loopV lv48_1 (vc Pg (c48.at_ [1,1,1,1,1,1,1,1,1,1,1,0,1,0,0]) (ms48.drop 2)) 156 (env48_1 y2 y4 y5 y6 o z (.v (.int .i64 0))) S (blockK 2 (seqK (vc Pg (c48.at_ [1,1,1,1,1,1,1,1,1,1,1,1]) (ms48.drop 2)) (bodyK Pg r48 Q))))
theorem b48_0_eq(y2 y4 y5 y6 y7 y8:AV)(S:Store)(KE0:KeT)(Q:PoT):vc Pg (c48.at_ [1,1,1,1,1,1,1,0,1,0,0]) (ms48.drop 1) (mkE 156 lv48_0 (env48_0 y2 y4 y5 y6 y7 y8)) S (thenK (fgK lv48_0 KE0) (blockK 0 (seqK (vc Pg (c48.at_ [1,1,1,1,1,1,1,1]) (ms48.drop 1)) (bodyK Pg r48 Q))))=b48_0 y2 y4 y5 y6 y7 y8 S KE0 Q:=by kernel_rfl
theorem loop48_0{y2 y4 y5 y6:AV}{y70 y80:AV}{S:Store}{Q:PoT}(I:AV→AV→Store→Prop)(μ:AV→AV→Store→Nat)(h0:I y70 y80 S)
    (hr:∀(y7 y8:AV) (S:Store),I y7 y8 S→∀ KE0:KeT,(∀(y7' y8':AV) (S':Store),I y7' y8' S'→μ y7' y8' S'<μ y7 y8 S→KE0 156 (env48_0 y2 y4 y5 y6 y7' y8') S')→b48_0 y2 y4 y5 y6 y7 y8 S KE0 Q):
    loopV lv48_0 (vc Pg (c48.at_ [1,1,1,1,1,1,1,0,1,0,0]) (ms48.drop 1)) 156 (env48_0 y2 y4 y5 y6 y70 y80) S (blockK 0 (seqK (vc Pg (c48.at_ [1,1,1,1,1,1,1,1]) (ms48.drop 1)) (bodyK Pg r48 Q))):=by
 refine⟨fun n e S=>n=156∧∃ y7 y8:AV,e=(env48_0 y2 y4 y5 y6 y7 y8)∧I y7 y8 S,fun _ e S=>μ (e.getD 4 .j) (e.getD 5 .j) S,?_,?_⟩
 ·exact⟨_,_,Wk.refl _ _,rfl,_,_,rfl,h0⟩
 ·rintro _ e S ⟨rfl,y7,y8,rfl,hI⟩
  exact(b48_0_eq _ _ _ _ _ _ _ _ _).mpr (hr y7 y8 S hI _ (fun y7' y8' S' hI' hm=>⟨_,_,Wk.refl _ _,⟨rfl,_,_,rfl,hI'⟩,hm⟩))
def b48_1(y2 y4 y5 y6 y10 y11 y12:AV)(S:Store)(KE1:KeT)(Q:PoT):Prop:=
 bin .lss 0 y12 y6 S fun a S=>onB a fun b=>gd b (callV Pg y4 [y11] S (fun c S=>bin .eql 0 y12 (.v (.int .i64 0)) S fun d S=>onB d fun b=>gd b (∃ e:AV,(∀ T:Store,Keep S T→shift y5 1 T fun f S=>f=e∧S=T)∧∃ g:AV,(∀ T:Store,Keep S T→ld1 e T fun h S=>h=g∧S=T)∧callV Pg y4 [.v (.int .i64 5)] S (fun i S=>(∀ T:Store,Keep S T→ld1 e T fun k S=>k=g∧S=T)∧(∀ T:Store,Keep S T→shift y5 1 T fun l S=>l=e∧S=T)∧∃ m:AV,(∀ T:Store,Keep S T→bin .quo 0 i (.v (.int .i64 2)) T fun n S=>n=m∧S=T)∧∃ o:AV,(∀ T:Store,Keep S T→bld [(0,1),(1,1)] [.v (.int .i64 0),.v (.int .i64 0)] [(0,y10),(1,m)] T fun p S=>p=o∧S=T)∧∃ q:AV,(∀ T:Store,Keep S T→bslN 66 2 1 [.v (.int .i64 0),.v (.int .i64 0)] [(0,o)] T fun r S=>r=q∧S=T)∧appS 66 2 16 g q S fun s S=>∃ t:AV,(∀ T:Store,Keep S T→shift y5 1 T fun w S=>w=t∧S=T)∧stN 1 t s S fun x S=>bin .add 0 y12 (.v (.int .i64 1)) S fun y S=>KE1 156 (env48_1 y2 y4 y5 y6 y10 y11 y) S) (fun u S=>False)) (∃ z:AV,(∀ T:Store,Keep S T→shift y5 1 T fun A S=>A=z∧S=T)∧∃ B:AV,(∀ T:Store,Keep S T→ld1 z T fun C S=>C=B∧S=T)∧callV Pg y4 [.v (.int .i64 5)] S (fun D S=>(∀ T:Store,Keep S T→ld1 z T fun E S=>E=B∧S=T)∧(∀ T:Store,Keep S T→shift y5 1 T fun F S=>F=z∧S=T)∧∃ G:AV,(∀ T:Store,Keep S T→bin .quo 0 D (.v (.int .i64 2)) T fun H S=>H=G∧S=T)∧∃ I:AV,(∀ T:Store,Keep S T→bld [(0,1),(1,1)] [.v (.int .i64 0),.v (.int .i64 0)] [(0,c),(1,G)] T fun J S=>J=I∧S=T)∧∃ K:AV,(∀ T:Store,Keep S T→bslN 66 2 1 [.v (.int .i64 0),.v (.int .i64 0)] [(0,I)] T fun L S=>L=K∧S=T)∧appS 66 2 16 B K S fun M S=>∃ N:AV,(∀ T:Store,Keep S T→shift y5 1 T fun O S=>O=N∧S=T)∧stN 1 N M S fun P S=>bin .add 0 y12 (.v (.int .i64 1)) S fun R S=>KE1 156 (env48_1 y2 y4 y5 y6 y10 y11 R) S) (fun u S=>False))) (fun u S=>Q (.pan u) S)) (callV Pg y4 [.v (.int .i64 3)] S (fun U S=>loopV lv48_2 (vc Pg (c48.at_ [1,1,1,1,1,1,1,1,1,1,1,1,0,1,0,0]) (ms48.drop 3)) 156 (env48_2 y2 y4 y5 y11 U) S (blockK 4 (seqK (vc Pg (c48.at_ [1,1,1,1,1,1,1,1,1,1,1,1,1]) (ms48.drop 3)) (bodyK Pg r48 Q)))) (fun u S=>Q (.pan u) S))
theorem b48_1_eq(y2 y4 y5 y6 y10 y11 y12:AV)(S:Store)(KE1:KeT)(Q:PoT):vc Pg (c48.at_ [1,1,1,1,1,1,1,1,1,1,1,0,1,0,0]) (ms48.drop 2) (mkE 156 lv48_1 (env48_1 y2 y4 y5 y6 y10 y11 y12)) S (thenK (fgK lv48_1 KE1) (blockK 2 (seqK (vc Pg (c48.at_ [1,1,1,1,1,1,1,1,1,1,1,1]) (ms48.drop 2)) (bodyK Pg r48 Q))))=b48_1 y2 y4 y5 y6 y10 y11 y12 S KE1 Q:=by kernel_rfl
theorem loop48_1{y2 y4 y5 y6 y10 y11:AV}{y120:AV}{S:Store}{Q:PoT}(I:AV→Store→Prop)(μ:AV→Store→Nat)(h0:I y120 S)
    (hr:∀(y12:AV) (S:Store),I y12 S→∀ KE1:KeT,(∀(y12':AV) (S':Store),I y12' S'→μ y12' S'<μ y12 S→KE1 156 (env48_1 y2 y4 y5 y6 y10 y11 y12') S')→b48_1 y2 y4 y5 y6 y10 y11 y12 S KE1 Q):
    loopV lv48_1 (vc Pg (c48.at_ [1,1,1,1,1,1,1,1,1,1,1,0,1,0,0]) (ms48.drop 2)) 156 (env48_1 y2 y4 y5 y6 y10 y11 y120) S (blockK 2 (seqK (vc Pg (c48.at_ [1,1,1,1,1,1,1,1,1,1,1,1]) (ms48.drop 2)) (bodyK Pg r48 Q))):=by
 refine⟨fun n e S=>n=156∧∃ y12:AV,e=(env48_1 y2 y4 y5 y6 y10 y11 y12)∧I y12 S,fun _ e S=>μ (e.getD 6 .j) S,?_,?_⟩
 ·exact⟨_,_,Wk.refl _ _,rfl,_,rfl,h0⟩
 ·rintro _ e S ⟨rfl,y12,rfl,hI⟩
  exact(b48_1_eq _ _ _ _ _ _ _ _ _ _).mpr (hr y12 S hI _ (fun y12' S' hI' hm=>⟨_,_,Wk.refl _ _,⟨rfl,_,rfl,hI'⟩,hm⟩))
def b48_2(y2 y4 y5 y11 y14:AV)(S:Store)(KE2:KeT)(Q:PoT):Prop:=
 bin .gtr 0 y14 (.v (.int .i64 0)) S fun a S=>onB a fun b=>gd b (∃ c:AV,(∀ T:Store,Keep S T→shift y5 3 T fun d S=>d=c∧S=T)∧∃ e:AV,(∀ T:Store,Keep S T→ld1 c T fun f S=>f=e∧S=T)∧callV Pg y4 [y11] S (fun g S=>(∀ T:Store,Keep S T→ld1 c T fun h S=>h=e∧S=T)∧(∀ T:Store,Keep S T→shift y5 3 T fun i S=>i=c∧S=T)∧∃ k:AV,(∀ T:Store,Keep S T→bslN 3 1 1 [.v (.int .i64 0)] [(0,g)] T fun l S=>l=k∧S=T)∧appS 3 1 8 e k S fun m S=>∃ n:AV,(∀ T:Store,Keep S T→shift y5 3 T fun o S=>o=n∧S=T)∧stN 1 n m S fun p S=>bin .sub 0 y14 (.v (.int .i64 1)) S fun q S=>KE2 156 (env48_2 y2 y4 y5 y11 q) S) (fun u S=>False)) (callV Pg y4 [.v (.int .i64 4)] S (fun r S=>bin .eql 0 r (.v (.int .i64 0)) S fun s S=>onB s fun b=>gd b (∃ t:AV,(∀ T:Store,Keep S T→shift y5 4 T fun w S=>w=t∧S=T)∧∃ x:AV,(∀ T:Store,Keep S T→ld1 t T fun y S=>y=x∧S=T)∧callV Pg y4 [y11] S (fun z S=>(∀ T:Store,Keep S T→ld1 t T fun A S=>A=x∧S=T)∧(∀ T:Store,Keep S T→shift y5 4 T fun B S=>B=t∧S=T)∧∃ C:AV,(∀ T:Store,Keep S T→bslN 3 1 1 [.v (.int .i64 0)] [(0,z)] T fun D S=>D=C∧S=T)∧appS 3 1 8 x C S fun E S=>∃ F:AV,(∀ T:Store,Keep S T→shift y5 4 T fun G S=>G=F∧S=T)∧stN 1 F E S fun H S=>callV Pg y4 [.v (.int .i64 3)] S (fun I S=>bin .eql 0 I (.v (.int .i64 0)) S fun J S=>onB J fun b=>gd b (∃ K:AV,(∀ T:Store,Keep S T→shift y5 5 T fun L S=>L=K∧S=T)∧∃ M:AV,(∀ T:Store,Keep S T→ld1 K T fun N S=>N=M∧S=T)∧callV Pg y4 [y11] S (fun O S=>(∀ T:Store,Keep S T→ld1 K T fun P S=>P=M∧S=T)∧(∀ T:Store,Keep S T→shift y5 5 T fun R S=>R=K∧S=T)∧∃ U:AV,(∀ T:Store,Keep S T→bslN 3 1 1 [.v (.int .i64 0)] [(0,O)] T fun V S=>V=U∧S=T)∧appS 3 1 8 M U S fun W S=>∃ X:AV,(∀ T:Store,Keep S T→shift y5 5 T fun Y S=>Y=X∧S=T)∧stN 1 X W S fun Z S=>callV Pg y4 [.v (.int .i64 4)] S (fun a0 S=>bin .quo 0 a0 (.v (.int .i64 2)) S fun a1 S=>loopV lv48_3 (vc Pg (c48.at_ [1,1,1,1,1,1,1,1,1,1,1,1,1,1,1,0,1,0,0]) (ms48.drop 4)) 156 (env48_3 y2 y4 y5 y11 a1) S (blockK 6 (seqK (vc Pg (c48.at_ [1,1,1,1,1,1,1,1,1,1,1,1,1,1,1,1]) (ms48.drop 4)) (bodyK Pg r48 Q)))) (fun u S=>Q (.pan u) S)) (fun u S=>False)) (callV Pg y4 [.v (.int .i64 4)] S (fun a2 S=>bin .quo 0 a2 (.v (.int .i64 2)) S fun a3 S=>loopV lv48_3 (vc Pg (c48.at_ [1,1,1,1,1,1,1,1,1,1,1,1,1,1,1,0,1,0,0]) (ms48.drop 4)) 156 (env48_3 y2 y4 y5 y11 a3) S (blockK 6 (seqK (vc Pg (c48.at_ [1,1,1,1,1,1,1,1,1,1,1,1,1,1,1,1]) (ms48.drop 4)) (bodyK Pg r48 Q)))) (fun u S=>Q (.pan u) S))) (fun u S=>Q (.pan u) S)) (fun u S=>False)) (callV Pg y4 [.v (.int .i64 3)] S (fun a4 S=>bin .eql 0 a4 (.v (.int .i64 0)) S fun a5 S=>onB a5 fun b=>gd b (∃ a6:AV,(∀ T:Store,Keep S T→shift y5 5 T fun a7 S=>a7=a6∧S=T)∧∃ a8:AV,(∀ T:Store,Keep S T→ld1 a6 T fun a9 S=>a9=a8∧S=T)∧callV Pg y4 [y11] S (fun b0 S=>(∀ T:Store,Keep S T→ld1 a6 T fun b1 S=>b1=a8∧S=T)∧(∀ T:Store,Keep S T→shift y5 5 T fun b2 S=>b2=a6∧S=T)∧∃ b3:AV,(∀ T:Store,Keep S T→bslN 3 1 1 [.v (.int .i64 0)] [(0,b0)] T fun b4 S=>b4=b3∧S=T)∧appS 3 1 8 a8 b3 S fun b5 S=>∃ b6:AV,(∀ T:Store,Keep S T→shift y5 5 T fun b7 S=>b7=b6∧S=T)∧stN 1 b6 b5 S fun b8 S=>callV Pg y4 [.v (.int .i64 4)] S (fun b9 S=>bin .quo 0 b9 (.v (.int .i64 2)) S fun c0 S=>loopV lv48_3 (vc Pg (c48.at_ [1,1,1,1,1,1,1,1,1,1,1,1,1,1,1,0,1,0,0]) (ms48.drop 4)) 156 (env48_3 y2 y4 y5 y11 c0) S (blockK 6 (seqK (vc Pg (c48.at_ [1,1,1,1,1,1,1,1,1,1,1,1,1,1,1,1]) (ms48.drop 4)) (bodyK Pg r48 Q)))) (fun u S=>Q (.pan u) S)) (fun u S=>False)) (callV Pg y4 [.v (.int .i64 4)] S (fun c1 S=>bin .quo 0 c1 (.v (.int .i64 2)) S fun c2 S=>loopV lv48_3 (vc Pg (c48.at_ [1,1,1,1,1,1,1,1,1,1,1,1,1,1,1,0,1,0,0]) (ms48.drop 4)) 156 (env48_3 y2 y4 y5 y11 c2) S (blockK 6 (seqK (vc Pg (c48.at_ [1,1,1,1,1,1,1,1,1,1,1,1,1,1,1,1]) (ms48.drop 4)) (bodyK Pg r48 Q)))) (fun u S=>Q (.pan u) S))) (fun u S=>Q (.pan u) S))) (fun u S=>Q (.pan u) S))
theorem b48_2_eq(y2 y4 y5 y11 y14:AV)(S:Store)(KE2:KeT)(Q:PoT):vc Pg (c48.at_ [1,1,1,1,1,1,1,1,1,1,1,1,0,1,0,0]) (ms48.drop 3) (mkE 156 lv48_2 (env48_2 y2 y4 y5 y11 y14)) S (thenK (fgK lv48_2 KE2) (blockK 4 (seqK (vc Pg (c48.at_ [1,1,1,1,1,1,1,1,1,1,1,1,1]) (ms48.drop 3)) (bodyK Pg r48 Q))))=b48_2 y2 y4 y5 y11 y14 S KE2 Q:=by kernel_rfl
theorem loopw48_2{y2 y4 y5 y11 y14:AV}{S:Store}{Q:PoT}(I:AV→AV→AV→AV→AV→Store→Prop)(μ:AV→AV→AV→AV→AV→Store→Nat)(h0:∃(y2' y4' y5' y11' y14':AV) (S':Store),Wk S (env48_2 y2 y4 y5 y11 y14) S' (env48_2 y2' y4' y5' y11' y14')∧I y2' y4' y5' y11' y14' S')
    (hr:∀(y2 y4 y5 y11 y14:AV) (S:Store),I y2 y4 y5 y11 y14 S→∀ KE2:KeT,(∀(y2' y4' y5' y11' y14':AV) (S':Store) (y2'' y4'' y5'' y11'' y14'':AV) (S'':Store),Wk S' (env48_2 y2' y4' y5' y11' y14') S'' (env48_2 y2'' y4'' y5'' y11'' y14'')→I y2'' y4'' y5'' y11'' y14'' S''→μ y2'' y4'' y5'' y11'' y14'' S''<μ y2 y4 y5 y11 y14 S→KE2 156 (env48_2 y2' y4' y5' y11' y14') S')→b48_2 y2 y4 y5 y11 y14 S KE2 Q):
    loopV lv48_2 (vc Pg (c48.at_ [1,1,1,1,1,1,1,1,1,1,1,1,0,1,0,0]) (ms48.drop 3)) 156 (env48_2 y2 y4 y5 y11 y14) S (blockK 4 (seqK (vc Pg (c48.at_ [1,1,1,1,1,1,1,1,1,1,1,1,1]) (ms48.drop 3)) (bodyK Pg r48 Q))):=by
 obtain⟨y2',y4',y5',y11',y14',S0,hw0,h0⟩:=h0
 refine⟨fun n e S=>n=156∧∃ y2 y4 y5 y11 y14:AV,e=(env48_2 y2 y4 y5 y11 y14)∧I y2 y4 y5 y11 y14 S,fun _ e S=>μ (e.getD 0 .j) (e.getD 1 .j) (e.getD 2 .j) (e.getD 3 .j) (e.getD 4 .j) S,?_,?_⟩
 ·exact⟨_,_,hw0,rfl,_,_,_,_,_,rfl,h0⟩
 ·rintro _ e S ⟨rfl,y2,y4,y5,y11,y14,rfl,hI⟩
  exact(b48_2_eq _ _ _ _ _ _ _ _).mpr (hr y2 y4 y5 y11 y14 S hI _ (fun y2' y4' y5' y11' y14' S' y2'' y4'' y5'' y11'' y14'' S'' hw hI' hm=>⟨_,_,hw,⟨rfl,_,_,_,_,_,rfl,hI'⟩,hm⟩))
def b48_3(y2 y4 y5 y11 y15:AV)(S:Store)(KE3:KeT)(Q:PoT):Prop:=
 bin .gtr 0 y15 (.v (.int .i64 0)) S fun a S=>onB a fun b=>gd b (∃ c:AV,(∀ T:Store,Keep S T→shift y5 6 T fun d S=>d=c∧S=T)∧∃ e:AV,(∀ T:Store,Keep S T→ld1 c T fun f S=>f=e∧S=T)∧callV Pg y4 [y11] S (fun g S=>(∀ T:Store,Keep S T→ld1 c T fun h S=>h=e∧S=T)∧(∀ T:Store,Keep S T→shift y5 6 T fun i S=>i=c∧S=T)∧∃ k:AV,(∀ T:Store,Keep S T→bslN 3 1 1 [.v (.int .i64 0)] [(0,g)] T fun l S=>l=k∧S=T)∧appS 3 1 8 e k S fun m S=>∃ n:AV,(∀ T:Store,Keep S T→shift y5 6 T fun o S=>o=n∧S=T)∧stN 1 n m S fun p S=>bin .sub 0 y15 (.v (.int .i64 1)) S fun q S=>KE3 156 (env48_3 y2 y4 y5 y11 q) S) (fun u S=>False)) (callV Pg y4 [.v (.int .i64 3)] S (fun r S=>bin .gtr 0 r (.v (.int .i64 0)) S fun s S=>onB s fun b=>gd b (shift y5 7 S fun t S=>ld1 t S fun w S=>bld [(0,1),(1,1),(2,1)] [.v (.int .u8 0),.v (.int .i64 0),.v (.string ByteArray.empty)] [(0,(.v (.int .u8 108))),(2,(.v (.string { data:=#[113] })))] S fun x S=>bslN 130 3 1 [.v (.int .u8 0),.v (.int .i64 0),.v (.string ByteArray.empty)] [(0,x)] S fun y S=>appS 130 3 32 w y S fun z S=>shift y5 7 S fun A S=>stN 1 A z S fun B S=>shift y5 3 S fun C S=>ld1 C S fun D S=>lenS D S fun E S=>bin .gtr 0 E (.v (.int .i64 0)) S fun F S=>onB F fun b=>gd b (callV Pg y4 [.v (.int .i64 2)] S (fun G S=>bin .gtr 0 G (.v (.int .i64 0)) S fun H S=>onB H fun b=>gd b (∃ I:AV,(∀ T:Store,Keep S T→shift y5 7 T fun J S=>J=I∧S=T)∧∃ K:AV,(∀ T:Store,Keep S T→ld1 I T fun L S=>L=K∧S=T)∧∃ M:AV,(∀ T:Store,Keep S T→shift y5 3 T fun N S=>N=M∧S=T)∧∃ O:AV,(∀ T:Store,Keep S T→ld1 M T fun P S=>P=O∧S=T)∧∃ R:AV,(∀ T:Store,Keep S T→lenS O T fun U S=>U=R∧S=T)∧∃ V:AV,(∀ T:Store,Keep S T→bin .sub 0 R (.v (.int .i64 1)) T fun W S=>W=V∧S=T)∧∃ X:AV,(∀ T:Store,Keep S T→bslN 9 1 3 [.v (.string ByteArray.empty)] [(0,(.v (.string { data:=#[111,117,116] }))),(1,(.v (.string { data:=#[108,49] }))),(2,(.v (.string { data:=#[97,45,98] })))] T fun Y S=>Y=X∧S=T)∧callV Pg y4 [.v (.int .i64 3)] S (fun Z S=>(∀ T:Store,Keep S T→bslN 9 1 3 [.v (.string ByteArray.empty)] [(0,(.v (.string { data:=#[111,117,116] }))),(1,(.v (.string { data:=#[108,49] }))),(2,(.v (.string { data:=#[97,45,98] })))] T fun a0 S=>a0=X∧S=T)∧(∀ T:Store,Keep S T→bin .sub 0 R (.v (.int .i64 1)) T fun a1 S=>a1=V∧S=T)∧(∀ T:Store,Keep S T→lenS O T fun a2 S=>a2=R∧S=T)∧(∀ T:Store,Keep S T→ld1 M T fun a3 S=>a3=O∧S=T)∧(∀ T:Store,Keep S T→shift y5 3 T fun a4 S=>a4=M∧S=T)∧(∀ T:Store,Keep S T→ld1 I T fun a5 S=>a5=K∧S=T)∧(∀ T:Store,Keep S T→shift y5 7 T fun a6 S=>a6=I∧S=T)∧∃ a7:AV,(∀ T:Store,Keep S T→ixS 9 1 X Z T fun a8 S=>a8=a7∧S=T)∧∃ a9:AV,(∀ T:Store,Keep S T→ld1 a7 T fun b0 S=>b0=a9∧S=T)∧∃ b1:AV,(∀ T:Store,Keep S T→bld [(0,1),(1,1),(2,1)] [.v (.int .u8 0),.v (.int .i64 0),.v (.string ByteArray.empty)] [(0,(.v (.int .u8 111))),(1,V),(2,a9)] T fun b2 S=>b2=b1∧S=T)∧∃ b3:AV,(∀ T:Store,Keep S T→bslN 130 3 1 [.v (.int .u8 0),.v (.int .i64 0),.v (.string ByteArray.empty)] [(0,b1)] T fun b4 S=>b4=b3∧S=T)∧appS 130 3 32 K b3 S fun b5 S=>∃ b6:AV,(∀ T:Store,Keep S T→shift y5 7 T fun b7 S=>b7=b6∧S=T)∧stN 1 b6 b5 S fun b8 S=>ldN 8 y5 S fun b9 S=>stN 8 y2 b9 S fun c0 S=>ldN 8 y2 S fun c1 _=>Q (.ret c1) S) (fun u S=>False)) (ldN 8 y5 S fun c2 S=>stN 8 y2 c2 S fun c3 S=>ldN 8 y2 S fun c4 _=>Q (.ret c4) S)) (fun u S=>Q (.pan u) S)) (ldN 8 y5 S fun c5 S=>stN 8 y2 c5 S fun c6 S=>ldN 8 y2 S fun c7 _=>Q (.ret c7) S)) (shift y5 3 S fun c8 S=>ld1 c8 S fun c9 S=>lenS c9 S fun d0 S=>bin .gtr 0 d0 (.v (.int .i64 0)) S fun d1 S=>onB d1 fun b=>gd b (callV Pg y4 [.v (.int .i64 2)] S (fun d2 S=>bin .gtr 0 d2 (.v (.int .i64 0)) S fun d3 S=>onB d3 fun b=>gd b (∃ d4:AV,(∀ T:Store,Keep S T→shift y5 7 T fun d5 S=>d5=d4∧S=T)∧∃ d6:AV,(∀ T:Store,Keep S T→ld1 d4 T fun d7 S=>d7=d6∧S=T)∧∃ d8:AV,(∀ T:Store,Keep S T→shift y5 3 T fun d9 S=>d9=d8∧S=T)∧∃ e0:AV,(∀ T:Store,Keep S T→ld1 d8 T fun e1 S=>e1=e0∧S=T)∧∃ e2:AV,(∀ T:Store,Keep S T→lenS e0 T fun e3 S=>e3=e2∧S=T)∧∃ e4:AV,(∀ T:Store,Keep S T→bin .sub 0 e2 (.v (.int .i64 1)) T fun e5 S=>e5=e4∧S=T)∧∃ e6:AV,(∀ T:Store,Keep S T→bslN 9 1 3 [.v (.string ByteArray.empty)] [(0,(.v (.string { data:=#[111,117,116] }))),(1,(.v (.string { data:=#[108,49] }))),(2,(.v (.string { data:=#[97,45,98] })))] T fun e7 S=>e7=e6∧S=T)∧callV Pg y4 [.v (.int .i64 3)] S (fun e8 S=>(∀ T:Store,Keep S T→bslN 9 1 3 [.v (.string ByteArray.empty)] [(0,(.v (.string { data:=#[111,117,116] }))),(1,(.v (.string { data:=#[108,49] }))),(2,(.v (.string { data:=#[97,45,98] })))] T fun e9 S=>e9=e6∧S=T)∧(∀ T:Store,Keep S T→bin .sub 0 e2 (.v (.int .i64 1)) T fun f0 S=>f0=e4∧S=T)∧(∀ T:Store,Keep S T→lenS e0 T fun f1 S=>f1=e2∧S=T)∧(∀ T:Store,Keep S T→ld1 d8 T fun f2 S=>f2=e0∧S=T)∧(∀ T:Store,Keep S T→shift y5 3 T fun f3 S=>f3=d8∧S=T)∧(∀ T:Store,Keep S T→ld1 d4 T fun f4 S=>f4=d6∧S=T)∧(∀ T:Store,Keep S T→shift y5 7 T fun f5 S=>f5=d4∧S=T)∧∃ f6:AV,(∀ T:Store,Keep S T→ixS 9 1 e6 e8 T fun f7 S=>f7=f6∧S=T)∧∃ f8:AV,(∀ T:Store,Keep S T→ld1 f6 T fun f9 S=>f9=f8∧S=T)∧∃ g0:AV,(∀ T:Store,Keep S T→bld [(0,1),(1,1),(2,1)] [.v (.int .u8 0),.v (.int .i64 0),.v (.string ByteArray.empty)] [(0,(.v (.int .u8 111))),(1,e4),(2,f8)] T fun g1 S=>g1=g0∧S=T)∧∃ g2:AV,(∀ T:Store,Keep S T→bslN 130 3 1 [.v (.int .u8 0),.v (.int .i64 0),.v (.string ByteArray.empty)] [(0,g0)] T fun g3 S=>g3=g2∧S=T)∧appS 130 3 32 d6 g2 S fun g4 S=>∃ g5:AV,(∀ T:Store,Keep S T→shift y5 7 T fun g6 S=>g6=g5∧S=T)∧stN 1 g5 g4 S fun g7 S=>ldN 8 y5 S fun g8 S=>stN 8 y2 g8 S fun g9 S=>ldN 8 y2 S fun h0 _=>Q (.ret h0) S) (fun u S=>False)) (ldN 8 y5 S fun h1 S=>stN 8 y2 h1 S fun h2 S=>ldN 8 y2 S fun h3 _=>Q (.ret h3) S)) (fun u S=>Q (.pan u) S)) (ldN 8 y5 S fun h4 S=>stN 8 y2 h4 S fun h5 S=>ldN 8 y2 S fun h6 _=>Q (.ret h6) S))) (fun u S=>Q (.pan u) S))
theorem b48_3_eq(y2 y4 y5 y11 y15:AV)(S:Store)(KE3:KeT)(Q:PoT):vc Pg (c48.at_ [1,1,1,1,1,1,1,1,1,1,1,1,1,1,1,0,1,0,0]) (ms48.drop 4) (mkE 156 lv48_3 (env48_3 y2 y4 y5 y11 y15)) S (thenK (fgK lv48_3 KE3) (blockK 6 (seqK (vc Pg (c48.at_ [1,1,1,1,1,1,1,1,1,1,1,1,1,1,1,1]) (ms48.drop 4)) (bodyK Pg r48 Q))))=b48_3 y2 y4 y5 y11 y15 S KE3 Q:=by kernel_rfl
theorem loopw48_3{y2 y4 y5 y11 y15:AV}{S:Store}{Q:PoT}(I:AV→AV→AV→AV→AV→Store→Prop)(μ:AV→AV→AV→AV→AV→Store→Nat)(h0:∃(y2' y4' y5' y11' y15':AV) (S':Store),Wk S (env48_3 y2 y4 y5 y11 y15) S' (env48_3 y2' y4' y5' y11' y15')∧I y2' y4' y5' y11' y15' S')
    (hr:∀(y2 y4 y5 y11 y15:AV) (S:Store),I y2 y4 y5 y11 y15 S→∀ KE3:KeT,(∀(y2' y4' y5' y11' y15':AV) (S':Store) (y2'' y4'' y5'' y11'' y15'':AV) (S'':Store),Wk S' (env48_3 y2' y4' y5' y11' y15') S'' (env48_3 y2'' y4'' y5'' y11'' y15'')→I y2'' y4'' y5'' y11'' y15'' S''→μ y2'' y4'' y5'' y11'' y15'' S''<μ y2 y4 y5 y11 y15 S→KE3 156 (env48_3 y2' y4' y5' y11' y15') S')→b48_3 y2 y4 y5 y11 y15 S KE3 Q):
    loopV lv48_3 (vc Pg (c48.at_ [1,1,1,1,1,1,1,1,1,1,1,1,1,1,1,0,1,0,0]) (ms48.drop 4)) 156 (env48_3 y2 y4 y5 y11 y15) S (blockK 6 (seqK (vc Pg (c48.at_ [1,1,1,1,1,1,1,1,1,1,1,1,1,1,1,1]) (ms48.drop 4)) (bodyK Pg r48 Q))):=by
 obtain⟨y2',y4',y5',y11',y15',S0,hw0,h0⟩:=h0
 refine⟨fun n e S=>n=156∧∃ y2 y4 y5 y11 y15:AV,e=(env48_3 y2 y4 y5 y11 y15)∧I y2 y4 y5 y11 y15 S,fun _ e S=>μ (e.getD 0 .j) (e.getD 1 .j) (e.getD 2 .j) (e.getD 3 .j) (e.getD 4 .j) S,?_,?_⟩
 ·exact⟨_,_,hw0,rfl,_,_,_,_,_,rfl,h0⟩
 ·rintro _ e S ⟨rfl,y2,y4,y5,y11,y15,rfl,hI⟩
  exact(b48_3_eq _ _ _ _ _ _ _ _).mpr (hr y2 y4 y5 y11 y15 S hI _ (fun y2' y4' y5' y11' y15' S' y2'' y4'' y5'' y11'' y15'' S'' hw hI' hm=>⟨_,_,hw,⟨rfl,_,_,_,_,_,rfl,hI'⟩,hm⟩))
def c78:Code:=(Tryz.f78.body).getD .skip
def ms78:List (List Nat):=[[]]
def m78(x0 x1 x2:AV)(S:Store)(Q:PoT):Prop:=
 ld1 x1 S fun a S=>bin .add 0 a (.v (.int .i64 1)) S fun c S=>stN 1 x1 c S fun d S=>ld1 x1 S fun e S=>ld1 x2 S fun f S=>lenS f S fun g S=>bin .gtr 0 e g S fun h S=>onB h fun b=>gd b (Q (.ret (.v (.int .i64 0))) S) (ld1 x2 S fun i S=>ld1 x1 S fun k S=>bin .sub 0 k (.v (.int .i64 1)) S fun l S=>ixS 126 1 i l S fun m S=>ld1 m S fun n S=>convI .i64 n S fun o S=>bin .rem 0 o x0 S fun p S=>Q (.ret p) S)
theorem calls78{x0 x1 x2:AV}{S:Store}{Q:PoT}(h:m78 x0 x1 x2 S Q):ACalls Pg 78 [x0,x1,x2] S Q:=
 calls_of_vc (fn:=Tryz.f78) (c:=c78) (n:=19) Tryz.func78 (by kernel_rfl) (by kernel_rfl) (by kernel_rfl) ms78 (Eq.mpr (by kernel_rfl) h)
def c66:Code:=(Tryz.f66.body).getD .skip
def r66:List ResultVar:=Tryz.f66.results.toList
def env66_0(y1 y2 y3 y7:AV):List AV:=[y1,y2,y3,y7]
def lv66_0:List Nat:=[1,2,3,7]
def ms66:List (List Nat):=[lv66_0,[]]
def m66(x0 x1 x2:AV)(S:Store)(Q:PoT):Prop:=
 boxN 42 8 x0 S fun a S=>loopV lv66_0 (vc Pg (c66.at_ [1,0,1,0,0]) (ms66.drop 1)) 22 (env66_0 x1 x2 a (.v (.int .i64 0))) S (blockK 0 (seqK (vc Pg (c66.at_ [1,1]) (ms66.drop 1)) (bodyK Pg r66 Q)))
theorem calls66{x0 x1 x2:AV}{S:Store}{Q:PoT}(h:m66 x0 x1 x2 S Q):ACalls Pg 66 [x0,x1,x2] S Q:=
 calls_of_vc (fn:=Tryz.f66) (c:=c66) (n:=22) Tryz.func66 (by kernel_rfl) (by kernel_rfl) (by kernel_rfl) ms66 (Eq.mpr (by kernel_rfl) h)
def b66_0(y1 y2 y3 y7:AV)(S:Store)(KE0:KeT)(Q:PoT):Prop:=
 lenS y2 S fun a S=>bin .lss 0 y7 a S fun c S=>onB c fun b=>gd b ((fun S0:Store=>∃ d:AV,(ldN 8 y3 S fun e S=>e=d∧S=S0)∧∃ f:AV,(ixS 3 1 y2 y7 S fun g S=>g=f∧S=S0)∧∃ h:AV,(ld1 f S fun i S=>i=h∧S=S0)∧∃ k:AV,(callF Pg 68 [d,y1,h] S (fun _ _=>False) fun l S=>l=k∧S=S0)∧∃ m:AV,(un .not k S fun n S=>n=m∧S=S0)∧onB m fun b=>gd b (Q (.ret (.v (.bool false))) S) (bin .add 0 y7 (.v (.int .i64 1)) S fun o S=>KE0 22 (env66_0 y1 y2 y3 o) S)) S) (Q (.ret (.v (.bool true))) S)
theorem b66_0_eq(y1 y2 y3 y7:AV)(S:Store)(KE0:KeT)(Q:PoT):vc Pg (c66.at_ [1,0,1,0,0]) (ms66.drop 1) (mkE 22 lv66_0 (env66_0 y1 y2 y3 y7)) S (thenK (fgK lv66_0 KE0) (blockK 0 (seqK (vc Pg (c66.at_ [1,1]) (ms66.drop 1)) (bodyK Pg r66 Q))))=b66_0 y1 y2 y3 y7 S KE0 Q:=by kernel_rfl
theorem loop66_0{y1 y2 y3:AV}{y70:AV}{S:Store}{Q:PoT}(I:AV→Store→Prop)(μ:AV→Store→Nat)(h0:I y70 S)
    (hr:∀(y7:AV) (S:Store),I y7 S→∀ KE0:KeT,(∀(y7':AV) (S':Store),I y7' S'→μ y7' S'<μ y7 S→KE0 22 (env66_0 y1 y2 y3 y7') S')→b66_0 y1 y2 y3 y7 S KE0 Q):
    loopV lv66_0 (vc Pg (c66.at_ [1,0,1,0,0]) (ms66.drop 1)) 22 (env66_0 y1 y2 y3 y70) S (blockK 0 (seqK (vc Pg (c66.at_ [1,1]) (ms66.drop 1)) (bodyK Pg r66 Q))):=by
 refine⟨fun n e S=>n=22∧∃ y7:AV,e=(env66_0 y1 y2 y3 y7)∧I y7 S,fun _ e S=>μ (e.getD 3 .j) S,?_,?_⟩
 ·exact⟨_,_,Wk.refl _ _,rfl,_,rfl,h0⟩
 ·rintro _ e S ⟨rfl,y7,rfl,hI⟩
  exact(b66_0_eq _ _ _ _ _ _ _).mpr (hr y7 S hI _ (fun y7' S' hI' hm=>⟨_,_,Wk.refl _ _,⟨rfl,_,rfl,hI'⟩,hm⟩))
def c67:Code:=(Tryz.f67.body).getD .skip
def r67:List ResultVar:=Tryz.f67.results.toList
def env67_0(y1 y2 y5:AV):List AV:=[y1,y2,y5]
def lv67_0:List Nat:=[1,2,5]
def ms67:List (List Nat):=[lv67_0,[]]
def m67(x0 x1:AV)(S:Store)(Q:PoT):Prop:=
 boxN 42 8 x0 S fun a S=>loopV lv67_0 (vc Pg (c67.at_ [1,0,1,0,0]) (ms67.drop 1)) 33 (env67_0 x1 a (.v (.int .i64 0))) S (blockK 0 (seqK (vc Pg (c67.at_ [1,1]) (ms67.drop 1)) (bodyK Pg r67 Q)))
theorem calls67{x0 x1:AV}{S:Store}{Q:PoT}(h:m67 x0 x1 S Q):ACalls Pg 67 [x0,x1] S Q:=
 calls_of_vc (fn:=Tryz.f67) (c:=c67) (n:=33) Tryz.func67 (by kernel_rfl) (by kernel_rfl) (by kernel_rfl) ms67 (Eq.mpr (by kernel_rfl) h)
def b67_0(y1 y2 y5:AV)(S:Store)(KE0:KeT)(Q:PoT):Prop:=
 shift y2 1 S fun a S=>ld1 a S fun c S=>lenS c S fun d S=>bin .lss 0 y5 d S fun e S=>onB e fun b=>gd b (shift y2 1 S fun f S=>ld1 f S fun g S=>ixS 66 2 g y5 S fun h S=>shift h 1 S fun i S=>ld1 i S fun k S=>bin .neq 0 k (.v (.int .i64 2)) S fun l S=>onB l fun b=>gd b (shift y2 0 S fun m S=>ld1 m S fun n S=>bin .add 0 n y5 S fun o S=>bin .shr 0 y1 o S fun p S=>bin .rem 0 p (.v (.int .i64 2)) S fun q S=>bin .neq 0 q k S fun r S=>onB r fun b=>gd b (Q (.ret (.v (.bool false))) S) (bin .add 0 y5 (.v (.int .i64 1)) S fun s S=>KE0 33 (env67_0 y1 y2 s) S)) (bin .add 0 y5 (.v (.int .i64 1)) S fun t S=>KE0 33 (env67_0 y1 y2 t) S)) (Q (.ret (.v (.bool true))) S)
theorem b67_0_eq(y1 y2 y5:AV)(S:Store)(KE0:KeT)(Q:PoT):vc Pg (c67.at_ [1,0,1,0,0]) (ms67.drop 1) (mkE 33 lv67_0 (env67_0 y1 y2 y5)) S (thenK (fgK lv67_0 KE0) (blockK 0 (seqK (vc Pg (c67.at_ [1,1]) (ms67.drop 1)) (bodyK Pg r67 Q))))=b67_0 y1 y2 y5 S KE0 Q:=by kernel_rfl
theorem loop67_0{y1 y2:AV}{y50:AV}{S:Store}{Q:PoT}(I:AV→Store→Prop)(μ:AV→Store→Nat)(h0:I y50 S)
    (hr:∀(y5:AV) (S:Store),I y5 S→∀ KE0:KeT,(∀(y5':AV) (S':Store),I y5' S'→μ y5' S'<μ y5 S→KE0 33 (env67_0 y1 y2 y5') S')→b67_0 y1 y2 y5 S KE0 Q):
    loopV lv67_0 (vc Pg (c67.at_ [1,0,1,0,0]) (ms67.drop 1)) 33 (env67_0 y1 y2 y50) S (blockK 0 (seqK (vc Pg (c67.at_ [1,1]) (ms67.drop 1)) (bodyK Pg r67 Q))):=by
 refine⟨fun n e S=>n=33∧∃ y5:AV,e=(env67_0 y1 y2 y5)∧I y5 S,fun _ e S=>μ (e.getD 2 .j) S,?_,?_⟩
 ·exact⟨_,_,Wk.refl _ _,rfl,_,rfl,h0⟩
 ·rintro _ e S ⟨rfl,y5,rfl,hI⟩
  exact(b67_0_eq _ _ _ _ _ _).mpr (hr y5 S hI _ (fun y5' S' hI' hm=>⟨_,_,Wk.refl _ _,⟨rfl,_,rfl,hI'⟩,hm⟩))
def c117:Code:=(Tryz.f117.body).getD .skip
def r117:List ResultVar:=Tryz.f117.results.toList
def env117_0(y1 y2 y4 y32 y33:AV):List AV:=[y1,y2,y4,y32,y33]
def lv117_0:List Nat:=[1,2,4,32,33]
def env117_1(y1 y2 y4 y5 y6 y32 y33 y43 y44:AV):List AV:=[y1,y2,y4,y5,y6,y32,y33,y43,y44]
def lv117_1:List Nat:=[1,2,4,5,6,32,33,43,44]
def env117_2(y2 y4 y88 y89 y90:AV):List AV:=[y2,y4,y88,y89,y90]
def lv117_2:List Nat:=[2,4,88,89,90]
def env117_3(y2 y4 y107 y108:AV):List AV:=[y2,y4,y107,y108]
def lv117_3:List Nat:=[2,4,107,108]
def ms117:List (List Nat):=[lv117_0,lv117_1,lv117_2,lv117_3,[]]
def m117(x0:AV)(S:Store)(Q:PoT):Prop:=
 boxN 42 8 x0 S fun c S=>boxN 71 5 (.a [.v (.int .i64 0),.nl,.nl,.nl,.nl]) S fun d S=>ldN 8 c S fun e S=>callF Pg 85 [e] S Q fun f S=>un .not f S fun g S=>onB g fun b=>gd b (ldN 5 d S fun h S=>stN 5 d h S fun i S=>ldN 5 d S fun k _=>Q (.ret (.t [k,.v (.int .i64 1)])) S) (∃ l:AV,(∀ T:Store,Keep S T→ldN 8 c T fun m S=>m=l∧S=T)∧∃ n:AV,(∀ T:Store,Keep S T→ldN 8 c T fun o S=>o=n∧S=T)∧∃ q:AV,(∀ T:Store,Keep S T→callF Pg 84 [n] T (fun _ _=>False) fun r S=>r=q∧S=T)∧∃ s:AV,(∀ T:Store,Keep S T→bld [(0,8),(8,2),(10,1)] [.v (.int .i64 0),.nl,.nl,.nl,.nl,.nl,.nl,.nl,.v (.int .i64 0),.nl,.nl] [(0,l),(1,q)] T fun u S=>u=s∧S=T)∧optP (cellsOf s) fun cs18=>cs18.length=11∧newsV [(.cells 171 [cs18] true),(.cells 169 [[.v (.pointer none)]] true)] S fun ids19 S=>stN 1 (.p (ids19.tail.headD 0) 0 0) (.p (ids19.headD 0) 0 0) S fun w S=>ld1 (.p (ids19.tail.headD 0) 0 0) S fun x S=>nilChk x S fun y S=>shift y 8 S fun z S=>shift z 0 S fun A S=>ld1 A S fun B S=>bin .gtr 0 B (.v (.int .i64 10)) S fun C S=>onB C fun b=>gd b (ldN 5 d S fun D S=>stN 5 d D S fun E S=>ldN 5 d S fun F _=>Q (.ret (.t [F,.v (.int .i64 2)])) S) (ld1 (.p (ids19.tail.headD 0) 0 0) S fun G S=>nilChk G S fun H S=>shift H 8 S fun I S=>shift I 0 S fun J S=>ld1 J S fun K S=>bin .shl 0 (.v (.int .i64 1)) K S fun L S=>loopV lv117_0 (vc Pg (c117.at_ [1,1,1,1,0,1,0,0]) (ms117.drop 1)) 123 (env117_0 c d (.p (ids19.tail.headD 0) 0 0) L (.v (.int .i64 0))) S (blockK 0 (seqK (vc Pg (c117.at_ [1,1,1,1,1]) (ms117.drop 2)) (bodyK Pg r117 Q)))))
theorem calls117{x0:AV}{S:Store}{Q:PoT}(h:m117 x0 S Q):ACalls Pg 117 [x0] S Q:=
 calls_of_vc (fn:=Tryz.f117) (c:=c117) (n:=123) Tryz.func117 (by kernel_rfl) (by kernel_rfl) (by kernel_rfl) ms117 (Eq.mpr (by kernel_rfl) h)
def b117_0(y1 y2 y4 y32 y33:AV)(S:Store)(KE0:KeT)(Q:PoT):Prop:=
 bin .lss 0 y33 y32 S fun a S=>onB a fun b=>gd b (ld1 y4 S fun c S=>nilChk c S fun d S=>shift d 8 S fun e S=>shift e 0 S fun g S=>ld1 g S fun h S=>mkN 4 1 [.v (.bool false)] h h S fun i S=>lenS i S fun k S=>loopV lv117_1 (vc Pg (c117.at_ [1,1,1,1,0,1,0,0,1,1,0,0,1,1,0,1,0,0]) (ms117.drop 2)) 123 (env117_1 y1 y2 y4 y33 i y32 y33 k (.v (.int .i64 0))) S (blockK 2 (seqK (vc Pg (c117.at_ [1,1,1,1,0,1,0,0,1,1,0,0,1,1,1]) (ms117.drop 2)) (blockK 1 (seqK (vc Pg (c117.at_ [1,1,1,1,0,1,0,0,1,1,1]) (ms117.drop 2)) (thenK (fgK lv117_0 KE0) (blockK 0 (seqK (vc Pg (c117.at_ [1,1,1,1,1]) (ms117.drop 2)) (bodyK Pg r117 Q))))))))) (ld1 y4 S fun l S=>nilChk l S fun m S=>shift m 8 S fun n S=>shift n 0 S fun o S=>ld1 o S fun p S=>shift y2 0 S fun q S=>stN 1 q p S fun r S=>ld1 y4 S fun s S=>ld1 y4 S fun t S=>callF Pg 155 [s,(.f (.func 156) [t] [])] S Q fun u S=>shift y2 1 S fun w S=>stN 1 w u S fun x S=>ld1 y4 S fun y S=>callF Pg 155 [y,(.f (.func 157) [] [y2,y4])] S Q fun z S=>shift y2 2 S fun A S=>stN 1 A z S fun B S=>shift y1 6 S fun C S=>ld1 C S fun D S=>lenS D S fun E S=>loopV lv117_2 (vc Pg (c117.at_ [1,1,1,1,1,1,1,1,0,1,0,0]) (ms117.drop 3)) 123 (env117_2 y2 y4 D E (.v (.int .i64 0))) S (blockK 4 (seqK (vc Pg (c117.at_ [1,1,1,1,1,1,1,1,1]) (ms117.drop 3)) (bodyK Pg r117 Q))))
theorem b117_0_eq(y1 y2 y4 y32 y33:AV)(S:Store)(KE0:KeT)(Q:PoT):vc Pg (c117.at_ [1,1,1,1,0,1,0,0]) (ms117.drop 1) (mkE 123 lv117_0 (env117_0 y1 y2 y4 y32 y33)) S (thenK (fgK lv117_0 KE0) (blockK 0 (seqK (vc Pg (c117.at_ [1,1,1,1,1]) (ms117.drop 2)) (bodyK Pg r117 Q))))=b117_0 y1 y2 y4 y32 y33 S KE0 Q:=by kernel_rfl
theorem loop117_0{y1 y2 y4 y32:AV}{y330:AV}{S:Store}{Q:PoT}(I:AV→Store→Prop)(μ:AV→Store→Nat)(h0:I y330 S)
    (hr:∀(y33:AV) (S:Store),I y33 S→∀ KE0:KeT,(∀(y33':AV) (S':Store),I y33' S'→μ y33' S'<μ y33 S→KE0 123 (env117_0 y1 y2 y4 y32 y33') S')→b117_0 y1 y2 y4 y32 y33 S KE0 Q):
    loopV lv117_0 (vc Pg (c117.at_ [1,1,1,1,0,1,0,0]) (ms117.drop 1)) 123 (env117_0 y1 y2 y4 y32 y330) S (blockK 0 (seqK (vc Pg (c117.at_ [1,1,1,1,1]) (ms117.drop 2)) (bodyK Pg r117 Q))):=by
 refine⟨fun n e S=>n=123∧∃ y33:AV,e=(env117_0 y1 y2 y4 y32 y33)∧I y33 S,fun _ e S=>μ (e.getD 4 .j) S,?_,?_⟩
 ·exact⟨_,_,Wk.refl _ _,rfl,_,rfl,h0⟩
 ·rintro _ e S ⟨rfl,y33,rfl,hI⟩
  exact(b117_0_eq _ _ _ _ _ _ _ _).mpr (hr y33 S hI _ (fun y33' S' hI' hm=>⟨_,_,Wk.refl _ _,⟨rfl,_,rfl,hI'⟩,hm⟩))
def b117_1(y1 y2 y4 y5 y6 y32 y33 y43 y44:AV)(S:Store)(KE1:KeT)(KE0:KeT)(Q:PoT):Prop:=
 bin .lss 0 y44 y43 S fun a S=>onB a fun b=>gd b (bin .shr 0 y5 y44 S fun c S=>bin .and 0 c (.v (.int .i64 1)) S fun d S=>bin .eql 0 d (.v (.int .i64 1)) S fun e S=>ixS 4 1 y6 y44 S fun f S=>stN 1 f e S fun g S=>bin .add 0 y44 (.v (.int .i64 1)) S fun h S=>KE1 123 (env117_1 y1 y2 y4 y5 y6 y32 y33 y43 h) S) (∃ i:AV,(∀ T:Store,Keep S T→ld1 y4 T fun k S=>k=i∧S=T)∧∃ l:AV,(∀ T:Store,Keep S T→ld1 y4 T fun m S=>m=l∧S=T)∧∃ n:AV,(∀ T:Store,Keep S T→nilChk l T fun o S=>o=n∧S=T)∧∃ p:AV,(∀ T:Store,Keep S T→shift n 10 T fun q S=>q=p∧S=T)∧∃ r:AV,(∀ T:Store,Keep S T→ld1 p T fun s S=>s=r∧S=T)∧∃ t:AV,(∀ T:Store,Keep S T→ld1 y4 T fun u S=>u=t∧S=T)∧∃ w:AV,(∀ T:Store,Keep S T→nilChk t T fun x S=>x=w∧S=T)∧∃ y:AV,(∀ T:Store,Keep S T→shift w 8 T fun z S=>z=y∧S=T)∧∃ A:AV,(∀ T:Store,Keep S T→ldN 2 y T fun B S=>B=A∧S=T)∧∃ C:AV,(∀ T:Store,Keep S T→callF Pg 154 [A,y6] T (fun _ _=>False) fun D S=>D=C∧S=T)∧∃ E:AV,(∀ T:Store,Keep S T→bslN 53 1 1 [.nl] [(0,C)] T fun F S=>F=E∧S=T)∧appS 53 1 24 r E S fun G S=>(∀ T:Store,Keep S T→ld1 y4 T fun H S=>H=i∧S=T)∧∃ I:AV,(∀ T:Store,Keep S T→nilChk i T fun J S=>J=I∧S=T)∧∃ K:AV,(∀ T:Store,Keep S T→shift I 10 T fun L S=>L=K∧S=T)∧stN 1 K G S fun M S=>bin .add 0 y33 (.v (.int .i64 1)) S fun N S=>KE0 123 (env117_0 y1 y2 y4 y32 N) S)
theorem b117_1_eq(y1 y2 y4 y5 y6 y32 y33 y43 y44:AV)(S:Store)(KE1:KeT)(KE0:KeT)(Q:PoT):vc Pg (c117.at_ [1,1,1,1,0,1,0,0,1,1,0,0,1,1,0,1,0,0]) (ms117.drop 2) (mkE 123 lv117_1 (env117_1 y1 y2 y4 y5 y6 y32 y33 y43 y44)) S (thenK (fgK lv117_1 KE1) (blockK 2 (seqK (vc Pg (c117.at_ [1,1,1,1,0,1,0,0,1,1,0,0,1,1,1]) (ms117.drop 2)) (blockK 1 (seqK (vc Pg (c117.at_ [1,1,1,1,0,1,0,0,1,1,1]) (ms117.drop 2)) (thenK (fgK lv117_0 KE0) (blockK 0 (seqK (vc Pg (c117.at_ [1,1,1,1,1]) (ms117.drop 2)) (bodyK Pg r117 Q)))))))))=b117_1 y1 y2 y4 y5 y6 y32 y33 y43 y44 S KE1 KE0 Q:=by kernel_rfl
theorem loop117_1{y1 y2 y4 y5 y6 y32 y33 y43:AV}{y440:AV}{S:Store}{KE0:KeT}{Q:PoT}(I:AV→Store→Prop)(μ:AV→Store→Nat)(h0:I y440 S)
    (hr:∀(y44:AV) (S:Store),I y44 S→∀ KE1:KeT,(∀(y44':AV) (S':Store),I y44' S'→μ y44' S'<μ y44 S→KE1 123 (env117_1 y1 y2 y4 y5 y6 y32 y33 y43 y44') S')→b117_1 y1 y2 y4 y5 y6 y32 y33 y43 y44 S KE1 KE0 Q):
    loopV lv117_1 (vc Pg (c117.at_ [1,1,1,1,0,1,0,0,1,1,0,0,1,1,0,1,0,0]) (ms117.drop 2)) 123 (env117_1 y1 y2 y4 y5 y6 y32 y33 y43 y440) S (blockK 2 (seqK (vc Pg (c117.at_ [1,1,1,1,0,1,0,0,1,1,0,0,1,1,1]) (ms117.drop 2)) (blockK 1 (seqK (vc Pg (c117.at_ [1,1,1,1,0,1,0,0,1,1,1]) (ms117.drop 2)) (thenK (fgK lv117_0 KE0) (blockK 0 (seqK (vc Pg (c117.at_ [1,1,1,1,1]) (ms117.drop 2)) (bodyK Pg r117 Q)))))))):=by
 refine⟨fun n e S=>n=123∧∃ y44:AV,e=(env117_1 y1 y2 y4 y5 y6 y32 y33 y43 y44)∧I y44 S,fun _ e S=>μ (e.getD 8 .j) S,?_,?_⟩
 ·exact⟨_,_,Wk.refl _ _,rfl,_,rfl,h0⟩
 ·rintro _ e S ⟨rfl,y44,rfl,hI⟩
  exact(b117_1_eq _ _ _ _ _ _ _ _ _ _ _ _ _).mpr (hr y44 S hI _ (fun y44' S' hI' hm=>⟨_,_,Wk.refl _ _,⟨rfl,_,rfl,hI'⟩,hm⟩))
def b117_2(y2 y4 y88 y89 y90:AV)(S:Store)(KE2:KeT)(Q:PoT):Prop:=
 bin .lss 0 y90 y89 S fun a S=>onB a fun b=>gd b (ixS 3 1 y88 y90 S fun c S=>ld1 c S fun d S=>boxN 3 1 (.v (.int .i64 0)) S fun e S=>stN 1 e d S fun g S=>∃ h:AV,(∀ T:Store,Keep S T→shift y2 4 T fun i S=>i=h∧S=T)∧∃ k:AV,(∀ T:Store,Keep S T→ld1 h T fun l S=>l=k∧S=T)∧∃ m:AV,(∀ T:Store,Keep S T→ld1 y4 T fun n S=>n=m∧S=T)∧∃ o:AV,(∀ T:Store,Keep S T→(.f (.func 159) [] [y2,y4,e])=o∧T=T)∧∃ p:AV,(∀ T:Store,Keep S T→callF Pg 155 [m,o] T (fun _ _=>False) fun q S=>q=p∧S=T)∧∃ r:AV,(∀ T:Store,Keep S T→bslN 53 1 1 [.nl] [(0,p)] T fun s S=>s=r∧S=T)∧appS 53 1 24 k r S fun t S=>∃ u:AV,(∀ T:Store,Keep S T→shift y2 4 T fun w S=>w=u∧S=T)∧stN 1 u t S fun x S=>bin .add 0 y90 (.v (.int .i64 1)) S fun y S=>KE2 123 (env117_2 y2 y4 y88 y89 y) S) (ld1 y4 S fun z S=>nilChk z S fun A S=>shift A 10 S fun B S=>ld1 B S fun C S=>lenS C S fun D S=>loopV lv117_3 (vc Pg (c117.at_ [1,1,1,1,1,1,1,1,1,0,1,0,0]) (ms117.drop 4)) 123 (env117_3 y2 y4 D (.v (.int .i64 0))) S (blockK 6 (seqK (vc Pg (c117.at_ [1,1,1,1,1,1,1,1,1,1]) (ms117.drop 4)) (bodyK Pg r117 Q))))
theorem b117_2_eq(y2 y4 y88 y89 y90:AV)(S:Store)(KE2:KeT)(Q:PoT):vc Pg (c117.at_ [1,1,1,1,1,1,1,1,0,1,0,0]) (ms117.drop 3) (mkE 123 lv117_2 (env117_2 y2 y4 y88 y89 y90)) S (thenK (fgK lv117_2 KE2) (blockK 4 (seqK (vc Pg (c117.at_ [1,1,1,1,1,1,1,1,1]) (ms117.drop 3)) (bodyK Pg r117 Q))))=b117_2 y2 y4 y88 y89 y90 S KE2 Q:=by kernel_rfl
theorem loop117_2{y2 y4 y88 y89:AV}{y900:AV}{S:Store}{Q:PoT}(I:AV→Store→Prop)(μ:AV→Store→Nat)(h0:I y900 S)
    (hr:∀(y90:AV) (S:Store),I y90 S→∀ KE2:KeT,(∀(y90':AV) (S':Store),I y90' S'→μ y90' S'<μ y90 S→KE2 123 (env117_2 y2 y4 y88 y89 y90') S')→b117_2 y2 y4 y88 y89 y90 S KE2 Q):
    loopV lv117_2 (vc Pg (c117.at_ [1,1,1,1,1,1,1,1,0,1,0,0]) (ms117.drop 3)) 123 (env117_2 y2 y4 y88 y89 y900) S (blockK 4 (seqK (vc Pg (c117.at_ [1,1,1,1,1,1,1,1,1]) (ms117.drop 3)) (bodyK Pg r117 Q))):=by
 refine⟨fun n e S=>n=123∧∃ y90:AV,e=(env117_2 y2 y4 y88 y89 y90)∧I y90 S,fun _ e S=>μ (e.getD 4 .j) S,?_,?_⟩
 ·exact⟨_,_,Wk.refl _ _,rfl,_,rfl,h0⟩
 ·rintro _ e S ⟨rfl,y90,rfl,hI⟩
  exact(b117_2_eq _ _ _ _ _ _ _ _).mpr (hr y90 S hI _ (fun y90' S' hI' hm=>⟨_,_,Wk.refl _ _,⟨rfl,_,rfl,hI'⟩,hm⟩))
def b117_3(y2 y4 y107 y108:AV)(S:Store)(KE3:KeT)(Q:PoT):Prop:=
 bin .lss 0 y108 y107 S fun a S=>onB a fun b=>gd b (∃ c:AV,(∀ T:Store,Keep S T→shift y2 3 T fun d S=>d=c∧S=T)∧∃ e:AV,(∀ T:Store,Keep S T→ld1 c T fun f S=>f=e∧S=T)∧∃ g:AV,(∀ T:Store,Keep S T→ld1 y4 T fun h S=>h=g∧S=T)∧∃ i:AV,(∀ T:Store,Keep S T→shift y2 1 T fun k S=>k=i∧S=T)∧∃ l:AV,(∀ T:Store,Keep S T→ld1 i T fun m S=>m=l∧S=T)∧∃ n:AV,(∀ T:Store,Keep S T→callF Pg 161 [g,y108,l] T (fun _ _=>False) fun o S=>o=n∧S=T)∧∃ p:AV,(∀ T:Store,Keep S T→bslN 34 1 1 [.nl] [(0,n)] T fun q S=>q=p∧S=T)∧appS 34 1 24 e p S fun r S=>∃ s:AV,(∀ T:Store,Keep S T→shift y2 3 T fun u S=>u=s∧S=T)∧stN 1 s r S fun w S=>bin .add 0 y108 (.v (.int .i64 1)) S fun x S=>KE3 123 (env117_3 y2 y4 y107 x) S) (ldN 5 y2 S fun y S=>stN 5 y2 y S fun z S=>ldN 5 y2 S fun A _=>Q (.ret (.t [A,.v (.int .i64 0)])) S)
theorem b117_3_eq(y2 y4 y107 y108:AV)(S:Store)(KE3:KeT)(Q:PoT):vc Pg (c117.at_ [1,1,1,1,1,1,1,1,1,0,1,0,0]) (ms117.drop 4) (mkE 123 lv117_3 (env117_3 y2 y4 y107 y108)) S (thenK (fgK lv117_3 KE3) (blockK 6 (seqK (vc Pg (c117.at_ [1,1,1,1,1,1,1,1,1,1]) (ms117.drop 4)) (bodyK Pg r117 Q))))=b117_3 y2 y4 y107 y108 S KE3 Q:=by kernel_rfl
theorem loop117_3{y2 y4 y107:AV}{y1080:AV}{S:Store}{Q:PoT}(I:AV→Store→Prop)(μ:AV→Store→Nat)(h0:I y1080 S)
    (hr:∀(y108:AV) (S:Store),I y108 S→∀ KE3:KeT,(∀(y108':AV) (S':Store),I y108' S'→μ y108' S'<μ y108 S→KE3 123 (env117_3 y2 y4 y107 y108') S')→b117_3 y2 y4 y107 y108 S KE3 Q):
    loopV lv117_3 (vc Pg (c117.at_ [1,1,1,1,1,1,1,1,1,0,1,0,0]) (ms117.drop 4)) 123 (env117_3 y2 y4 y107 y1080) S (blockK 6 (seqK (vc Pg (c117.at_ [1,1,1,1,1,1,1,1,1,1]) (ms117.drop 4)) (bodyK Pg r117 Q))):=by
 refine⟨fun n e S=>n=123∧∃ y108:AV,e=(env117_3 y2 y4 y107 y108)∧I y108 S,fun _ e S=>μ (e.getD 3 .j) S,?_,?_⟩
 ·exact⟨_,_,Wk.refl _ _,rfl,_,rfl,h0⟩
 ·rintro _ e S ⟨rfl,y108,rfl,hI⟩
  exact(b117_3_eq _ _ _ _ _ _ _).mpr (hr y108 S hI _ (fun y108' S' hI' hm=>⟨_,_,Wk.refl _ _,⟨rfl,_,rfl,hI'⟩,hm⟩))
def c157:Code:=(Tryz.f157.body).getD .skip
def ms157:List (List Nat):=[[]]
def m157(x0 x1 x2:AV)(S:Store)(Q:PoT):Prop:=
 shift x1 1 S fun a S=>ld1 a S fun c S=>ixS 4 1 c x0 S fun d S=>ld1 d S fun e S=>onB e fun b=>gd b (ld1 x2 S fun f S=>callF Pg 158 [f,x0] S Q fun g S=>Q (.ret g) S) (Q (.ret (.v (.bool false))) S)
theorem calls157{x0 x1 x2:AV}{S:Store}{Q:PoT}(h:m157 x0 x1 x2 S Q):ACalls Pg 157 [x0,x1,x2] S Q:=
 calls_of_vc (fn:=Tryz.f157) (c:=c157) (n:=15) Tryz.func157 (by kernel_rfl) (by kernel_rfl) (by kernel_rfl) ms157 (Eq.mpr (by kernel_rfl) h)
def c159:Code:=(Tryz.f159.body).getD .skip
def ms159:List (List Nat):=[[]]
def m159(x0 x1 x2 x3:AV)(S:Store)(Q:PoT):Prop:=
 shift x1 1 S fun a S=>ld1 a S fun c S=>ixS 4 1 c x0 S fun d S=>ld1 d S fun e S=>onB e fun b=>gd b (ld1 x2 S fun f S=>ld1 x3 S fun g S=>callF Pg 160 [f,x0,g] S Q fun h S=>Q (.ret h) S) (Q (.ret (.v (.bool false))) S)
theorem calls159{x0 x1 x2 x3:AV}{S:Store}{Q:PoT}(h:m159 x0 x1 x2 x3 S Q):ACalls Pg 159 [x0,x1,x2,x3] S Q:=
 calls_of_vc (fn:=Tryz.f159) (c:=c159) (n:=17) Tryz.func159 (by kernel_rfl) (by kernel_rfl) (by kernel_rfl) ms159 (Eq.mpr (by kernel_rfl) h)
def c155:Code:=(Tryz.f155.body).getD .skip
def r155:List ResultVar:=Tryz.f155.results.toList
def env155_0(y1 y5 y14 y15:AV):List AV:=[y1,y5,y14,y15]
def lv155_0:List Nat:=[1,5,14,15]
def ms155:List (List Nat):=[lv155_0,[]]
def m155(x0 x1:AV)(S:Store)(Q:PoT):Prop:=
 nilChk x0 S fun a S=>shift a 10 S fun c S=>ld1 c S fun d S=>lenS d S fun e S=>mkN 4 1 [.v (.bool false)] e e S fun f S=>lenS f S fun g S=>loopV lv155_0 (vc Pg (c155.at_ [1,1,0,1,0,0]) (ms155.drop 1)) 26 (env155_0 x1 f g (.v (.int .i64 0))) S (blockK 0 (seqK (vc Pg (c155.at_ [1,1,1]) (ms155.drop 1)) (bodyK Pg r155 Q)))
theorem calls155{x0 x1:AV}{S:Store}{Q:PoT}(h:m155 x0 x1 S Q):ACalls Pg 155 [x0,x1] S Q:=
 calls_of_vc (fn:=Tryz.f155) (c:=c155) (n:=26) Tryz.func155 (by kernel_rfl) (by kernel_rfl) (by kernel_rfl) ms155 (Eq.mpr (by kernel_rfl) h)
def b155_0(y1 y5 y14 y15:AV)(S:Store)(KE0:KeT)(Q:PoT):Prop:=
 bin .lss 0 y15 y14 S fun a S=>onB a fun b=>gd b (callV Pg y1 [y15] S (fun c S=>ixS 4 1 y5 y15 S fun d S=>stN 1 d c S fun e S=>bin .add 0 y15 (.v (.int .i64 1)) S fun f S=>KE0 26 (env155_0 y1 y5 y14 f) S) (fun u S=>Q (.pan u) S)) (Q (.ret y5) S)
theorem b155_0_eq(y1 y5 y14 y15:AV)(S:Store)(KE0:KeT)(Q:PoT):vc Pg (c155.at_ [1,1,0,1,0,0]) (ms155.drop 1) (mkE 26 lv155_0 (env155_0 y1 y5 y14 y15)) S (thenK (fgK lv155_0 KE0) (blockK 0 (seqK (vc Pg (c155.at_ [1,1,1]) (ms155.drop 1)) (bodyK Pg r155 Q))))=b155_0 y1 y5 y14 y15 S KE0 Q:=by kernel_rfl
theorem loop155_0{y1 y5 y14:AV}{y150:AV}{S:Store}{Q:PoT}(I:AV→Store→Prop)(μ:AV→Store→Nat)(h0:I y150 S)
    (hr:∀(y15:AV) (S:Store),I y15 S→∀ KE0:KeT,(∀(y15':AV) (S':Store),I y15' S'→μ y15' S'<μ y15 S→KE0 26 (env155_0 y1 y5 y14 y15') S')→b155_0 y1 y5 y14 y15 S KE0 Q):
    loopV lv155_0 (vc Pg (c155.at_ [1,1,0,1,0,0]) (ms155.drop 1)) 26 (env155_0 y1 y5 y14 y150) S (blockK 0 (seqK (vc Pg (c155.at_ [1,1,1]) (ms155.drop 1)) (bodyK Pg r155 Q))):=by
 refine⟨fun n e S=>n=26∧∃ y15:AV,e=(env155_0 y1 y5 y14 y15)∧I y15 S,fun _ e S=>μ (e.getD 3 .j) S,?_,?_⟩
 ·exact⟨_,_,Wk.refl _ _,rfl,_,rfl,h0⟩
 ·rintro _ e S ⟨rfl,y15,rfl,hI⟩
  exact(b155_0_eq _ _ _ _ _ _ _).mpr (hr y15 S hI _ (fun y15' S' hI' hm=>⟨_,_,Wk.refl _ _,⟨rfl,_,rfl,hI'⟩,hm⟩))
def c161:Code:=(Tryz.f161.body).getD .skip
def r161:List ResultVar:=Tryz.f161.results.toList
def env161_0(y2 y6 y7 y22 y23:AV):List AV:=[y2,y6,y7,y22,y23]
def lv161_0:List Nat:=[2,6,7,22,23]
def ms161:List (List Nat):=[lv161_0,[]]
def m161(x0 x1 x2:AV)(S:Store)(Q:PoT):Prop:=
 ixS 4 1 x2 x1 S fun a S=>ld1 a S fun c S=>un .not c S fun d S=>onB d fun b=>gd b (Q (.ret .nl) S) (callF Pg 175 [x0,x1] S Q fun e S=>nilChk x0 S fun f S=>shift f 0 S fun g S=>shift g 0 S fun h S=>ld1 h S fun i S=>bin .shl 0 (.v (.int .i64 1)) i S fun k S=>loopV lv161_0 (vc Pg (c161.at_ [1,1,1,0,1,0,0]) (ms161.drop 1)) 40 (env161_0 x2 .nl e k (.v (.int .i64 0))) S (blockK 0 (seqK (vc Pg (c161.at_ [1,1,1,1]) (ms161.drop 1)) (bodyK Pg r161 Q))))
theorem calls161{x0 x1 x2:AV}{S:Store}{Q:PoT}(h:m161 x0 x1 x2 S Q):ACalls Pg 161 [x0,x1,x2] S Q:=
 calls_of_vc (fn:=Tryz.f161) (c:=c161) (n:=40) Tryz.func161 (by kernel_rfl) (by kernel_rfl) (by kernel_rfl) ms161 (Eq.mpr (by kernel_rfl) h)
def b161_0(y2 y6 y7 y22 y23:AV)(S:Store)(KE0:KeT)(Q:PoT):Prop:=
 bin .lss 0 y23 y22 S fun a S=>onB a fun b=>gd b (bin .or 0 y7 y23 S fun c S=>ixS 4 1 y2 c S fun d S=>ld1 d S fun e S=>onB e fun b=>gd b (bin .or 0 y7 y23 S fun f S=>bslN 3 1 1 [.v (.int .i64 0)] [(0,f)] S fun g S=>appS 3 1 8 y6 g S fun h S=>bin .add 0 y23 (.v (.int .i64 1)) S fun i S=>KE0 40 (env161_0 y2 h y7 y22 i) S) (bin .add 0 y23 (.v (.int .i64 1)) S fun k S=>KE0 40 (env161_0 y2 y6 y7 y22 k) S)) (Q (.ret y6) S)
theorem b161_0_eq(y2 y6 y7 y22 y23:AV)(S:Store)(KE0:KeT)(Q:PoT):vc Pg (c161.at_ [1,1,1,0,1,0,0]) (ms161.drop 1) (mkE 40 lv161_0 (env161_0 y2 y6 y7 y22 y23)) S (thenK (fgK lv161_0 KE0) (blockK 0 (seqK (vc Pg (c161.at_ [1,1,1,1]) (ms161.drop 1)) (bodyK Pg r161 Q))))=b161_0 y2 y6 y7 y22 y23 S KE0 Q:=by kernel_rfl
theorem loop161_0{y2 y7 y22:AV}{y60 y230:AV}{S:Store}{Q:PoT}(I:AV→AV→Store→Prop)(μ:AV→AV→Store→Nat)(h0:I y60 y230 S)
    (hr:∀(y6 y23:AV) (S:Store),I y6 y23 S→∀ KE0:KeT,(∀(y6' y23':AV) (S':Store),I y6' y23' S'→μ y6' y23' S'<μ y6 y23 S→KE0 40 (env161_0 y2 y6' y7 y22 y23') S')→b161_0 y2 y6 y7 y22 y23 S KE0 Q):
    loopV lv161_0 (vc Pg (c161.at_ [1,1,1,0,1,0,0]) (ms161.drop 1)) 40 (env161_0 y2 y60 y7 y22 y230) S (blockK 0 (seqK (vc Pg (c161.at_ [1,1,1,1]) (ms161.drop 1)) (bodyK Pg r161 Q))):=by
 refine⟨fun n e S=>n=40∧∃ y6 y23:AV,e=(env161_0 y2 y6 y7 y22 y23)∧I y6 y23 S,fun _ e S=>μ (e.getD 1 .j) (e.getD 4 .j) S,?_,?_⟩
 ·exact⟨_,_,Wk.refl _ _,rfl,_,_,rfl,h0⟩
 ·rintro _ e S ⟨rfl,y6,y23,rfl,hI⟩
  exact(b161_0_eq _ _ _ _ _ _ _ _).mpr (hr y6 y23 S hI _ (fun y6' y23' S' hI' hm=>⟨_,_,Wk.refl _ _,⟨rfl,_,_,rfl,hI'⟩,hm⟩))
def c160:Code:=(Tryz.f160.body).getD .skip
def ms160:List (List Nat):=[[]]
def m160(x0 x1 x2:AV)(S:Store)(Q:PoT):Prop:=
 nilChk x0 S fun a S=>shift a 10 S fun c S=>ld1 c S fun d S=>ixS 53 1 d x1 S fun e S=>ld1 e S fun f S=>bin .quo 0 x2 (.v (.int .i64 2)) S fun g S=>ixS 4 1 f g S fun h S=>ld1 h S fun i S=>bin .and 0 x2 (.v (.int .i64 1)) S fun k S=>bin .eql 0 k (.v (.int .i64 1)) S fun l S=>bin .neq 1 i l S fun m S=>Q (.ret m) S
theorem calls160{x0 x1 x2:AV}{S:Store}{Q:PoT}(h:m160 x0 x1 x2 S Q):ACalls Pg 160 [x0,x1,x2] S Q:=
 calls_of_vc (fn:=Tryz.f160) (c:=c160) (n:=22) Tryz.func160 (by kernel_rfl) (by kernel_rfl) (by kernel_rfl) ms160 (Eq.mpr (by kernel_rfl) h)
def c174:Code:=(Tryz.f174.body).getD .skip
def ms174:List (List Nat):=[[]]
def m174(x0 x1 x2:AV)(S:Store)(Q:PoT):Prop:=
 ld1 x1 S fun a S=>ld1 x2 S fun c S=>callF Pg 160 [a,c,x0] S Q fun d S=>un .not d S fun e S=>Q (.ret e) S
theorem calls174{x0 x1 x2:AV}{S:Store}{Q:PoT}(h:m174 x0 x1 x2 S Q):ACalls Pg 174 [x0,x1,x2] S Q:=
 calls_of_vc (fn:=Tryz.f174) (c:=c174) (n:=10) Tryz.func174 (by kernel_rfl) (by kernel_rfl) (by kernel_rfl) ms174 (Eq.mpr (by kernel_rfl) h)
def c156:Code:=(Tryz.f156.body).getD .skip
def ms156:List (List Nat):=[[]]
def m156(x0 x1:AV)(S:Store)(Q:PoT):Prop:=
 boxN 169 1 x0 S fun a S=>boxN 3 1 x1 S fun c S=>ld1 a S fun d S=>nilChk d S fun e S=>shift e 0 S fun g S=>shift g 5 S fun h S=>ld1 h S fun i S=>callF Pg 132 [i,(.f (.func 174) [] [a,c])] S Q fun k S=>un .not k S fun l S=>Q (.ret l) S
theorem calls156{x0 x1:AV}{S:Store}{Q:PoT}(h:m156 x0 x1 S Q):ACalls Pg 156 [x0,x1] S Q:=
 calls_of_vc (fn:=Tryz.f156) (c:=c156) (n:=13) Tryz.func156 (by kernel_rfl) (by kernel_rfl) (by kernel_rfl) ms156 (Eq.mpr (by kernel_rfl) h)
def c175:Code:=(Tryz.f175.body).getD .skip
def r175:List ResultVar:=Tryz.f175.results.toList
def env175_0(y0 y1 y4 y11 y12 y13:AV):List AV:=[y0,y1,y4,y11,y12,y13]
def lv175_0:List Nat:=[0,1,4,11,12,13]
def ms175:List (List Nat):=[lv175_0,[]]
def m175(x0 x1:AV)(S:Store)(Q:PoT):Prop:=
 nilChk x0 S fun a S=>shift a 0 S fun c S=>shift c 1 S fun d S=>ld1 d S fun e S=>lenS e S fun f S=>loopV lv175_0 (vc Pg (c175.at_ [1,0,1,0,0]) (ms175.drop 1)) 35 (env175_0 x0 x1 (.v (.int .i64 0)) e f (.v (.int .i64 0))) S (blockK 0 (seqK (vc Pg (c175.at_ [1,1]) (ms175.drop 1)) (bodyK Pg r175 Q)))
theorem calls175{x0 x1:AV}{S:Store}{Q:PoT}(h:m175 x0 x1 S Q):ACalls Pg 175 [x0,x1] S Q:=
 calls_of_vc (fn:=Tryz.f175) (c:=c175) (n:=35) Tryz.func175 (by kernel_rfl) (by kernel_rfl) (by kernel_rfl) ms175 (Eq.mpr (by kernel_rfl) h)
def b175_0(y0 y1 y4 y11 y12 y13:AV)(S:Store)(KE0:KeT)(Q:PoT):Prop:=
 bin .lss 0 y13 y12 S fun c S=>onB c fun b=>gd b (ixS 66 2 y11 y13 S fun d S=>ldN 2 d S fun e S=>boxN 66 2 (.a [.v (.int .i64 0),.v (.int .i64 0)]) S fun f S=>stN 2 f e S fun g S=>shift f 0 S fun h S=>ld1 h S fun i S=>callF Pg 160 [y0,y1,i] S Q fun k S=>onB k fun b=>gd b (nilChk y0 S fun l S=>shift l 0 S fun m S=>shift m 0 S fun n S=>ld1 n S fun o S=>bin .add 0 o y13 S fun p S=>bin .shl 0 (.v (.int .i64 1)) p S fun q S=>bin .or 0 y4 q S fun r S=>bin .add 0 y13 (.v (.int .i64 1)) S fun s S=>KE0 35 (env175_0 y0 y1 r y11 y12 s) S) (bin .add 0 y13 (.v (.int .i64 1)) S fun t S=>KE0 35 (env175_0 y0 y1 y4 y11 y12 t) S)) (Q (.ret y4) S)
theorem b175_0_eq(y0 y1 y4 y11 y12 y13:AV)(S:Store)(KE0:KeT)(Q:PoT):vc Pg (c175.at_ [1,0,1,0,0]) (ms175.drop 1) (mkE 35 lv175_0 (env175_0 y0 y1 y4 y11 y12 y13)) S (thenK (fgK lv175_0 KE0) (blockK 0 (seqK (vc Pg (c175.at_ [1,1]) (ms175.drop 1)) (bodyK Pg r175 Q))))=b175_0 y0 y1 y4 y11 y12 y13 S KE0 Q:=by kernel_rfl
theorem loop175_0{y0 y1 y11 y12:AV}{y40 y130:AV}{S:Store}{Q:PoT}(I:AV→AV→Store→Prop)(μ:AV→AV→Store→Nat)(h0:I y40 y130 S)
    (hr:∀(y4 y13:AV) (S:Store),I y4 y13 S→∀ KE0:KeT,(∀(y4' y13':AV) (S':Store),I y4' y13' S'→μ y4' y13' S'<μ y4 y13 S→KE0 35 (env175_0 y0 y1 y4' y11 y12 y13') S')→b175_0 y0 y1 y4 y11 y12 y13 S KE0 Q):
    loopV lv175_0 (vc Pg (c175.at_ [1,0,1,0,0]) (ms175.drop 1)) 35 (env175_0 y0 y1 y40 y11 y12 y130) S (blockK 0 (seqK (vc Pg (c175.at_ [1,1]) (ms175.drop 1)) (bodyK Pg r175 Q))):=by
 refine⟨fun n e S=>n=35∧∃ y4 y13:AV,e=(env175_0 y0 y1 y4 y11 y12 y13)∧I y4 y13 S,fun _ e S=>μ (e.getD 2 .j) (e.getD 5 .j) S,?_,?_⟩
 ·exact⟨_,_,Wk.refl _ _,rfl,_,_,rfl,h0⟩
 ·rintro _ e S ⟨rfl,y4,y13,rfl,hI⟩
  exact(b175_0_eq _ _ _ _ _ _ _ _ _).mpr (hr y4 y13 S hI _ (fun y4' y13' S' hI' hm=>⟨_,_,Wk.refl _ _,⟨rfl,_,_,rfl,hI'⟩,hm⟩))
def c158:Code:=(Tryz.f158.body).getD .skip
def r158:List ResultVar:=Tryz.f158.results.toList
def env158_0(y0 y1 y11 y12 y13:AV):List AV:=[y0,y1,y11,y12,y13]
def lv158_0:List Nat:=[0,1,11,12,13]
def ms158:List (List Nat):=[lv158_0,[]]
def m158(x0 x1:AV)(S:Store)(Q:PoT):Prop:=
 nilChk x0 S fun a S=>shift a 0 S fun c S=>shift c 1 S fun d S=>ld1 d S fun e S=>lenS e S fun f S=>loopV lv158_0 (vc Pg (c158.at_ [1,0,1,0,0]) (ms158.drop 1)) 37 (env158_0 x0 x1 e f (.v (.int .i64 0))) S (blockK 0 (seqK (vc Pg (c158.at_ [1,1]) (ms158.drop 1)) (bodyK Pg r158 Q)))
theorem calls158{x0 x1:AV}{S:Store}{Q:PoT}(h:m158 x0 x1 S Q):ACalls Pg 158 [x0,x1] S Q:=
 calls_of_vc (fn:=Tryz.f158) (c:=c158) (n:=37) Tryz.func158 (by kernel_rfl) (by kernel_rfl) (by kernel_rfl) ms158 (Eq.mpr (by kernel_rfl) h)
def b158_0(y0 y1 y11 y12 y13:AV)(S:Store)(KE0:KeT)(Q:PoT):Prop:=
 bin .lss 0 y13 y12 S fun c S=>onB c fun b=>gd b (ixS 66 2 y11 y13 S fun d S=>ldN 2 d S fun e S=>boxN 66 2 (.a [.v (.int .i64 0),.v (.int .i64 0)]) S fun f S=>stN 2 f e S fun g S=>(fun S0:Store=>∃ h:AV,(shift f 1 S fun i S=>i=h∧S=S0)∧∃ k:AV,(ld1 h S fun l S=>l=k∧S=S0)∧∃ m:AV,(bin .neq 0 k (.v (.int .i64 2)) S fun n S=>n=m∧S=S0)∧onB m fun b=>gd b (∃ o:AV,(nilChk y0 S fun p S=>p=o∧S=S0)∧∃ q:AV,(shift o 0 S fun r S=>r=q∧S=S0)∧∃ s:AV,(shift q 0 S fun t S=>t=s∧S=S0)∧∃ u:AV,(ld1 s S fun w S=>w=u∧S=S0)∧∃ x:AV,(bin .add 0 u y13 S fun y S=>y=x∧S=S0)∧∃ z:AV,(bin .shr 0 y1 x S fun A S=>A=z∧S=S0)∧∃ B:AV,(bin .and 0 z (.v (.int .i64 1)) S fun C S=>C=B∧S=S0)∧∃ D:AV,(shift f 1 S fun E S=>E=D∧S=S0)∧∃ F:AV,(ld1 D S fun G S=>G=F∧S=S0)∧∃ H:AV,(bin .neq 0 B F S fun I S=>I=H∧S=S0)∧∃ J:AV,(H=J∧S=S0)∧onB J fun b=>gd b (Q (.ret (.v (.bool false))) S) (bin .add 0 y13 (.v (.int .i64 1)) S fun K S=>KE0 37 (env158_0 y0 y1 y11 y12 K) S)) (∃ L:AV,((.v (.bool false))=L∧S=S0)∧onB L fun b=>gd b (Q (.ret (.v (.bool false))) S) (bin .add 0 y13 (.v (.int .i64 1)) S fun M S=>KE0 37 (env158_0 y0 y1 y11 y12 M) S))) S) (Q (.ret (.v (.bool true))) S)
theorem b158_0_eq(y0 y1 y11 y12 y13:AV)(S:Store)(KE0:KeT)(Q:PoT):vc Pg (c158.at_ [1,0,1,0,0]) (ms158.drop 1) (mkE 37 lv158_0 (env158_0 y0 y1 y11 y12 y13)) S (thenK (fgK lv158_0 KE0) (blockK 0 (seqK (vc Pg (c158.at_ [1,1]) (ms158.drop 1)) (bodyK Pg r158 Q))))=b158_0 y0 y1 y11 y12 y13 S KE0 Q:=by kernel_rfl
theorem loop158_0{y0 y1 y11 y12:AV}{y130:AV}{S:Store}{Q:PoT}(I:AV→Store→Prop)(μ:AV→Store→Nat)(h0:I y130 S)
    (hr:∀(y13:AV) (S:Store),I y13 S→∀ KE0:KeT,(∀(y13':AV) (S':Store),I y13' S'→μ y13' S'<μ y13 S→KE0 37 (env158_0 y0 y1 y11 y12 y13') S')→b158_0 y0 y1 y11 y12 y13 S KE0 Q):
    loopV lv158_0 (vc Pg (c158.at_ [1,0,1,0,0]) (ms158.drop 1)) 37 (env158_0 y0 y1 y11 y12 y130) S (blockK 0 (seqK (vc Pg (c158.at_ [1,1]) (ms158.drop 1)) (bodyK Pg r158 Q))):=by
 refine⟨fun n e S=>n=37∧∃ y13:AV,e=(env158_0 y0 y1 y11 y12 y13)∧I y13 S,fun _ e S=>μ (e.getD 4 .j) S,?_,?_⟩
 ·exact⟨_,_,Wk.refl _ _,rfl,_,rfl,h0⟩
 ·rintro _ e S ⟨rfl,y13,rfl,hI⟩
  exact(b158_0_eq _ _ _ _ _ _ _ _).mpr (hr y13 S hI _ (fun y13' S' hI' hm=>⟨_,_,Wk.refl _ _,⟨rfl,_,rfl,hI'⟩,hm⟩))
def c116:Code:=(Tryz.f116.body).getD .skip
def r116:List ResultVar:=Tryz.f116.results.toList
def env116_0(y0 y1 y5 y6:AV):List AV:=[y0,y1,y5,y6]
def lv116_0:List Nat:=[0,1,5,6]
def ms116:List (List Nat):=[lv116_0,[]]
def m116(x0 x1:AV)(S:Store)(Q:PoT):Prop:=
 loopV lv116_0 (vc Pg (c116.at_ [1,1,0,1,0,0]) (ms116.drop 1)) 21 (env116_0 x0 x1 .nl (.v (.int .i64 0))) S (blockK 0 (seqK (vc Pg (c116.at_ [1,1,1]) (ms116.drop 1)) (bodyK Pg r116 Q)))
theorem calls116{x0 x1:AV}{S:Store}{Q:PoT}(h:m116 x0 x1 S Q):ACalls Pg 116 [x0,x1] S Q:=
 calls_of_vc (fn:=Tryz.f116) (c:=c116) (n:=21) Tryz.func116 (by kernel_rfl) (by kernel_rfl) (by kernel_rfl) ms116 (Eq.mpr (by kernel_rfl) h)
def b116_0(y0 y1 y5 y6:AV)(S:Store)(KE0:KeT)(Q:PoT):Prop:=
 bin .lss 0 y6 y1 S fun a S=>onB a fun b=>gd b (bin .shr 0 y0 y6 S fun c S=>bin .and 0 c (.v (.int .i64 1)) S fun d S=>bin .eql 0 d (.v (.int .i64 1)) S fun e S=>bslN 4 1 1 [.v (.bool false)] [(0,e)] S fun f S=>appS 4 1 1 y5 f S fun g S=>bin .add 0 y6 (.v (.int .i64 1)) S fun h S=>KE0 21 (env116_0 y0 y1 g h) S) (Q (.ret y5) S)
theorem b116_0_eq(y0 y1 y5 y6:AV)(S:Store)(KE0:KeT)(Q:PoT):vc Pg (c116.at_ [1,1,0,1,0,0]) (ms116.drop 1) (mkE 21 lv116_0 (env116_0 y0 y1 y5 y6)) S (thenK (fgK lv116_0 KE0) (blockK 0 (seqK (vc Pg (c116.at_ [1,1,1]) (ms116.drop 1)) (bodyK Pg r116 Q))))=b116_0 y0 y1 y5 y6 S KE0 Q:=by kernel_rfl
theorem loop116_0{y0 y1:AV}{y50 y60:AV}{S:Store}{Q:PoT}(I:AV→AV→Store→Prop)(μ:AV→AV→Store→Nat)(h0:I y50 y60 S)
    (hr:∀(y5 y6:AV) (S:Store),I y5 y6 S→∀ KE0:KeT,(∀(y5' y6':AV) (S':Store),I y5' y6' S'→μ y5' y6' S'<μ y5 y6 S→KE0 21 (env116_0 y0 y1 y5' y6') S')→b116_0 y0 y1 y5 y6 S KE0 Q):
    loopV lv116_0 (vc Pg (c116.at_ [1,1,0,1,0,0]) (ms116.drop 1)) 21 (env116_0 y0 y1 y50 y60) S (blockK 0 (seqK (vc Pg (c116.at_ [1,1,1]) (ms116.drop 1)) (bodyK Pg r116 Q))):=by
 refine⟨fun n e S=>n=21∧∃ y5 y6:AV,e=(env116_0 y0 y1 y5 y6)∧I y5 y6 S,fun _ e S=>μ (e.getD 2 .j) (e.getD 3 .j) S,?_,?_⟩
 ·exact⟨_,_,Wk.refl _ _,rfl,_,_,rfl,h0⟩
 ·rintro _ e S ⟨rfl,y5,y6,rfl,hI⟩
  exact(b116_0_eq _ _ _ _ _ _ _).mpr (hr y5 y6 S hI _ (fun y5' y6' S' hI' hm=>⟨_,_,Wk.refl _ _,⟨rfl,_,_,rfl,hI'⟩,hm⟩))
def c68:Code:=(Tryz.f68.body).getD .skip
def ms68:List (List Nat):=[[]]
def m68(x0 x1 x2:AV)(S:Store)(Q:PoT):Prop:=
 boxN 42 8 x0 S fun a S=>ldN 8 a S fun c S=>callF Pg 65 [c] S Q fun d S=>un .not d S fun e S=>onB e fun b=>gd b (Q (.ret (.v (.bool false))) S) (ldN 8 a S fun f S=>callF Pg 41 [f] S Q fun g S=>part1 g 0 S fun h S=>bin .gtr 0 h (.v (.int .i64 60)) S fun i S=>onB i fun b=>gd b (Q (.ret (.v (.bool false))) S) ((fun S0:Store=>∃ k:AV,(ldN 8 a S fun l S=>l=k∧S=S0)∧∃ m:AV,(callF Pg 41 [k] S (fun _ _=>False) fun n S=>n=m∧S=S0)∧∃ o:AV,(ldN 8 a S fun p S=>p=o∧S=S0)∧∃ q:AV,(callF Pg 41 [o] S (fun _ _=>False) fun r S=>r=q∧S=S0)∧∃ s:AV,(part1 q 0 S fun t S=>t=s∧S=S0)∧∃ u:AV,(callF Pg 116 [x1,s] S (fun _ _=>False) fun w S=>w=u∧S=S0)∧∃ x:AV,(callF Pg 115 [m,x2,u] S (fun _ _=>False) fun y S=>y=x∧S=S0)∧Q (.ret x) S) S))
theorem calls68{x0 x1 x2:AV}{S:Store}{Q:PoT}(h:m68 x0 x1 x2 S Q):ACalls Pg 68 [x0,x1,x2] S Q:=
 calls_of_vc (fn:=Tryz.f68) (c:=c68) (n:=25) Tryz.func68 (by kernel_rfl) (by kernel_rfl) (by kernel_rfl) ms68 (Eq.mpr (by kernel_rfl) h)
def c59:Code:=(Tryz.f59.body).getD .skip
def r59:List ResultVar:=Tryz.f59.results.toList
def env59_0(y1 y2 y5 y6:AV):List AV:=[y1,y2,y5,y6]
def lv59_0:List Nat:=[1,2,5,6]
def ms59:List (List Nat):=[lv59_0,[]]
def m59(x0 x1:AV)(S:Store)(Q:PoT):Prop:=
 boxN 42 8 x0 S fun a S=>ldN 8 a S fun c S=>callF Pg 65 [c] S Q fun d S=>un .not d S fun e S=>onB e fun b=>gd b (Q (.ret (.v (.int .i64 0))) S) (ldN 8 a S fun f S=>callF Pg 41 [f] S Q fun g S=>part1 g 0 S fun h S=>bin .gtr 0 h (.v (.int .i64 60)) S fun i S=>onB i fun b=>gd b (Q (.ret (.v (.int .i64 0))) S) (loopV lv59_0 (vc Pg (c59.at_ [1,1,1,0,1,0,0]) (ms59.drop 1)) 40 (env59_0 x1 a (.v (.int .i64 0)) (.v (.int .i64 0))) S (blockK 0 (seqK (vc Pg (c59.at_ [1,1,1,1]) (ms59.drop 1)) (bodyK Pg r59 Q)))))
theorem calls59{x0 x1:AV}{S:Store}{Q:PoT}(h:m59 x0 x1 S Q):ACalls Pg 59 [x0,x1] S Q:=
 calls_of_vc (fn:=Tryz.f59) (c:=c59) (n:=40) Tryz.func59 (by kernel_rfl) (by kernel_rfl) (by kernel_rfl) ms59 (Eq.mpr (by kernel_rfl) h)
def b59_0(y1 y2 y5 y6:AV)(S:Store)(KE0:KeT)(Q:PoT):Prop:=
 shift y2 1 S fun a S=>ld1 a S fun c S=>lenS c S fun d S=>bin .lss 0 y6 d S fun e S=>onB e fun b=>gd b ((fun S0:Store=>∃ f:AV,(ldN 8 y2 S fun g S=>g=f∧S=S0)∧∃ h:AV,(shift y2 1 S fun i S=>i=h∧S=S0)∧∃ k:AV,(ld1 h S fun l S=>l=k∧S=S0)∧∃ m:AV,(ixS 66 2 k y6 S fun n S=>n=m∧S=S0)∧∃ o:AV,(shift m 0 S fun p S=>p=o∧S=S0)∧∃ q:AV,(ld1 o S fun r S=>r=q∧S=S0)∧∃ s:AV,(callF Pg 68 [f,y1,q] S (fun _ _=>False) fun t S=>t=s∧S=S0)∧onB s fun b=>gd b (shift y2 0 S fun u S=>ld1 u S fun w S=>bin .add 0 w y6 S fun x S=>bin .shl 0 (.v (.int .i64 1)) x S fun y S=>bin .add 0 y5 y S fun z S=>bin .add 0 y6 (.v (.int .i64 1)) S fun A S=>KE0 40 (env59_0 y1 y2 z A) S) (bin .add 0 y6 (.v (.int .i64 1)) S fun B S=>KE0 40 (env59_0 y1 y2 y5 B) S)) S) (Q (.ret y5) S)
theorem b59_0_eq(y1 y2 y5 y6:AV)(S:Store)(KE0:KeT)(Q:PoT):vc Pg (c59.at_ [1,1,1,0,1,0,0]) (ms59.drop 1) (mkE 40 lv59_0 (env59_0 y1 y2 y5 y6)) S (thenK (fgK lv59_0 KE0) (blockK 0 (seqK (vc Pg (c59.at_ [1,1,1,1]) (ms59.drop 1)) (bodyK Pg r59 Q))))=b59_0 y1 y2 y5 y6 S KE0 Q:=by kernel_rfl
theorem loop59_0{y1 y2:AV}{y50 y60:AV}{S:Store}{Q:PoT}(I:AV→AV→Store→Prop)(μ:AV→AV→Store→Nat)(h0:I y50 y60 S)
    (hr:∀(y5 y6:AV) (S:Store),I y5 y6 S→∀ KE0:KeT,(∀(y5' y6':AV) (S':Store),I y5' y6' S'→μ y5' y6' S'<μ y5 y6 S→KE0 40 (env59_0 y1 y2 y5' y6') S')→b59_0 y1 y2 y5 y6 S KE0 Q):
    loopV lv59_0 (vc Pg (c59.at_ [1,1,1,0,1,0,0]) (ms59.drop 1)) 40 (env59_0 y1 y2 y50 y60) S (blockK 0 (seqK (vc Pg (c59.at_ [1,1,1,1]) (ms59.drop 1)) (bodyK Pg r59 Q))):=by
 refine⟨fun n e S=>n=40∧∃ y5 y6:AV,e=(env59_0 y1 y2 y5 y6)∧I y5 y6 S,fun _ e S=>μ (e.getD 2 .j) (e.getD 3 .j) S,?_,?_⟩
 ·exact⟨_,_,Wk.refl _ _,rfl,_,_,rfl,h0⟩
 ·rintro _ e S ⟨rfl,y5,y6,rfl,hI⟩
  exact(b59_0_eq _ _ _ _ _ _ _).mpr (hr y5 y6 S hI _ (fun y5' y6' S' hI' hm=>⟨_,_,Wk.refl _ _,⟨rfl,_,_,rfl,hI'⟩,hm⟩))
def c173:Code:=(Tryz.f173.body).getD .skip
def ms173:List (List Nat):=[[]]
def m173(x0 x1:AV)(S:Store)(Q:PoT):Prop:=
 ld1 x1 S fun a S=>bin .shr 0 x0 (.v (.int .u64 1)) S fun c S=>ixS 4 1 a c S fun d S=>ld1 d S fun e S=>bin .and 0 x0 (.v (.int .i64 1)) S fun f S=>bin .eql 0 f (.v (.int .i64 1)) S fun g S=>bin .neq 1 e g S fun h S=>Q (.ret h) S
theorem calls173{x0 x1:AV}{S:Store}{Q:PoT}(h:m173 x0 x1 S Q):ACalls Pg 173 [x0,x1] S Q:=
 calls_of_vc (fn:=Tryz.f173) (c:=c173) (n:=13) Tryz.func173 (by kernel_rfl) (by kernel_rfl) (by kernel_rfl) ms173 (Eq.mpr (by kernel_rfl) h)
def c154:Code:=(Tryz.f154.body).getD .skip
def r154:List ResultVar:=Tryz.f154.results.toList
def env154_0(y5 y6 y32 y33 y34:AV):List AV:=[y5,y6,y32,y33,y34]
def lv154_0:List Nat:=[5,6,32,33,34]
def ms154:List (List Nat):=[lv154_0,[]]
def m154(x0 x1:AV)(S:Store)(Q:PoT):Prop:=
 boxN 82 2 x0 S fun a S=>ldN 2 a S fun c S=>callF Pg 130 [c] S Q fun d S=>un .not d S fun e S=>onB e fun b=>gd b (Q (.ret .nl) S) (lenS x1 S fun g S=>shift a 0 S fun h S=>ld1 h S fun i S=>bin .neq 0 g i S fun k S=>onB k fun b=>gd b (Q (.ret .nl) S) (shift a 0 S fun l S=>ld1 l S fun m S=>bin .add 0 m (.v (.int .i64 1)) S fun n S=>shift a 1 S fun o S=>ld1 o S fun p S=>lenS p S fun q S=>bin .add 0 n q S fun r S=>mkN 4 1 [.v (.bool false)] (.v (.int .i64 1)) r S fun s S=>boxN 53 1 .nl S fun t S=>stN 1 t s S fun u S=>ld1 t S fun w S=>appS 4 1 1 w x1 S fun x S=>stN 1 t x S fun y S=>shift a 1 S fun z S=>ld1 z S fun A S=>lenS A S fun B S=>loopV lv154_0 (vc Pg (c154.at_ [1,1,1,1,1,0,1,0,0]) (ms154.drop 1)) 53 (env154_0 t (.f (.func 173) [] [t]) A B (.v (.int .i64 0))) S (blockK 0 (seqK (vc Pg (c154.at_ [1,1,1,1,1,1]) (ms154.drop 1)) (bodyK Pg r154 Q)))))
theorem calls154{x0 x1:AV}{S:Store}{Q:PoT}(h:m154 x0 x1 S Q):ACalls Pg 154 [x0,x1] S Q:=
 calls_of_vc (fn:=Tryz.f154) (c:=c154) (n:=53) Tryz.func154 (by kernel_rfl) (by kernel_rfl) (by kernel_rfl) ms154 (Eq.mpr (by kernel_rfl) h)
def b154_0(y5 y6 y32 y33 y34:AV)(S:Store)(KE0:KeT)(Q:PoT):Prop:=
 bin .lss 0 y34 y33 S fun c S=>onB c fun b=>gd b (ixS 124 2 y32 y34 S fun d S=>ldN 2 d S fun e S=>boxN 124 2 (.a [.v (.int .i64 0),.v (.int .i64 0)]) S fun f S=>stN 2 f e S fun g S=>∃ h:AV,(∀ T:Store,Keep S T→ld1 y5 T fun i S=>i=h∧S=T)∧∃ k:AV,(∀ T:Store,Keep S T→ixA 2 1 f (.v (.int .i64 0)) T fun l S=>l=k∧S=T)∧∃ m:AV,(∀ T:Store,Keep S T→ld1 k T fun n S=>n=m∧S=T)∧∃ o:AV,(∀ T:Store,Keep S T→callV Pg y6 [m] T (fun p S=>p=o∧S=T) (fun u S=>False))∧onB o fun b=>gd b (∃ q:AV,(∀ T:Store,Keep S T→ixA 2 1 f (.v (.int .i64 1)) T fun r S=>r=q∧S=T)∧∃ s:AV,(∀ T:Store,Keep S T→ld1 q T fun t S=>t=s∧S=T)∧∃ w:AV,(∀ T:Store,Keep S T→callV Pg y6 [s] T (fun x S=>x=w∧S=T) (fun u S=>False))∧∃ y:AV,(∀ T:Store,Keep S T→w=y∧T=T)∧∃ z:AV,(∀ T:Store,Keep S T→bslN 4 1 1 [.v (.bool false)] [(0,y)] T fun A S=>A=z∧S=T)∧appS 4 1 1 h z S fun B S=>stN 1 y5 B S fun C S=>bin .add 0 y34 (.v (.int .i64 1)) S fun D S=>KE0 53 (env154_0 y5 y6 y32 y33 D) S) (∃ E:AV,(∀ T:Store,Keep S T→(.v (.bool false))=E∧T=T)∧∃ F:AV,(∀ T:Store,Keep S T→bslN 4 1 1 [.v (.bool false)] [(0,E)] T fun G S=>G=F∧S=T)∧appS 4 1 1 h F S fun H S=>stN 1 y5 H S fun I S=>bin .add 0 y34 (.v (.int .i64 1)) S fun J S=>KE0 53 (env154_0 y5 y6 y32 y33 J) S)) (ld1 y5 S fun K S=>Q (.ret K) S)
theorem b154_0_eq(y5 y6 y32 y33 y34:AV)(S:Store)(KE0:KeT)(Q:PoT):vc Pg (c154.at_ [1,1,1,1,1,0,1,0,0]) (ms154.drop 1) (mkE 53 lv154_0 (env154_0 y5 y6 y32 y33 y34)) S (thenK (fgK lv154_0 KE0) (blockK 0 (seqK (vc Pg (c154.at_ [1,1,1,1,1,1]) (ms154.drop 1)) (bodyK Pg r154 Q))))=b154_0 y5 y6 y32 y33 y34 S KE0 Q:=by kernel_rfl
theorem loop154_0{y5 y6 y32 y33:AV}{y340:AV}{S:Store}{Q:PoT}(I:AV→Store→Prop)(μ:AV→Store→Nat)(h0:I y340 S)
    (hr:∀(y34:AV) (S:Store),I y34 S→∀ KE0:KeT,(∀(y34':AV) (S':Store),I y34' S'→μ y34' S'<μ y34 S→KE0 53 (env154_0 y5 y6 y32 y33 y34') S')→b154_0 y5 y6 y32 y33 y34 S KE0 Q):
    loopV lv154_0 (vc Pg (c154.at_ [1,1,1,1,1,0,1,0,0]) (ms154.drop 1)) 53 (env154_0 y5 y6 y32 y33 y340) S (blockK 0 (seqK (vc Pg (c154.at_ [1,1,1,1,1,1]) (ms154.drop 1)) (bodyK Pg r154 Q))):=by
 refine⟨fun n e S=>n=53∧∃ y34:AV,e=(env154_0 y5 y6 y32 y33 y34)∧I y34 S,fun _ e S=>μ (e.getD 4 .j) S,?_,?_⟩
 ·exact⟨_,_,Wk.refl _ _,rfl,_,rfl,h0⟩
 ·rintro _ e S ⟨rfl,y34,rfl,hI⟩
  exact(b154_0_eq _ _ _ _ _ _ _ _).mpr (hr y34 S hI _ (fun y34' S' hI' hm=>⟨_,_,Wk.refl _ _,⟨rfl,_,rfl,hI'⟩,hm⟩))
def c153:Code:=(Tryz.f153.body).getD .skip
def ms153:List (List Nat):=[[]]
def m153(x0 x1:AV)(S:Store)(Q:PoT):Prop:=
 bin .quo 0 x1 (.v (.int .i64 2)) S fun a S=>ixS 4 1 x0 a S fun c S=>ld1 c S fun d S=>bin .rem 0 x1 (.v (.int .i64 2)) S fun e S=>bin .eql 0 e (.v (.int .i64 1)) S fun f S=>bin .neq 1 d f S fun g S=>Q (.ret g) S
theorem calls153{x0 x1:AV}{S:Store}{Q:PoT}(h:m153 x0 x1 S Q):ACalls Pg 153 [x0,x1] S Q:=
 calls_of_vc (fn:=Tryz.f153) (c:=c153) (n:=14) Tryz.func153 (by kernel_rfl) (by kernel_rfl) (by kernel_rfl) ms153 (Eq.mpr (by kernel_rfl) h)
def c152:Code:=(Tryz.f152.body).getD .skip
def r152:List ResultVar:=Tryz.f152.results.toList
def env152_0(y2 y5 y6:AV):List AV:=[y2,y5,y6]
def lv152_0:List Nat:=[2,5,6]
def ms152:List (List Nat):=[lv152_0,[]]
def m152(x0 x1:AV)(S:Store)(Q:PoT):Prop:=
 boxN 82 2 x0 S fun a S=>ldN 2 a S fun c S=>callF Pg 111 [c] S Q fun d S=>un .not d S fun e S=>onB e fun b=>gd b (Q (.ret .nl) S) (lenS x1 S fun f S=>shift a 0 S fun g S=>ld1 g S fun h S=>bin .neq 0 f h S fun i S=>onB i fun b=>gd b (Q (.ret .nl) S) (bslN 4 1 1 [.v (.bool false)] [(0,(.v (.bool false)))] S fun k S=>appS 4 1 1 k x1 S fun l S=>loopV lv152_0 (vc Pg (c152.at_ [1,1,1,0,1,0,0]) (ms152.drop 1)) 49 (env152_0 a l (.v (.int .i64 0))) S (blockK 0 (seqK (vc Pg (c152.at_ [1,1,1,1]) (ms152.drop 1)) (bodyK Pg r152 Q)))))
theorem calls152{x0 x1:AV}{S:Store}{Q:PoT}(h:m152 x0 x1 S Q):ACalls Pg 152 [x0,x1] S Q:=
 calls_of_vc (fn:=Tryz.f152) (c:=c152) (n:=49) Tryz.func152 (by kernel_rfl) (by kernel_rfl) (by kernel_rfl) ms152 (Eq.mpr (by kernel_rfl) h)
def b152_0(y2 y5 y6:AV)(S:Store)(KE0:KeT)(Q:PoT):Prop:=
 shift y2 1 S fun a S=>ld1 a S fun c S=>lenS c S fun d S=>bin .lss 0 y6 d S fun e S=>onB e fun b=>gd b (shift y2 1 S fun f S=>ld1 f S fun g S=>ixS 124 2 g y6 S fun h S=>ixA 2 1 h (.v (.int .i64 0)) S fun i S=>ld1 i S fun k S=>callF Pg 153 [y5,k] S Q fun l S=>onB l fun b=>gd b (shift y2 1 S fun m S=>ld1 m S fun n S=>ixS 124 2 n y6 S fun o S=>ixA 2 1 o (.v (.int .i64 1)) S fun p S=>ld1 p S fun q S=>callF Pg 153 [y5,q] S Q fun r S=>bslN 4 1 1 [.v (.bool false)] [(0,r)] S fun s S=>appS 4 1 1 y5 s S fun t S=>bin .add 0 y6 (.v (.int .i64 1)) S fun u S=>KE0 49 (env152_0 y2 t u) S) (bslN 4 1 1 [.v (.bool false)] [(0,(.v (.bool false)))] S fun w S=>appS 4 1 1 y5 w S fun x S=>bin .add 0 y6 (.v (.int .i64 1)) S fun y S=>KE0 49 (env152_0 y2 x y) S)) (Q (.ret y5) S)
theorem b152_0_eq(y2 y5 y6:AV)(S:Store)(KE0:KeT)(Q:PoT):vc Pg (c152.at_ [1,1,1,0,1,0,0]) (ms152.drop 1) (mkE 49 lv152_0 (env152_0 y2 y5 y6)) S (thenK (fgK lv152_0 KE0) (blockK 0 (seqK (vc Pg (c152.at_ [1,1,1,1]) (ms152.drop 1)) (bodyK Pg r152 Q))))=b152_0 y2 y5 y6 S KE0 Q:=by kernel_rfl
theorem loop152_0{y2:AV}{y50 y60:AV}{S:Store}{Q:PoT}(I:AV→AV→Store→Prop)(μ:AV→AV→Store→Nat)(h0:I y50 y60 S)
    (hr:∀(y5 y6:AV) (S:Store),I y5 y6 S→∀ KE0:KeT,(∀(y5' y6':AV) (S':Store),I y5' y6' S'→μ y5' y6' S'<μ y5 y6 S→KE0 49 (env152_0 y2 y5' y6') S')→b152_0 y2 y5 y6 S KE0 Q):
    loopV lv152_0 (vc Pg (c152.at_ [1,1,1,0,1,0,0]) (ms152.drop 1)) 49 (env152_0 y2 y50 y60) S (blockK 0 (seqK (vc Pg (c152.at_ [1,1,1,1]) (ms152.drop 1)) (bodyK Pg r152 Q))):=by
 refine⟨fun n e S=>n=49∧∃ y5 y6:AV,e=(env152_0 y2 y5 y6)∧I y5 y6 S,fun _ e S=>μ (e.getD 1 .j) (e.getD 2 .j) S,?_,?_⟩
 ·exact⟨_,_,Wk.refl _ _,rfl,_,_,rfl,h0⟩
 ·rintro _ e S ⟨rfl,y5,y6,rfl,hI⟩
  exact(b152_0_eq _ _ _ _ _ _).mpr (hr y5 y6 S hI _ (fun y5' y6' S' hI' hm=>⟨_,_,Wk.refl _ _,⟨rfl,_,_,rfl,hI'⟩,hm⟩))
def c115:Code:=(Tryz.f115.body).getD .skip
def ms115:List (List Nat):=[[]]
def m115(x0 x1 x2:AV)(S:Store)(Q:PoT):Prop:=
 boxN 82 2 x0 S fun a S=>ldN 2 a S fun c S=>callF Pg 152 [c,x2] S Q fun d S=>lenS d S fun e S=>bin .gtr 0 e (.v (.int .i64 0)) S fun f S=>onB f fun b=>gd b (ldN 2 a S fun g S=>callF Pg 112 [g,x1] S Q fun h S=>onB h fun b=>gd b (callF Pg 153 [d,x1] S Q fun i S=>Q (.ret i) S) (Q (.ret (.v (.bool false))) S)) (Q (.ret (.v (.bool false))) S)
theorem calls115{x0 x1 x2:AV}{S:Store}{Q:PoT}(h:m115 x0 x1 x2 S Q):ACalls Pg 115 [x0,x1,x2] S Q:=
 calls_of_vc (fn:=Tryz.f115) (c:=c115) (n:=24) Tryz.func115 (by kernel_rfl) (by kernel_rfl) (by kernel_rfl) ms115 (Eq.mpr (by kernel_rfl) h)
def c65:Code:=(Tryz.f65.body).getD .skip
def r65:List ResultVar:=Tryz.f65.results.toList
def env65_0(y1 y3 y4:AV):List AV:=[y1,y3,y4]
def lv65_0:List Nat:=[1,3,4]
def ms65:List (List Nat):=[lv65_0,[]]
def m65(x0:AV)(S:Store)(Q:PoT):Prop:=
 boxN 42 8 x0 S fun c S=>ldN 8 c S fun d S=>callF Pg 41 [d] S Q fun e S=>boxN 82 2 (.a [.v (.int .i64 0),.nl]) S fun f S=>stN 2 f e S fun g S=>shift c 0 S fun h S=>ld1 h S fun i S=>bin .lss 0 i (.v (.int .i64 0)) S fun k S=>onB k fun b=>gd b (Q (.ret (.v (.bool false))) S) (shift c 0 S fun l S=>ld1 l S fun m S=>bin .gtr 0 m (.v (.int .i64 2000)) S fun n S=>onB n fun b=>gd b (Q (.ret (.v (.bool false))) S) (shift c 1 S fun o S=>ld1 o S fun p S=>lenS p S fun q S=>bin .gtr 0 q (.v (.int .i64 2000)) S fun r S=>onB r fun b=>gd b (Q (.ret (.v (.bool false))) S) (ldN 2 f S fun s S=>callF Pg 111 [s] S Q fun t S=>un .not t S fun u S=>onB u fun b=>gd b (Q (.ret (.v (.bool false))) S) (loopV lv65_0 (vc Pg (c65.at_ [1,1,1,0,1,0,0]) (ms65.drop 1)) 86 (env65_0 c f (.v (.int .i64 0))) S (blockK 0 (seqK (vc Pg (c65.at_ [1,1,1,1]) (ms65.drop 1)) (bodyK Pg r65 Q)))))))
theorem calls65{x0:AV}{S:Store}{Q:PoT}(h:m65 x0 S Q):ACalls Pg 65 [x0] S Q:=
 calls_of_vc (fn:=Tryz.f65) (c:=c65) (n:=86) Tryz.func65 (by kernel_rfl) (by kernel_rfl) (by kernel_rfl) ms65 (Eq.mpr (by kernel_rfl) h)
def b65_0(y1 y3 y4:AV)(S:Store)(KE0:KeT)(Q:PoT):Prop:=
 shift y1 1 S fun a S=>ld1 a S fun c S=>lenS c S fun d S=>bin .lss 0 y4 d S fun e S=>onB e fun b=>gd b ((fun S0:Store=>∃ f:AV,(ldN 2 y3 S fun g S=>g=f∧S=S0)∧∃ h:AV,(shift y1 1 S fun i S=>i=h∧S=S0)∧∃ k:AV,(ld1 h S fun l S=>l=k∧S=S0)∧∃ m:AV,(ixS 66 2 k y4 S fun n S=>n=m∧S=S0)∧∃ o:AV,(shift m 0 S fun p S=>p=o∧S=S0)∧∃ q:AV,(ld1 o S fun r S=>r=q∧S=S0)∧∃ s:AV,(callF Pg 112 [f,q] S (fun _ _=>False) fun t S=>t=s∧S=S0)∧∃ u:AV,(un .not s S fun w S=>w=u∧S=S0)∧onB u fun b=>gd b (∃ x:AV,((.v (.bool true))=x∧S=S0)∧onB x fun b=>gd b (∃ y:AV,((.v (.bool true))=y∧S=S0)∧onB y fun b=>gd b (Q (.ret (.v (.bool false))) S) (bin .add 0 y4 (.v (.int .i64 1)) S fun z S=>KE0 86 (env65_0 y1 y3 z) S)) (∃ A:AV,(shift y1 1 S fun B S=>B=A∧S=S0)∧∃ C:AV,(ld1 A S fun D S=>D=C∧S=S0)∧∃ E:AV,(ixS 66 2 C y4 S fun F S=>F=E∧S=S0)∧∃ G:AV,(shift E 1 S fun H S=>H=G∧S=S0)∧∃ I:AV,(ld1 G S fun J S=>J=I∧S=S0)∧∃ K:AV,(bin .gtr 0 I (.v (.int .i64 2)) S fun L S=>L=K∧S=S0)∧∃ M:AV,(K=M∧S=S0)∧onB M fun b=>gd b (Q (.ret (.v (.bool false))) S) (bin .add 0 y4 (.v (.int .i64 1)) S fun N S=>KE0 86 (env65_0 y1 y3 N) S))) (∃ O:AV,(shift y1 1 S fun P S=>P=O∧S=S0)∧∃ R:AV,(ld1 O S fun T S=>T=R∧S=S0)∧∃ U:AV,(ixS 66 2 R y4 S fun V S=>V=U∧S=S0)∧∃ W:AV,(shift U 1 S fun X S=>X=W∧S=S0)∧∃ Y:AV,(ld1 W S fun Z S=>Z=Y∧S=S0)∧∃ a0:AV,(bin .lss 0 Y (.v (.int .i64 0)) S fun a1 S=>a1=a0∧S=S0)∧∃ a2:AV,(a0=a2∧S=S0)∧onB a2 fun b=>gd b (∃ a3:AV,((.v (.bool true))=a3∧S=S0)∧onB a3 fun b=>gd b (Q (.ret (.v (.bool false))) S) (bin .add 0 y4 (.v (.int .i64 1)) S fun a4 S=>KE0 86 (env65_0 y1 y3 a4) S)) (∃ a5:AV,(shift y1 1 S fun a6 S=>a6=a5∧S=S0)∧∃ a7:AV,(ld1 a5 S fun a8 S=>a8=a7∧S=S0)∧∃ a9:AV,(ixS 66 2 a7 y4 S fun b0 S=>b0=a9∧S=S0)∧∃ b1:AV,(shift a9 1 S fun b2 S=>b2=b1∧S=S0)∧∃ b3:AV,(ld1 b1 S fun b4 S=>b4=b3∧S=S0)∧∃ b5:AV,(bin .gtr 0 b3 (.v (.int .i64 2)) S fun b6 S=>b6=b5∧S=S0)∧∃ b7:AV,(b5=b7∧S=S0)∧onB b7 fun b=>gd b (Q (.ret (.v (.bool false))) S) (bin .add 0 y4 (.v (.int .i64 1)) S fun b8 S=>KE0 86 (env65_0 y1 y3 b8) S)))) S) (ldN 2 y3 S fun b9 S=>shift y1 3 S fun c0 S=>ld1 c0 S fun c1 S=>callF Pg 113 [b9,c1] S Q fun c2 S=>onB c2 fun b=>gd b (ldN 2 y3 S fun c3 S=>shift y1 4 S fun c4 S=>ld1 c4 S fun c5 S=>callF Pg 113 [c3,c5] S Q fun c6 S=>onB c6 fun b=>gd b (ldN 2 y3 S fun c7 S=>shift y1 5 S fun c8 S=>ld1 c8 S fun c9 S=>callF Pg 113 [c7,c9] S Q fun d0 S=>onB d0 fun b=>gd b (ldN 2 y3 S fun d1 S=>shift y1 6 S fun d2 S=>ld1 d2 S fun d3 S=>callF Pg 113 [d1,d3] S Q fun d4 S=>onB d4 fun b=>gd b (ldN 8 y1 S fun d5 S=>callF Pg 114 [d5] S Q fun d6 S=>Q (.ret d6) S) (Q (.ret (.v (.bool false))) S)) (Q (.ret (.v (.bool false))) S)) (Q (.ret (.v (.bool false))) S)) (Q (.ret (.v (.bool false))) S))
theorem b65_0_eq(y1 y3 y4:AV)(S:Store)(KE0:KeT)(Q:PoT):vc Pg (c65.at_ [1,1,1,0,1,0,0]) (ms65.drop 1) (mkE 86 lv65_0 (env65_0 y1 y3 y4)) S (thenK (fgK lv65_0 KE0) (blockK 0 (seqK (vc Pg (c65.at_ [1,1,1,1]) (ms65.drop 1)) (bodyK Pg r65 Q))))=b65_0 y1 y3 y4 S KE0 Q:=by kernel_rfl
theorem loop65_0{y1 y3:AV}{y40:AV}{S:Store}{Q:PoT}(I:AV→Store→Prop)(μ:AV→Store→Nat)(h0:I y40 S)
    (hr:∀(y4:AV) (S:Store),I y4 S→∀ KE0:KeT,(∀(y4':AV) (S':Store),I y4' S'→μ y4' S'<μ y4 S→KE0 86 (env65_0 y1 y3 y4') S')→b65_0 y1 y3 y4 S KE0 Q):
    loopV lv65_0 (vc Pg (c65.at_ [1,1,1,0,1,0,0]) (ms65.drop 1)) 86 (env65_0 y1 y3 y40) S (blockK 0 (seqK (vc Pg (c65.at_ [1,1,1,1]) (ms65.drop 1)) (bodyK Pg r65 Q))):=by
 refine⟨fun n e S=>n=86∧∃ y4:AV,e=(env65_0 y1 y3 y4)∧I y4 S,fun _ e S=>μ (e.getD 2 .j) S,?_,?_⟩
 ·exact⟨_,_,Wk.refl _ _,rfl,_,rfl,h0⟩
 ·rintro _ e S ⟨rfl,y4,rfl,hI⟩
  exact(b65_0_eq _ _ _ _ _ _).mpr (hr y4 S hI _ (fun y4' S' hI' hm=>⟨_,_,Wk.refl _ _,⟨rfl,_,rfl,hI'⟩,hm⟩))
def c128:Code:=(Tryz.f128.body).getD .skip
def ms128:List (List Nat):=[[]]
def m128(x0 x1:AV)(S:Store)(Q:PoT):Prop:=
 ldN 2 x1 S fun a S=>callF Pg 88 [a,x0] S Q fun c S=>un .not c S fun d S=>Q (.ret d) S
theorem calls128{x0 x1:AV}{S:Store}{Q:PoT}(h:m128 x0 x1 S Q):ACalls Pg 128 [x0,x1] S Q:=
 calls_of_vc (fn:=Tryz.f128) (c:=c128) (n:=8) Tryz.func128 (by kernel_rfl) (by kernel_rfl) (by kernel_rfl) ms128 (Eq.mpr (by kernel_rfl) h)
def c129:Code:=(Tryz.f129.body).getD .skip
def ms129:List (List Nat):=[[]]
def m129(x0 x1:AV)(S:Store)(Q:PoT):Prop:=
 boxN 66 2 x0 S fun a S=>ld1 x1 S fun c S=>shift a 0 S fun d S=>ld1 d S fun e S=>callV Pg c [e] S (fun f S=>onB f fun b=>gd b (Q (.ret (.v (.bool true))) S) (shift a 1 S fun g S=>ld1 g S fun h S=>bin .lss 0 h (.v (.int .i64 0)) S fun i S=>onB i fun b=>gd b (Q (.ret (.v (.bool true))) S) (shift a 1 S fun k S=>ld1 k S fun l S=>bin .gtr 0 l (.v (.int .i64 2)) S fun m S=>Q (.ret m) S))) (fun u S=>Q (.pan u) S)
theorem calls129{x0 x1:AV}{S:Store}{Q:PoT}(h:m129 x0 x1 S Q):ACalls Pg 129 [x0,x1] S Q:=
 calls_of_vc (fn:=Tryz.f129) (c:=c129) (n:=18) Tryz.func129 (by kernel_rfl) (by kernel_rfl) (by kernel_rfl) ms129 (Eq.mpr (by kernel_rfl) h)
def c165:Code:=(Tryz.f165.body).getD .skip
def r165:List ResultVar:=Tryz.f165.results.toList
def env165_0(y0 y1 y7 y8:AV):List AV:=[y0,y1,y7,y8]
def lv165_0:List Nat:=[0,1,7,8]
def ms165:List (List Nat):=[lv165_0,[]]
def m165(x0 x1:AV)(S:Store)(Q:PoT):Prop:=
 lenS x0 S fun a S=>loopV lv165_0 (vc Pg (c165.at_ [1,0,1,0,0]) (ms165.drop 1)) 19 (env165_0 x0 x1 a (.v (.int .i64 0))) S (blockK 0 (seqK (vc Pg (c165.at_ [1,1]) (ms165.drop 1)) (bodyK Pg r165 Q)))
theorem calls165{x0 x1:AV}{S:Store}{Q:PoT}(h:m165 x0 x1 S Q):ACalls Pg 165 [x0,x1] S Q:=
 calls_of_vc (fn:=Tryz.f165) (c:=c165) (n:=19) Tryz.func165 (by kernel_rfl) (by kernel_rfl) (by kernel_rfl) ms165 (Eq.mpr (by kernel_rfl) h)
def b165_0(y0 y1 y7 y8:AV)(S:Store)(KE0:KeT)(Q:PoT):Prop:=
 bin .lss 0 y8 y7 S fun a S=>onB a fun b=>gd b (ixS 66 2 y0 y8 S fun c S=>ldN 2 c S fun d S=>callV Pg y1 [d] S (fun e S=>onB e fun b=>gd b (Q (.ret y8) S) (bin .add 0 y8 (.v (.int .i64 1)) S fun f S=>KE0 19 (env165_0 y0 y1 y7 f) S)) (fun u S=>Q (.pan u) S)) (Q (.ret (.v (.int .i64 (-1)))) S)
theorem b165_0_eq(y0 y1 y7 y8:AV)(S:Store)(KE0:KeT)(Q:PoT):vc Pg (c165.at_ [1,0,1,0,0]) (ms165.drop 1) (mkE 19 lv165_0 (env165_0 y0 y1 y7 y8)) S (thenK (fgK lv165_0 KE0) (blockK 0 (seqK (vc Pg (c165.at_ [1,1]) (ms165.drop 1)) (bodyK Pg r165 Q))))=b165_0 y0 y1 y7 y8 S KE0 Q:=by kernel_rfl
theorem loop165_0{y0 y1 y7:AV}{y80:AV}{S:Store}{Q:PoT}(I:AV→Store→Prop)(μ:AV→Store→Nat)(h0:I y80 S)
    (hr:∀(y8:AV) (S:Store),I y8 S→∀ KE0:KeT,(∀(y8':AV) (S':Store),I y8' S'→μ y8' S'<μ y8 S→KE0 19 (env165_0 y0 y1 y7 y8') S')→b165_0 y0 y1 y7 y8 S KE0 Q):
    loopV lv165_0 (vc Pg (c165.at_ [1,0,1,0,0]) (ms165.drop 1)) 19 (env165_0 y0 y1 y7 y80) S (blockK 0 (seqK (vc Pg (c165.at_ [1,1]) (ms165.drop 1)) (bodyK Pg r165 Q))):=by
 refine⟨fun n e S=>n=19∧∃ y8:AV,e=(env165_0 y0 y1 y7 y8)∧I y8 S,fun _ e S=>μ (e.getD 3 .j) S,?_,?_⟩
 ·exact⟨_,_,Wk.refl _ _,rfl,_,rfl,h0⟩
 ·rintro _ e S ⟨rfl,y8,rfl,hI⟩
  exact(b165_0_eq _ _ _ _ _ _ _).mpr (hr y8 S hI _ (fun y8' S' hI' hm=>⟨_,_,Wk.refl _ _,⟨rfl,_,rfl,hI'⟩,hm⟩))
def c131:Code:=(Tryz.f131.body).getD .skip
def ms131:List (List Nat):=[[]]
def m131(x0 x1:AV)(S:Store)(Q:PoT):Prop:=
 callF Pg 165 [x0,x1] S Q fun a S=>bin .geq 0 a (.v (.int .i64 0)) S fun c S=>Q (.ret c) S
theorem calls131{x0 x1:AV}{S:Store}{Q:PoT}(h:m131 x0 x1 S Q):ACalls Pg 131 [x0,x1] S Q:=
 calls_of_vc (fn:=Tryz.f131) (c:=c131) (n:=9) Tryz.func131 (by kernel_rfl) (by kernel_rfl) (by kernel_rfl) ms131 (Eq.mpr (by kernel_rfl) h)
def c85:Code:=(Tryz.f85.body).getD .skip
def r85:List ResultVar:=Tryz.f85.results.toList
def env85_0(y1 y3 y14:AV):List AV:=[y1,y3,y14]
def lv85_0:List Nat:=[1,3,14]
def env85_1(y1 y6 y44 y45:AV):List AV:=[y1,y6,y44,y45]
def lv85_1:List Nat:=[1,6,44,45]
def ms85:List (List Nat):=[lv85_0,lv85_1,[]]
def m85(x0:AV)(S:Store)(Q:PoT):Prop:=
 boxN 42 8 x0 S fun c S=>ldN 8 c S fun d S=>callF Pg 84 [d] S Q fun e S=>boxN 82 2 (.a [.v (.int .i64 0),.nl]) S fun f S=>stN 2 f e S fun g S=>ldN 8 c S fun h S=>callF Pg 127 [h] S Q fun i S=>rngM i S fun k S=>loopV lv85_0 (vc Pg (c85.at_ [1,1,0,1,0,0]) (ms85.drop 1)) 54 (env85_0 c f k) S (blockK 0 (seqK (vc Pg (c85.at_ [1,1,1]) (ms85.drop 1)) (bodyK Pg r85 Q)))
theorem calls85{x0:AV}{S:Store}{Q:PoT}(h:m85 x0 S Q):ACalls Pg 85 [x0] S Q:=
 calls_of_vc (fn:=Tryz.f85) (c:=c85) (n:=54) Tryz.func85 (by kernel_rfl) (by kernel_rfl) (by kernel_rfl) ms85 (Eq.mpr (by kernel_rfl) h)
def b85_0(y1 y3 y14:AV)(S:Store)(KE0:KeT)(Q:PoT):Prop:=
 nextM false y14 S fun a S=>extr a 0 S fun c S=>onB c fun b=>gd b (entryM y14 S fun d S=>extr d 1 S fun e S=>bin .lss 0 e (.v (.int .i64 0)) S fun g S=>onB g fun b=>gd b (Q (.ret (.v (.bool false))) S) (bin .gtr 0 e (.v (.int .i64 2000)) S fun h S=>onB h fun b=>gd b (Q (.ret (.v (.bool false))) S) (KE0 54 (env85_0 y1 y3 y14) S))) (boxN 134 1 (.v .nilFunc) S fun i S=>stN 1 i (.f (.func 128) [] [y3]) S fun k S=>ldN 2 y3 S fun l S=>callF Pg 130 [l] S Q fun m S=>un .not m S fun n S=>onB n fun b=>gd b (Q (.ret (.v (.bool false))) S) (shift y1 1 S fun o S=>ld1 o S fun p S=>callF Pg 131 [p,(.f (.func 129) [] [i])] S Q fun q S=>onB q fun b=>gd b (Q (.ret (.v (.bool false))) S) (shift y1 3 S fun r S=>ld1 r S fun s S=>shift y1 4 S fun t S=>ld1 t S fun u S=>shift y1 5 S fun w S=>ld1 w S fun x S=>shift y1 6 S fun y S=>ld1 y S fun z S=>bld [(0,1),(1,1),(2,1),(3,1)] [.nl,.nl,.nl,.nl] [(0,s),(1,u),(2,x),(3,z)] S fun A S=>loopV lv85_1 (vc Pg (c85.at_ [1,1,1,1,1,1,0,1,0,0]) (ms85.drop 2)) 54 (env85_1 y1 i A (.v (.int .i64 0))) S (blockK 2 (seqK (vc Pg (c85.at_ [1,1,1,1,1,1,1]) (ms85.drop 2)) (bodyK Pg r85 Q))))))
theorem b85_0_eq(y1 y3 y14:AV)(S:Store)(KE0:KeT)(Q:PoT):vc Pg (c85.at_ [1,1,0,1,0,0]) (ms85.drop 1) (mkE 54 lv85_0 (env85_0 y1 y3 y14)) S (thenK (fgK lv85_0 KE0) (blockK 0 (seqK (vc Pg (c85.at_ [1,1,1]) (ms85.drop 1)) (bodyK Pg r85 Q))))=b85_0 y1 y3 y14 S KE0 Q:=by kernel_rfl
theorem loop85_0{y1 y3 y14:AV}{S:Store}{Q:PoT}(I:Store→Prop)(μ:Store→Nat)(h0:I  S)
    (hr:∀(S:Store),I  S→∀ KE0:KeT,(∀(S':Store),I  S'→μ  S'<μ  S→KE0 54 (env85_0 y1 y3 y14) S')→b85_0 y1 y3 y14 S KE0 Q):
    loopV lv85_0 (vc Pg (c85.at_ [1,1,0,1,0,0]) (ms85.drop 1)) 54 (env85_0 y1 y3 y14) S (blockK 0 (seqK (vc Pg (c85.at_ [1,1,1]) (ms85.drop 1)) (bodyK Pg r85 Q))):=by
 refine⟨fun n e S=>n=54∧e=(env85_0 y1 y3 y14)∧I  S,fun _ e S=>μ  S,?_,?_⟩
 ·exact⟨_,_,Wk.refl _ _,rfl,rfl,h0⟩
 ·rintro _ e S ⟨rfl,rfl,hI⟩
  exact(b85_0_eq _ _ _ _ _ _).mpr (hr  S hI _ (fun  S' hI' hm=>⟨_,_,Wk.refl _ _,⟨rfl,rfl,hI'⟩,hm⟩))
def b85_1(y1 y6 y44 y45:AV)(S:Store)(KE1:KeT)(Q:PoT):Prop:=
 bin .lss 0 y45 (.v (.int .i64 4)) S fun a S=>onB a fun b=>gd b (optP (intA y45) fun z39=>(0≤z39∧z39<((4:Nat):Int))∧part1 y44 (z39.toNat*1) S fun c S=>ld1 y6 S fun d S=>callF Pg 132 [c,d] S Q fun e S=>onB e fun b=>gd b (Q (.ret (.v (.bool false))) S) (bin .add 0 y45 (.v (.int .i64 1)) S fun f S=>KE1 54 (env85_1 y1 y6 y44 f) S)) (ldN 8 y1 S fun g S=>callF Pg 133 [g] S Q fun h S=>Q (.ret h) S)
theorem b85_1_eq(y1 y6 y44 y45:AV)(S:Store)(KE1:KeT)(Q:PoT):vc Pg (c85.at_ [1,1,1,1,1,1,0,1,0,0]) (ms85.drop 2) (mkE 54 lv85_1 (env85_1 y1 y6 y44 y45)) S (thenK (fgK lv85_1 KE1) (blockK 2 (seqK (vc Pg (c85.at_ [1,1,1,1,1,1,1]) (ms85.drop 2)) (bodyK Pg r85 Q))))=b85_1 y1 y6 y44 y45 S KE1 Q:=by kernel_rfl
theorem loop85_1{y1 y6 y44:AV}{y450:AV}{S:Store}{Q:PoT}(I:AV→Store→Prop)(μ:AV→Store→Nat)(h0:I y450 S)
    (hr:∀(y45:AV) (S:Store),I y45 S→∀ KE1:KeT,(∀(y45':AV) (S':Store),I y45' S'→μ y45' S'<μ y45 S→KE1 54 (env85_1 y1 y6 y44 y45') S')→b85_1 y1 y6 y44 y45 S KE1 Q):
    loopV lv85_1 (vc Pg (c85.at_ [1,1,1,1,1,1,0,1,0,0]) (ms85.drop 2)) 54 (env85_1 y1 y6 y44 y450) S (blockK 2 (seqK (vc Pg (c85.at_ [1,1,1,1,1,1,1]) (ms85.drop 2)) (bodyK Pg r85 Q))):=by
 refine⟨fun n e S=>n=54∧∃ y45:AV,e=(env85_1 y1 y6 y44 y45)∧I y45 S,fun _ e S=>μ (e.getD 3 .j) S,?_,?_⟩
 ·exact⟨_,_,Wk.refl _ _,rfl,_,rfl,h0⟩
 ·rintro _ e S ⟨rfl,y45,rfl,hI⟩
  exact(b85_1_eq _ _ _ _ _ _ _).mpr (hr y45 S hI _ (fun y45' S' hI' hm=>⟨_,_,Wk.refl _ _,⟨rfl,_,rfl,hI'⟩,hm⟩))
def c114:Code:=(Tryz.f114.body).getD .skip
def r114:List ResultVar:=Tryz.f114.results.toList
def env114_0(y1 y3:AV):List AV:=[y1,y3]
def lv114_0:List Nat:=[1,3]
def env114_1(y1 y3 y4 y5:AV):List AV:=[y1,y3,y4,y5]
def lv114_1:List Nat:=[1,3,4,5]
def ms114:List (List Nat):=[lv114_0,lv114_1,[]]
def m114(x0:AV)(S:Store)(Q:PoT):Prop:=
 boxN 42 8 x0 S fun a S=>loopV lv114_0 (vc Pg (c114.at_ [1,0,1,0,0]) (ms114.drop 1)) 85 (env114_0 a (.v (.int .i64 0))) S (blockK 0 (seqK (vc Pg (c114.at_ [1,1]) (ms114.drop 2)) (bodyK Pg r114 Q)))
theorem calls114{x0:AV}{S:Store}{Q:PoT}(h:m114 x0 S Q):ACalls Pg 114 [x0] S Q:=
 calls_of_vc (fn:=Tryz.f114) (c:=c114) (n:=85) Tryz.func114 (by kernel_rfl) (by kernel_rfl) (by kernel_rfl) ms114 (Eq.mpr (by kernel_rfl) h)
def b114_0(y1 y3:AV)(S:Store)(KE0:KeT)(Q:PoT):Prop:=
 shift y1 7 S fun c S=>ld1 c S fun d S=>lenS d S fun e S=>bin .lss 0 y3 e S fun f S=>onB f fun b=>gd b (shift y1 7 S fun g S=>ld1 g S fun h S=>ixS 130 3 h y3 S fun i S=>ldN 3 i S fun k S=>boxN 130 3 (.a [.v (.int .u8 0),.v (.int .i64 0),.v (.string ByteArray.empty)]) S fun l S=>stN 3 l k S fun m S=>(fun S0:Store=>∃ n:AV,(shift l 2 S fun o S=>o=n∧S=S0)∧∃ p:AV,(ld1 n S fun q S=>q=p∧S=S0)∧∃ r:AV,(callF Pg 149 [p] S (fun _ _=>False) fun s S=>s=r∧S=S0)∧∃ t:AV,(un .not r S fun u S=>u=t∧S=S0)∧onB t fun b=>gd b (∃ w:AV,((.v (.bool true))=w∧S=S0)∧onB w fun b=>gd b (∃ x:AV,((.v (.bool true))=x∧S=S0)∧onB x fun b=>gd b (Q (.ret (.v (.bool false))) S) (loopV lv114_1 (vc Pg (c114.at_ [1,0,1,0,0,1,0,0,1,1,0,1,0,0]) (ms114.drop 2)) 85 (env114_1 y1 y3 l (.v (.int .i64 0))) S (blockK 2 (seqK (vc Pg (c114.at_ [1,0,1,0,0,1,0,0,1,1,1]) (ms114.drop 2)) (blockK 1 (seqK (vc Pg (c114.at_ [1,0,1,0,0,1,1]) (ms114.drop 2)) (thenK (fgK lv114_0 KE0) (blockK 0 (seqK (vc Pg (c114.at_ [1,1]) (ms114.drop 2)) (bodyK Pg r114 Q)))))))))) (∃ y:AV,(shift l 1 S fun z S=>z=y∧S=S0)∧∃ A:AV,(ld1 y S fun B S=>B=A∧S=S0)∧∃ C:AV,(ldN 8 y1 S fun D S=>D=C∧S=S0)∧∃ E:AV,(shift l 0 S fun F S=>F=E∧S=S0)∧∃ G:AV,(ld1 E S fun H S=>H=G∧S=S0)∧∃ I:AV,(callF Pg 150 [C,G] S (fun _ _=>False) fun J S=>J=I∧S=S0)∧∃ K:AV,(bin .geq 0 A I S fun L S=>L=K∧S=S0)∧∃ M:AV,(K=M∧S=S0)∧onB M fun b=>gd b (Q (.ret (.v (.bool false))) S) (loopV lv114_1 (vc Pg (c114.at_ [1,0,1,0,0,1,0,0,1,1,0,1,0,0]) (ms114.drop 2)) 85 (env114_1 y1 y3 l (.v (.int .i64 0))) S (blockK 2 (seqK (vc Pg (c114.at_ [1,0,1,0,0,1,0,0,1,1,1]) (ms114.drop 2)) (blockK 1 (seqK (vc Pg (c114.at_ [1,0,1,0,0,1,1]) (ms114.drop 2)) (thenK (fgK lv114_0 KE0) (blockK 0 (seqK (vc Pg (c114.at_ [1,1]) (ms114.drop 2)) (bodyK Pg r114 Q))))))))))) (∃ N:AV,(shift l 1 S fun O S=>O=N∧S=S0)∧∃ P:AV,(ld1 N S fun R S=>R=P∧S=S0)∧∃ T:AV,(bin .lss 0 P (.v (.int .i64 0)) S fun U S=>U=T∧S=S0)∧∃ V:AV,(T=V∧S=S0)∧onB V fun b=>gd b (∃ W:AV,((.v (.bool true))=W∧S=S0)∧onB W fun b=>gd b (Q (.ret (.v (.bool false))) S) (loopV lv114_1 (vc Pg (c114.at_ [1,0,1,0,0,1,0,0,1,1,0,1,0,0]) (ms114.drop 2)) 85 (env114_1 y1 y3 l (.v (.int .i64 0))) S (blockK 2 (seqK (vc Pg (c114.at_ [1,0,1,0,0,1,0,0,1,1,1]) (ms114.drop 2)) (blockK 1 (seqK (vc Pg (c114.at_ [1,0,1,0,0,1,1]) (ms114.drop 2)) (thenK (fgK lv114_0 KE0) (blockK 0 (seqK (vc Pg (c114.at_ [1,1]) (ms114.drop 2)) (bodyK Pg r114 Q)))))))))) (∃ X:AV,(shift l 1 S fun Y S=>Y=X∧S=S0)∧∃ Z:AV,(ld1 X S fun a0 S=>a0=Z∧S=S0)∧∃ a1:AV,(ldN 8 y1 S fun a2 S=>a2=a1∧S=S0)∧∃ a3:AV,(shift l 0 S fun a4 S=>a4=a3∧S=S0)∧∃ a5:AV,(ld1 a3 S fun a6 S=>a6=a5∧S=S0)∧∃ a7:AV,(callF Pg 150 [a1,a5] S (fun _ _=>False) fun a8 S=>a8=a7∧S=S0)∧∃ a9:AV,(bin .geq 0 Z a7 S fun b0 S=>b0=a9∧S=S0)∧∃ b1:AV,(a9=b1∧S=S0)∧onB b1 fun b=>gd b (Q (.ret (.v (.bool false))) S) (loopV lv114_1 (vc Pg (c114.at_ [1,0,1,0,0,1,0,0,1,1,0,1,0,0]) (ms114.drop 2)) 85 (env114_1 y1 y3 l (.v (.int .i64 0))) S (blockK 2 (seqK (vc Pg (c114.at_ [1,0,1,0,0,1,0,0,1,1,1]) (ms114.drop 2)) (blockK 1 (seqK (vc Pg (c114.at_ [1,0,1,0,0,1,1]) (ms114.drop 2)) (thenK (fgK lv114_0 KE0) (blockK 0 (seqK (vc Pg (c114.at_ [1,1]) (ms114.drop 2)) (bodyK Pg r114 Q)))))))))))) S) (Q (.ret (.v (.bool true))) S)
theorem b114_0_eq(y1 y3:AV)(S:Store)(KE0:KeT)(Q:PoT):vc Pg (c114.at_ [1,0,1,0,0]) (ms114.drop 1) (mkE 85 lv114_0 (env114_0 y1 y3)) S (thenK (fgK lv114_0 KE0) (blockK 0 (seqK (vc Pg (c114.at_ [1,1]) (ms114.drop 2)) (bodyK Pg r114 Q))))=b114_0 y1 y3 S KE0 Q:=by kernel_rfl
theorem loop114_0{y1:AV}{y30:AV}{S:Store}{Q:PoT}(I:AV→Store→Prop)(μ:AV→Store→Nat)(h0:I y30 S)
    (hr:∀(y3:AV) (S:Store),I y3 S→∀ KE0:KeT,(∀(y3':AV) (S':Store),I y3' S'→μ y3' S'<μ y3 S→KE0 85 (env114_0 y1 y3') S')→b114_0 y1 y3 S KE0 Q):
    loopV lv114_0 (vc Pg (c114.at_ [1,0,1,0,0]) (ms114.drop 1)) 85 (env114_0 y1 y30) S (blockK 0 (seqK (vc Pg (c114.at_ [1,1]) (ms114.drop 2)) (bodyK Pg r114 Q))):=by
 refine⟨fun n e S=>n=85∧∃ y3:AV,e=(env114_0 y1 y3)∧I y3 S,fun _ e S=>μ (e.getD 1 .j) S,?_,?_⟩
 ·exact⟨_,_,Wk.refl _ _,rfl,_,rfl,h0⟩
 ·rintro _ e S ⟨rfl,y3,rfl,hI⟩
  exact(b114_0_eq _ _ _ _ _).mpr (hr y3 S hI _ (fun y3' S' hI' hm=>⟨_,_,Wk.refl _ _,⟨rfl,_,rfl,hI'⟩,hm⟩))
def b114_1(y1 y3 y4 y5:AV)(S:Store)(KE1:KeT)(KE0:KeT)(Q:PoT):Prop:=
 bin .lss 0 y5 y3 S fun a S=>onB a fun b=>gd b ((fun S0:Store=>∃ c:AV,(shift y1 7 S fun d S=>d=c∧S=S0)∧∃ e:AV,(ld1 c S fun f S=>f=e∧S=S0)∧∃ g:AV,(ixS 130 3 e y5 S fun h S=>h=g∧S=S0)∧∃ i:AV,(shift g 2 S fun k S=>k=i∧S=S0)∧∃ l:AV,(ld1 i S fun m S=>m=l∧S=S0)∧∃ n:AV,(shift y4 2 S fun o S=>o=n∧S=S0)∧∃ p:AV,(ld1 n S fun q S=>q=p∧S=S0)∧∃ r:AV,(bin .eql 0 l p S fun s S=>s=r∧S=S0)∧onB r fun b=>gd b (Q (.ret (.v (.bool false))) S) (bin .add 0 y5 (.v (.int .i64 1)) S fun t S=>KE1 85 (env114_1 y1 y3 y4 t) S)) S) (bin .gtr 0 y3 (.v (.int .i64 0)) S fun u S=>onB u fun b=>gd b ((fun S0:Store=>∃ w:AV,(shift y1 7 S fun x S=>x=w∧S=S0)∧∃ y:AV,(ld1 w S fun z S=>z=y∧S=S0)∧∃ A:AV,(bin .sub 0 y3 (.v (.int .i64 1)) S fun B S=>B=A∧S=S0)∧∃ C:AV,(ixS 130 3 y A S fun D S=>D=C∧S=S0)∧∃ E:AV,(shift C 0 S fun F S=>F=E∧S=S0)∧∃ G:AV,(ld1 E S fun H S=>H=G∧S=S0)∧∃ I:AV,(callF Pg 151 [G] S (fun _ _=>False) fun J S=>J=I∧S=S0)∧∃ K:AV,(shift y4 0 S fun L S=>L=K∧S=S0)∧∃ M:AV,(ld1 K S fun N S=>N=M∧S=S0)∧∃ O:AV,(callF Pg 151 [M] S (fun _ _=>False) fun P S=>P=O∧S=S0)∧(fun S0:Store=>∃ R:AV,(bin .gtr 0 I O S fun T S=>T=R∧S=S0)∧onB R fun b=>gd b (∃ U:AV,((.v (.bool true))=U∧S=S0)∧onB U fun b=>gd b (Q (.ret (.v (.bool false))) S) (bin .add 0 y3 (.v (.int .i64 1)) S fun V S=>KE0 85 (env114_0 y1 V) S)) (∃ W:AV,(bin .eql 0 I O S fun X S=>X=W∧S=S0)∧onB W fun b=>gd b (∃ Y:AV,(shift y1 7 S fun Z S=>Z=Y∧S=S0)∧∃ a0:AV,(ld1 Y S fun a1 S=>a1=a0∧S=S0)∧∃ a2:AV,(bin .sub 0 y3 (.v (.int .i64 1)) S fun a3 S=>a3=a2∧S=S0)∧∃ a4:AV,(ixS 130 3 a0 a2 S fun a5 S=>a5=a4∧S=S0)∧∃ a6:AV,(shift a4 1 S fun a7 S=>a7=a6∧S=S0)∧∃ a8:AV,(ld1 a6 S fun a9 S=>a9=a8∧S=S0)∧∃ b0:AV,(shift y4 1 S fun b1 S=>b1=b0∧S=S0)∧∃ b2:AV,(ld1 b0 S fun b3 S=>b3=b2∧S=S0)∧∃ b4:AV,(bin .geq 0 a8 b2 S fun b5 S=>b5=b4∧S=S0)∧∃ b6:AV,(b4=b6∧S=S0)∧∃ b7:AV,(b6=b7∧S=S0)∧onB b7 fun b=>gd b (Q (.ret (.v (.bool false))) S) (bin .add 0 y3 (.v (.int .i64 1)) S fun b8 S=>KE0 85 (env114_0 y1 b8) S)) (∃ b9:AV,((.v (.bool false))=b9∧S=S0)∧∃ c0:AV,(b9=c0∧S=S0)∧onB c0 fun b=>gd b (Q (.ret (.v (.bool false))) S) (bin .add 0 y3 (.v (.int .i64 1)) S fun c1 S=>KE0 85 (env114_0 y1 c1) S)))) S) S) (bin .add 0 y3 (.v (.int .i64 1)) S fun c2 S=>KE0 85 (env114_0 y1 c2) S))
theorem b114_1_eq(y1 y3 y4 y5:AV)(S:Store)(KE1:KeT)(KE0:KeT)(Q:PoT):vc Pg (c114.at_ [1,0,1,0,0,1,0,0,1,1,0,1,0,0]) (ms114.drop 2) (mkE 85 lv114_1 (env114_1 y1 y3 y4 y5)) S (thenK (fgK lv114_1 KE1) (blockK 2 (seqK (vc Pg (c114.at_ [1,0,1,0,0,1,0,0,1,1,1]) (ms114.drop 2)) (blockK 1 (seqK (vc Pg (c114.at_ [1,0,1,0,0,1,1]) (ms114.drop 2)) (thenK (fgK lv114_0 KE0) (blockK 0 (seqK (vc Pg (c114.at_ [1,1]) (ms114.drop 2)) (bodyK Pg r114 Q)))))))))=b114_1 y1 y3 y4 y5 S KE1 KE0 Q:=by kernel_rfl
theorem loop114_1{y1 y3 y4:AV}{y50:AV}{S:Store}{KE0:KeT}{Q:PoT}(I:AV→Store→Prop)(μ:AV→Store→Nat)(h0:I y50 S)
    (hr:∀(y5:AV) (S:Store),I y5 S→∀ KE1:KeT,(∀(y5':AV) (S':Store),I y5' S'→μ y5' S'<μ y5 S→KE1 85 (env114_1 y1 y3 y4 y5') S')→b114_1 y1 y3 y4 y5 S KE1 KE0 Q):
    loopV lv114_1 (vc Pg (c114.at_ [1,0,1,0,0,1,0,0,1,1,0,1,0,0]) (ms114.drop 2)) 85 (env114_1 y1 y3 y4 y50) S (blockK 2 (seqK (vc Pg (c114.at_ [1,0,1,0,0,1,0,0,1,1,1]) (ms114.drop 2)) (blockK 1 (seqK (vc Pg (c114.at_ [1,0,1,0,0,1,1]) (ms114.drop 2)) (thenK (fgK lv114_0 KE0) (blockK 0 (seqK (vc Pg (c114.at_ [1,1]) (ms114.drop 2)) (bodyK Pg r114 Q)))))))):=by
 refine⟨fun n e S=>n=85∧∃ y5:AV,e=(env114_1 y1 y3 y4 y5)∧I y5 S,fun _ e S=>μ (e.getD 3 .j) S,?_,?_⟩
 ·exact⟨_,_,Wk.refl _ _,rfl,_,rfl,h0⟩
 ·rintro _ e S ⟨rfl,y5,rfl,hI⟩
  exact(b114_1_eq _ _ _ _ _ _ _ _).mpr (hr y5 S hI _ (fun y5' S' hI' hm=>⟨_,_,Wk.refl _ _,⟨rfl,_,rfl,hI'⟩,hm⟩))
def c113:Code:=(Tryz.f113.body).getD .skip
def r113:List ResultVar:=Tryz.f113.results.toList
def env113_0(y1 y2 y5:AV):List AV:=[y1,y2,y5]
def lv113_0:List Nat:=[1,2,5]
def ms113:List (List Nat):=[lv113_0,[]]
def m113(x0 x1:AV)(S:Store)(Q:PoT):Prop:=
 boxN 82 2 x0 S fun a S=>loopV lv113_0 (vc Pg (c113.at_ [1,0,1,0,0]) (ms113.drop 1)) 22 (env113_0 x1 a (.v (.int .i64 0))) S (blockK 0 (seqK (vc Pg (c113.at_ [1,1]) (ms113.drop 1)) (bodyK Pg r113 Q)))
theorem calls113{x0 x1:AV}{S:Store}{Q:PoT}(h:m113 x0 x1 S Q):ACalls Pg 113 [x0,x1] S Q:=
 calls_of_vc (fn:=Tryz.f113) (c:=c113) (n:=22) Tryz.func113 (by kernel_rfl) (by kernel_rfl) (by kernel_rfl) ms113 (Eq.mpr (by kernel_rfl) h)
def b113_0(y1 y2 y5:AV)(S:Store)(KE0:KeT)(Q:PoT):Prop:=
 lenS y1 S fun a S=>bin .lss 0 y5 a S fun c S=>onB c fun b=>gd b ((fun S0:Store=>∃ d:AV,(ldN 2 y2 S fun e S=>e=d∧S=S0)∧∃ f:AV,(ixS 3 1 y1 y5 S fun g S=>g=f∧S=S0)∧∃ h:AV,(ld1 f S fun i S=>i=h∧S=S0)∧∃ k:AV,(callF Pg 112 [d,h] S (fun _ _=>False) fun l S=>l=k∧S=S0)∧∃ m:AV,(un .not k S fun n S=>n=m∧S=S0)∧onB m fun b=>gd b (Q (.ret (.v (.bool false))) S) (bin .add 0 y5 (.v (.int .i64 1)) S fun o S=>KE0 22 (env113_0 y1 y2 o) S)) S) (lenS y1 S fun p S=>bin .leq 0 p (.v (.int .i64 2000)) S fun q S=>Q (.ret q) S)
theorem b113_0_eq(y1 y2 y5:AV)(S:Store)(KE0:KeT)(Q:PoT):vc Pg (c113.at_ [1,0,1,0,0]) (ms113.drop 1) (mkE 22 lv113_0 (env113_0 y1 y2 y5)) S (thenK (fgK lv113_0 KE0) (blockK 0 (seqK (vc Pg (c113.at_ [1,1]) (ms113.drop 1)) (bodyK Pg r113 Q))))=b113_0 y1 y2 y5 S KE0 Q:=by kernel_rfl
theorem loop113_0{y1 y2:AV}{y50:AV}{S:Store}{Q:PoT}(I:AV→Store→Prop)(μ:AV→Store→Nat)(h0:I y50 S)
    (hr:∀(y5:AV) (S:Store),I y5 S→∀ KE0:KeT,(∀(y5':AV) (S':Store),I y5' S'→μ y5' S'<μ y5 S→KE0 22 (env113_0 y1 y2 y5') S')→b113_0 y1 y2 y5 S KE0 Q):
    loopV lv113_0 (vc Pg (c113.at_ [1,0,1,0,0]) (ms113.drop 1)) 22 (env113_0 y1 y2 y50) S (blockK 0 (seqK (vc Pg (c113.at_ [1,1]) (ms113.drop 1)) (bodyK Pg r113 Q))):=by
 refine⟨fun n e S=>n=22∧∃ y5:AV,e=(env113_0 y1 y2 y5)∧I y5 S,fun _ e S=>μ (e.getD 2 .j) S,?_,?_⟩
 ·exact⟨_,_,Wk.refl _ _,rfl,_,rfl,h0⟩
 ·rintro _ e S ⟨rfl,y5,rfl,hI⟩
  exact(b113_0_eq _ _ _ _ _ _).mpr (hr y5 S hI _ (fun y5' S' hI' hm=>⟨_,_,Wk.refl _ _,⟨rfl,_,rfl,hI'⟩,hm⟩))
def c133:Code:=(Tryz.f133.body).getD .skip
def r133:List ResultVar:=Tryz.f133.results.toList
def env133_0(y1 y3 y4 y12 y13 y14:AV):List AV:=[y1,y3,y4,y12,y13,y14]
def lv133_0:List Nat:=[1,3,4,12,13,14]
def ms133:List (List Nat):=[lv133_0,[]]
def m133(x0:AV)(S:Store)(Q:PoT):Prop:=
 boxN 42 8 x0 S fun a S=>ldN 8 a S fun c S=>callF Pg 127 [c] S Q fun d S=>mkM .s S fun e S=>shift a 7 S fun f S=>ld1 f S fun g S=>lenS g S fun h S=>loopV lv133_0 (vc Pg (c133.at_ [1,1,1,0,1,0,0]) (ms133.drop 1)) 78 (env133_0 a d e g h (.v (.int .i64 0))) S (blockK 0 (seqK (vc Pg (c133.at_ [1,1,1,1]) (ms133.drop 1)) (bodyK Pg r133 Q)))
theorem calls133{x0:AV}{S:Store}{Q:PoT}(h:m133 x0 S Q):ACalls Pg 133 [x0] S Q:=
 calls_of_vc (fn:=Tryz.f133) (c:=c133) (n:=78) Tryz.func133 (by kernel_rfl) (by kernel_rfl) (by kernel_rfl) ms133 (Eq.mpr (by kernel_rfl) h)
def b133_0(y1 y3 y4 y12 y13 y14:AV)(S:Store)(KE0:KeT)(Q:PoT):Prop:=
 bin .lss 0 y14 y13 S fun c S=>onB c fun b=>gd b (ixS 130 3 y12 y14 S fun d S=>ldN 3 d S fun e S=>boxN 130 3 (.a [.v (.int .u8 0),.v (.int .i64 0),.v (.string ByteArray.empty)]) S fun f S=>stN 3 f e S fun g S=>shift f 2 S fun h S=>ld1 h S fun k S=>callF Pg 167 [k] S Q fun l S=>un .not l S fun m S=>onB m fun b=>gd b (Q (.ret (.v (.bool false))) S) (shift f 0 S fun n S=>ld1 n S fun o S=>callF Pg 168 [o] S Q fun p S=>bin .lss 0 p (.v (.int .i64 0)) S fun q S=>onB q fun b=>gd b (Q (.ret (.v (.bool false))) S) (shift f 1 S fun r S=>ld1 r S fun t S=>bin .lss 0 t (.v (.int .i64 0)) S fun u S=>onB u fun b=>gd b (Q (.ret (.v (.bool false))) S) (shift f 1 S fun w S=>ld1 w S fun x S=>shift f 0 S fun y S=>ld1 y S fun z S=>convI .i32 z S fun A S=>lkM (.i .i32) (.v (.int .i64 0)) false y3 A S fun B S=>bin .geq 0 x B S fun C S=>onB C fun b=>gd b (Q (.ret (.v (.bool false))) S) (shift f 2 S fun D S=>ld1 D S fun E S=>bld [] [] [] S fun F S=>updM .s y4 E F S fun G S=>bin .eql 0 y14 (.v (.int .i64 0)) S fun H S=>onB H fun b=>gd b (bin .add 0 y14 (.v (.int .i64 1)) S fun I S=>KE0 78 (env133_0 y1 y3 y4 y12 y13 I) S) (shift y1 7 S fun J S=>ld1 J S fun K S=>bin .sub 0 y14 (.v (.int .i64 1)) S fun L S=>ixS 130 3 K L S fun M S=>ldN 3 M S fun N S=>boxN 130 3 (.a [.v (.int .u8 0),.v (.int .i64 0),.v (.string ByteArray.empty)]) S fun O S=>stN 3 O N S fun P S=>(fun S0:Store=>∃ R:AV,(shift O 0 S fun T S=>T=R∧S=S0)∧∃ U:AV,(ld1 R S fun V S=>V=U∧S=S0)∧∃ W:AV,(callF Pg 168 [U] S (fun _ _=>False) fun X S=>X=W∧S=S0)∧∃ Y:AV,(shift f 0 S fun Z S=>Z=Y∧S=S0)∧∃ a0:AV,(ld1 Y S fun a1 S=>a1=a0∧S=S0)∧∃ a2:AV,(callF Pg 168 [a0] S (fun _ _=>False) fun a3 S=>a3=a2∧S=S0)∧∃ a4:AV,(callF Pg 170 [W,a2] S (fun _ _=>False) fun a5 S=>a5=a4∧S=S0)∧∃ a6:AV,(shift O 1 S fun a7 S=>a7=a6∧S=S0)∧∃ a8:AV,(ld1 a6 S fun a9 S=>a9=a8∧S=S0)∧∃ b0:AV,(shift f 1 S fun b1 S=>b1=b0∧S=S0)∧∃ b2:AV,(ld1 b0 S fun b3 S=>b3=b2∧S=S0)∧∃ b4:AV,(callF Pg 170 [a8,b2] S (fun _ _=>False) fun b5 S=>b5=b4∧S=S0)∧∃ b6:AV,(bslN 3 1 2 [.v (.int .i64 0)] [(0,a4),(1,b4)] S fun b7 S=>b7=b6∧S=S0)∧∃ b8:AV,(callF Pg 169 [b6] S (fun _ _=>False) fun c0 S=>c0=b8∧S=S0)∧∃ c1:AV,(bin .geq 0 b8 (.v (.int .i64 0)) S fun c2 S=>c2=c1∧S=S0)∧onB c1 fun b=>gd b (Q (.ret (.v (.bool false))) S) (bin .add 0 y14 (.v (.int .i64 1)) S fun c3 S=>KE0 78 (env133_0 y1 y3 y4 y12 y13 c3) S)) S)))))) (lenM y4 S fun c4 S=>shift y1 7 S fun c5 S=>ld1 c5 S fun c6 S=>lenS c6 S fun c7 S=>bin .eql 0 c4 c7 S fun c8 S=>Q (.ret c8) S)
theorem b133_0_eq(y1 y3 y4 y12 y13 y14:AV)(S:Store)(KE0:KeT)(Q:PoT):vc Pg (c133.at_ [1,1,1,0,1,0,0]) (ms133.drop 1) (mkE 78 lv133_0 (env133_0 y1 y3 y4 y12 y13 y14)) S (thenK (fgK lv133_0 KE0) (blockK 0 (seqK (vc Pg (c133.at_ [1,1,1,1]) (ms133.drop 1)) (bodyK Pg r133 Q))))=b133_0 y1 y3 y4 y12 y13 y14 S KE0 Q:=by kernel_rfl
theorem loop133_0{y1 y3 y4 y12 y13:AV}{y140:AV}{S:Store}{Q:PoT}(I:AV→Store→Prop)(μ:AV→Store→Nat)(h0:I y140 S)
    (hr:∀(y14:AV) (S:Store),I y14 S→∀ KE0:KeT,(∀(y14':AV) (S':Store),I y14' S'→μ y14' S'<μ y14 S→KE0 78 (env133_0 y1 y3 y4 y12 y13 y14') S')→b133_0 y1 y3 y4 y12 y13 y14 S KE0 Q):
    loopV lv133_0 (vc Pg (c133.at_ [1,1,1,0,1,0,0]) (ms133.drop 1)) 78 (env133_0 y1 y3 y4 y12 y13 y140) S (blockK 0 (seqK (vc Pg (c133.at_ [1,1,1,1]) (ms133.drop 1)) (bodyK Pg r133 Q))):=by
 refine⟨fun n e S=>n=78∧∃ y14:AV,e=(env133_0 y1 y3 y4 y12 y13 y14)∧I y14 S,fun _ e S=>μ (e.getD 5 .j) S,?_,?_⟩
 ·exact⟨_,_,Wk.refl _ _,rfl,_,rfl,h0⟩
 ·rintro _ e S ⟨rfl,y14,rfl,hI⟩
  exact(b133_0_eq _ _ _ _ _ _ _ _ _).mpr (hr y14 S hI _ (fun y14' S' hI' hm=>⟨_,_,Wk.refl _ _,⟨rfl,_,rfl,hI'⟩,hm⟩))
def c149:Code:=(Tryz.f149.body).getD .skip
def r149:List ResultVar:=Tryz.f149.results.toList
def env149_0(y0 y3:AV):List AV:=[y0,y3]
def lv149_0:List Nat:=[0,3]
def ms149:List (List Nat):=[lv149_0,[]]
def m149(x0:AV)(S:Store)(Q:PoT):Prop:=
 loopV lv149_0 (vc Pg (c149.at_ [1,0,1,0,0]) (ms149.drop 1)) 28 (env149_0 x0 (.v (.int .i64 0))) S (blockK 0 (seqK (vc Pg (c149.at_ [1,1]) (ms149.drop 1)) (bodyK Pg r149 Q)))
theorem calls149{x0:AV}{S:Store}{Q:PoT}(h:m149 x0 S Q):ACalls Pg 149 [x0] S Q:=
 calls_of_vc (fn:=Tryz.f149) (c:=c149) (n:=28) Tryz.func149 (by kernel_rfl) (by kernel_rfl) (by kernel_rfl) ms149 (Eq.mpr (by kernel_rfl) h)
def b149_0(y0 y3:AV)(S:Store)(KE0:KeT)(Q:PoT):Prop:=
 lenStr y0 S fun a S=>bin .lss 0 y3 a S fun c S=>onB c fun b=>gd b (ixStr y0 y3 S fun d S=>bin .lss 0 d (.v (.int .u8 33)) S fun e S=>onB e fun b=>gd b (Q (.ret (.v (.bool false))) S) (ixStr y0 y3 S fun f S=>bin .gtr 0 f (.v (.int .u8 126)) S fun g S=>onB g fun b=>gd b (Q (.ret (.v (.bool false))) S) (bin .add 0 y3 (.v (.int .i64 1)) S fun h S=>KE0 28 (env149_0 y0 h) S))) (lenStr y0 S fun i S=>bin .gtr 0 i (.v (.int .i64 0)) S fun k S=>onB k fun b=>gd b (lenStr y0 S fun l S=>bin .leq 0 l (.v (.int .i64 20)) S fun m S=>Q (.ret m) S) (Q (.ret (.v (.bool false))) S))
theorem b149_0_eq(y0 y3:AV)(S:Store)(KE0:KeT)(Q:PoT):vc Pg (c149.at_ [1,0,1,0,0]) (ms149.drop 1) (mkE 28 lv149_0 (env149_0 y0 y3)) S (thenK (fgK lv149_0 KE0) (blockK 0 (seqK (vc Pg (c149.at_ [1,1]) (ms149.drop 1)) (bodyK Pg r149 Q))))=b149_0 y0 y3 S KE0 Q:=by kernel_rfl
theorem loop149_0{y0:AV}{y30:AV}{S:Store}{Q:PoT}(I:AV→Store→Prop)(μ:AV→Store→Nat)(h0:I y30 S)
    (hr:∀(y3:AV) (S:Store),I y3 S→∀ KE0:KeT,(∀(y3':AV) (S':Store),I y3' S'→μ y3' S'<μ y3 S→KE0 28 (env149_0 y0 y3') S')→b149_0 y0 y3 S KE0 Q):
    loopV lv149_0 (vc Pg (c149.at_ [1,0,1,0,0]) (ms149.drop 1)) 28 (env149_0 y0 y30) S (blockK 0 (seqK (vc Pg (c149.at_ [1,1]) (ms149.drop 1)) (bodyK Pg r149 Q))):=by
 refine⟨fun n e S=>n=28∧∃ y3:AV,e=(env149_0 y0 y3)∧I y3 S,fun _ e S=>μ (e.getD 1 .j) S,?_,?_⟩
 ·exact⟨_,_,Wk.refl _ _,rfl,_,rfl,h0⟩
 ·rintro _ e S ⟨rfl,y3,rfl,hI⟩
  exact(b149_0_eq _ _ _ _ _).mpr (hr y3 S hI _ (fun y3' S' hI' hm=>⟨_,_,Wk.refl _ _,⟨rfl,_,rfl,hI'⟩,hm⟩))
def c167:Code:=(Tryz.f167.body).getD .skip
def r167:List ResultVar:=Tryz.f167.results.toList
def env167_0(y0 y5 y6:AV):List AV:=[y0,y5,y6]
def lv167_0:List Nat:=[0,5,6]
def ms167:List (List Nat):=[lv167_0,[]]
def m167(x0:AV)(S:Store)(Q:PoT):Prop:=
 lenStr x0 S fun a S=>loopV lv167_0 (vc Pg (c167.at_ [1,0,1,0,0]) (ms167.drop 1)) 27 (env167_0 x0 a (.v (.int .i64 0))) S (blockK 0 (seqK (vc Pg (c167.at_ [1,1]) (ms167.drop 1)) (bodyK Pg r167 Q)))
theorem calls167{x0:AV}{S:Store}{Q:PoT}(h:m167 x0 S Q):ACalls Pg 167 [x0] S Q:=
 calls_of_vc (fn:=Tryz.f167) (c:=c167) (n:=27) Tryz.func167 (by kernel_rfl) (by kernel_rfl) (by kernel_rfl) ms167 (Eq.mpr (by kernel_rfl) h)
def b167_0(y0 y5 y6:AV)(S:Store)(KE0:KeT)(Q:PoT):Prop:=
 bin .lss 0 y6 y5 S fun a S=>onB a fun b=>gd b (ixStr y0 y6 S fun c S=>bin .leq 0 c (.v (.int .u8 32)) S fun d S=>onB d fun b=>gd b (Q (.ret (.v (.bool false))) S) (ixStr y0 y6 S fun e S=>bin .gtr 0 e (.v (.int .u8 126)) S fun f S=>onB f fun b=>gd b (Q (.ret (.v (.bool false))) S) (bin .add 0 y6 (.v (.int .i64 1)) S fun g S=>KE0 27 (env167_0 y0 y5 g) S))) (bin .neq 0 y0 (.v (.string { data:=#[] })) S fun h S=>onB h fun b=>gd b (lenStr y0 S fun i S=>bin .leq 0 i (.v (.int .i64 20)) S fun k S=>Q (.ret k) S) (Q (.ret (.v (.bool false))) S))
theorem b167_0_eq(y0 y5 y6:AV)(S:Store)(KE0:KeT)(Q:PoT):vc Pg (c167.at_ [1,0,1,0,0]) (ms167.drop 1) (mkE 27 lv167_0 (env167_0 y0 y5 y6)) S (thenK (fgK lv167_0 KE0) (blockK 0 (seqK (vc Pg (c167.at_ [1,1]) (ms167.drop 1)) (bodyK Pg r167 Q))))=b167_0 y0 y5 y6 S KE0 Q:=by kernel_rfl
theorem loop167_0{y0 y5:AV}{y60:AV}{S:Store}{Q:PoT}(I:AV→Store→Prop)(μ:AV→Store→Nat)(h0:I y60 S)
    (hr:∀(y6:AV) (S:Store),I y6 S→∀ KE0:KeT,(∀(y6':AV) (S':Store),I y6' S'→μ y6' S'<μ y6 S→KE0 27 (env167_0 y0 y5 y6') S')→b167_0 y0 y5 y6 S KE0 Q):
    loopV lv167_0 (vc Pg (c167.at_ [1,0,1,0,0]) (ms167.drop 1)) 27 (env167_0 y0 y5 y60) S (blockK 0 (seqK (vc Pg (c167.at_ [1,1]) (ms167.drop 1)) (bodyK Pg r167 Q))):=by
 refine⟨fun n e S=>n=27∧∃ y6:AV,e=(env167_0 y0 y5 y6)∧I y6 S,fun _ e S=>μ (e.getD 2 .j) S,?_,?_⟩
 ·exact⟨_,_,Wk.refl _ _,rfl,_,rfl,h0⟩
 ·rintro _ e S ⟨rfl,y6,rfl,hI⟩
  exact(b167_0_eq _ _ _ _ _ _).mpr (hr y6 S hI _ (fun y6' S' hI' hm=>⟨_,_,Wk.refl _ _,⟨rfl,_,rfl,hI'⟩,hm⟩))
def c151:Code:=(Tryz.f151.body).getD .skip
def r151:List ResultVar:=Tryz.f151.results.toList
def env151_0(y0 y3 y4:AV):List AV:=[y0,y3,y4]
def lv151_0:List Nat:=[0,3,4]
def ms151:List (List Nat):=[lv151_0,[]]
def m151(x0:AV)(S:Store)(Q:PoT):Prop:=
 loopV lv151_0 (vc Pg (c151.at_ [1,1,0,1,0,0]) (ms151.drop 1)) 17 (env151_0 x0 (.v (.string { data:=#[105,108,111,98,99,102] })) (.v (.int .i64 0))) S (blockK 0 (seqK (vc Pg (c151.at_ [1,1,1]) (ms151.drop 1)) (bodyK Pg r151 Q)))
theorem calls151{x0:AV}{S:Store}{Q:PoT}(h:m151 x0 S Q):ACalls Pg 151 [x0] S Q:=
 calls_of_vc (fn:=Tryz.f151) (c:=c151) (n:=17) Tryz.func151 (by kernel_rfl) (by kernel_rfl) (by kernel_rfl) ms151 (Eq.mpr (by kernel_rfl) h)
def b151_0(y0 y3 y4:AV)(S:Store)(KE0:KeT)(Q:PoT):Prop:=
 lenStr y3 S fun a S=>bin .lss 0 y4 a S fun c S=>onB c fun b=>gd b (ixStr y3 y4 S fun d S=>bin .eql 0 d y0 S fun e S=>onB e fun b=>gd b (Q (.ret y4) S) (bin .add 0 y4 (.v (.int .i64 1)) S fun f S=>KE0 17 (env151_0 y0 y3 f) S)) (Q (.ret (.v (.int .i64 (-1)))) S)
theorem b151_0_eq(y0 y3 y4:AV)(S:Store)(KE0:KeT)(Q:PoT):vc Pg (c151.at_ [1,1,0,1,0,0]) (ms151.drop 1) (mkE 17 lv151_0 (env151_0 y0 y3 y4)) S (thenK (fgK lv151_0 KE0) (blockK 0 (seqK (vc Pg (c151.at_ [1,1,1]) (ms151.drop 1)) (bodyK Pg r151 Q))))=b151_0 y0 y3 y4 S KE0 Q:=by kernel_rfl
theorem loop151_0{y0 y3:AV}{y40:AV}{S:Store}{Q:PoT}(I:AV→Store→Prop)(μ:AV→Store→Nat)(h0:I y40 S)
    (hr:∀(y4:AV) (S:Store),I y4 S→∀ KE0:KeT,(∀(y4':AV) (S':Store),I y4' S'→μ y4' S'<μ y4 S→KE0 17 (env151_0 y0 y3 y4') S')→b151_0 y0 y3 y4 S KE0 Q):
    loopV lv151_0 (vc Pg (c151.at_ [1,1,0,1,0,0]) (ms151.drop 1)) 17 (env151_0 y0 y3 y40) S (blockK 0 (seqK (vc Pg (c151.at_ [1,1,1]) (ms151.drop 1)) (bodyK Pg r151 Q))):=by
 refine⟨fun n e S=>n=17∧∃ y4:AV,e=(env151_0 y0 y3 y4)∧I y4 S,fun _ e S=>μ (e.getD 2 .j) S,?_,?_⟩
 ·exact⟨_,_,Wk.refl _ _,rfl,_,rfl,h0⟩
 ·rintro _ e S ⟨rfl,y4,rfl,hI⟩
  exact(b151_0_eq _ _ _ _ _ _).mpr (hr y4 S hI _ (fun y4' S' hI' hm=>⟨_,_,Wk.refl _ _,⟨rfl,_,rfl,hI'⟩,hm⟩))
def c168:Code:=(Tryz.f168.body).getD .skip
def r168:List ResultVar:=Tryz.f168.results.toList
def env168_0(y0 y5:AV):List AV:=[y0,y5]
def lv168_0:List Nat:=[0,5]
def ms168:List (List Nat):=[lv168_0,[]]
def m168(x0:AV)(S:Store)(Q:PoT):Prop:=
 rngS (.v (.string { data:=#[105,108,111,98,99,102] })) S fun a S=>loopV lv168_0 (vc Pg (c168.at_ [1,0,1,0,0]) (ms168.drop 1)) 15 (env168_0 x0 a) S (blockK 0 (seqK (vc Pg (c168.at_ [1,1]) (ms168.drop 1)) (bodyK Pg r168 Q)))
theorem calls168{x0:AV}{S:Store}{Q:PoT}(h:m168 x0 S Q):ACalls Pg 168 [x0] S Q:=
 calls_of_vc (fn:=Tryz.f168) (c:=c168) (n:=15) Tryz.func168 (by kernel_rfl) (by kernel_rfl) (by kernel_rfl) ms168 (Eq.mpr (by kernel_rfl) h)
def b168_0(y0 y5:AV)(S:Store)(KE0:KeT)(Q:PoT):Prop:=
 nextM true y5 S fun a S=>extr a 0 S fun c S=>onB c fun b=>gd b (extr a 1 S fun d S=>extr a 2 S fun e S=>convI .i32 y0 S fun f S=>bin .eql 0 f e S fun g S=>onB g fun b=>gd b (Q (.ret d) S) (KE0 15 (env168_0 y0 y5) S)) (Q (.ret (.v (.int .i64 (-1)))) S)
theorem b168_0_eq(y0 y5:AV)(S:Store)(KE0:KeT)(Q:PoT):vc Pg (c168.at_ [1,0,1,0,0]) (ms168.drop 1) (mkE 15 lv168_0 (env168_0 y0 y5)) S (thenK (fgK lv168_0 KE0) (blockK 0 (seqK (vc Pg (c168.at_ [1,1]) (ms168.drop 1)) (bodyK Pg r168 Q))))=b168_0 y0 y5 S KE0 Q:=by kernel_rfl
theorem loop168_0{y0 y5:AV}{S:Store}{Q:PoT}(I:Store→Prop)(μ:Store→Nat)(h0:I  S)
    (hr:∀(S:Store),I  S→∀ KE0:KeT,(∀(S':Store),I  S'→μ  S'<μ  S→KE0 15 (env168_0 y0 y5) S')→b168_0 y0 y5 S KE0 Q):
    loopV lv168_0 (vc Pg (c168.at_ [1,0,1,0,0]) (ms168.drop 1)) 15 (env168_0 y0 y5) S (blockK 0 (seqK (vc Pg (c168.at_ [1,1]) (ms168.drop 1)) (bodyK Pg r168 Q))):=by
 refine⟨fun n e S=>n=15∧e=(env168_0 y0 y5)∧I  S,fun _ e S=>μ  S,?_,?_⟩
 ·exact⟨_,_,Wk.refl _ _,rfl,rfl,h0⟩
 ·rintro _ e S ⟨rfl,rfl,hI⟩
  exact(b168_0_eq _ _ _ _ _).mpr (hr  S hI _ (fun  S' hI' hm=>⟨_,_,Wk.refl _ _,⟨rfl,rfl,hI'⟩,hm⟩))
def c40:Code:=(Tryz.f40.body).getD .skip
def ms40:List (List Nat):=[[]]
def m40(x0:AV)(S:Store)(Q:PoT):Prop:=
 boxN 82 2 x0 S fun a S=>shift a 0 S fun c S=>ld1 c S fun d S=>bin .add 0 d (.v (.int .i64 1)) S fun e S=>shift a 1 S fun f S=>ld1 f S fun g S=>lenS g S fun h S=>bin .add 0 e h S fun i S=>Q (.ret i) S
theorem calls40{x0:AV}{S:Store}{Q:PoT}(h:m40 x0 S Q):ACalls Pg 40 [x0] S Q:=
 calls_of_vc (fn:=Tryz.f40) (c:=c40) (n:=10) Tryz.func40 (by kernel_rfl) (by kernel_rfl) (by kernel_rfl) ms40 (Eq.mpr (by kernel_rfl) h)
def c112:Code:=(Tryz.f112.body).getD .skip
def ms112:List (List Nat):=[[]]
def m112(x0 x1:AV)(S:Store)(Q:PoT):Prop:=
 boxN 82 2 x0 S fun a S=>shift a 0 S fun c S=>ld1 c S fun d S=>bin .geq 0 d (.v (.int .i64 0)) S fun e S=>onB e fun b=>gd b (shift a 0 S fun f S=>ld1 f S fun g S=>bin .leq 0 g (.v (.int .i64 2000)) S fun h S=>onB h fun b=>gd b (bin .geq 0 x1 (.v (.int .i64 0)) S fun i S=>onB i fun b=>gd b (bin .quo 0 x1 (.v (.int .i64 2)) S fun k S=>ldN 2 a S fun l S=>callF Pg 40 [l] S Q fun m S=>bin .lss 0 k m S fun n S=>Q (.ret n) S) (Q (.ret (.v (.bool false))) S)) (Q (.ret (.v (.bool false))) S)) (Q (.ret (.v (.bool false))) S)
theorem calls112{x0 x1:AV}{S:Store}{Q:PoT}(h:m112 x0 x1 S Q):ACalls Pg 112 [x0,x1] S Q:=
 calls_of_vc (fn:=Tryz.f112) (c:=c112) (n:=24) Tryz.func112 (by kernel_rfl) (by kernel_rfl) (by kernel_rfl) ms112 (Eq.mpr (by kernel_rfl) h)
def c111:Code:=(Tryz.f111.body).getD .skip
def r111:List ResultVar:=Tryz.f111.results.toList
def env111_0(y1 y3:AV):List AV:=[y1,y3]
def lv111_0:List Nat:=[1,3]
def env111_1(y1 y3 y6:AV):List AV:=[y1,y3,y6]
def lv111_1:List Nat:=[1,3,6]
def ms111:List (List Nat):=[lv111_0,lv111_1,[]]
def m111(x0:AV)(S:Store)(Q:PoT):Prop:=
 boxN 82 2 x0 S fun a S=>shift a 0 S fun c S=>ld1 c S fun d S=>bin .lss 0 d (.v (.int .i64 0)) S fun e S=>onB e fun b=>gd b (Q (.ret (.v (.bool false))) S) (shift a 0 S fun f S=>ld1 f S fun g S=>bin .gtr 0 g (.v (.int .i64 2000)) S fun h S=>onB h fun b=>gd b (Q (.ret (.v (.bool false))) S) (shift a 1 S fun i S=>ld1 i S fun k S=>lenS k S fun l S=>bin .gtr 0 l (.v (.int .i64 2000)) S fun m S=>onB m fun b=>gd b (Q (.ret (.v (.bool false))) S) (ldN 2 a S fun n S=>callF Pg 40 [n] S Q fun o S=>bin .gtr 0 o (.v (.int .i64 2000)) S fun p S=>onB p fun b=>gd b (Q (.ret (.v (.bool false))) S) (loopV lv111_0 (vc Pg (c111.at_ [1,1,0,1,0,0]) (ms111.drop 1)) 80 (env111_0 a (.v (.int .i64 0))) S (blockK 0 (seqK (vc Pg (c111.at_ [1,1,1]) (ms111.drop 2)) (bodyK Pg r111 Q)))))))
theorem calls111{x0:AV}{S:Store}{Q:PoT}(h:m111 x0 S Q):ACalls Pg 111 [x0] S Q:=
 calls_of_vc (fn:=Tryz.f111) (c:=c111) (n:=80) Tryz.func111 (by kernel_rfl) (by kernel_rfl) (by kernel_rfl) ms111 (Eq.mpr (by kernel_rfl) h)
def b111_0(y1 y3:AV)(S:Store)(KE0:KeT)(Q:PoT):Prop:=
 shift y1 1 S fun a S=>ld1 a S fun c S=>lenS c S fun d S=>bin .lss 0 y3 d S fun e S=>onB e fun b=>gd b ((fun S0:Store=>∃ f:AV,(shift y1 1 S fun g S=>g=f∧S=S0)∧∃ h:AV,(ld1 f S fun i S=>i=h∧S=S0)∧∃ k:AV,(ixS 124 2 h y3 S fun l S=>l=k∧S=S0)∧∃ m:AV,(ixA 2 1 k (.v (.int .i64 0)) S fun n S=>n=m∧S=S0)∧∃ o:AV,(ld1 m S fun p S=>p=o∧S=S0)∧∃ q:AV,(shift y1 1 S fun r S=>r=q∧S=S0)∧∃ s:AV,(ld1 q S fun t S=>t=s∧S=S0)∧∃ u:AV,(ixS 124 2 s y3 S fun w S=>w=u∧S=S0)∧∃ x:AV,(ixA 2 1 u (.v (.int .i64 1)) S fun y S=>y=x∧S=S0)∧∃ z:AV,(ld1 x S fun A S=>A=z∧S=S0)∧bin .lss 0 z (.v (.int .i64 2)) S fun B S=>onB B fun b=>gd b (Q (.ret (.v (.bool false))) S) (bin .quo 0 o (.v (.int .i64 2)) S fun C S=>bin .quo 0 z (.v (.int .i64 2)) S fun D S=>bin .leq 0 C D S fun E S=>onB E fun b=>gd b (Q (.ret (.v (.bool false))) S) (bin .quo 0 o (.v (.int .i64 2)) S fun F S=>shift y1 0 S fun G S=>ld1 G S fun H S=>bin .add 0 H (.v (.int .i64 1)) S fun I S=>bin .add 0 I y3 S fun J S=>bin .geq 0 F J S fun K S=>onB K fun b=>gd b (Q (.ret (.v (.bool false))) S) (loopV lv111_1 (vc Pg (c111.at_ [1,1,0,1,0,0,1,0,0,1,1,1,0,0]) (ms111.drop 2)) 80 (env111_1 y1 y3 (.v (.int .i64 0))) S (blockK 2 (blockK 1 (seqK (vc Pg (c111.at_ [1,1,0,1,0,0,1,1]) (ms111.drop 2)) (thenK (fgK lv111_0 KE0) (blockK 0 (seqK (vc Pg (c111.at_ [1,1,1]) (ms111.drop 2)) (bodyK Pg r111 Q))))))))))) S) (Q (.ret (.v (.bool true))) S)
theorem b111_0_eq(y1 y3:AV)(S:Store)(KE0:KeT)(Q:PoT):vc Pg (c111.at_ [1,1,0,1,0,0]) (ms111.drop 1) (mkE 80 lv111_0 (env111_0 y1 y3)) S (thenK (fgK lv111_0 KE0) (blockK 0 (seqK (vc Pg (c111.at_ [1,1,1]) (ms111.drop 2)) (bodyK Pg r111 Q))))=b111_0 y1 y3 S KE0 Q:=by kernel_rfl
theorem loop111_0{y1:AV}{y30:AV}{S:Store}{Q:PoT}(I:AV→Store→Prop)(μ:AV→Store→Nat)(h0:I y30 S)
    (hr:∀(y3:AV) (S:Store),I y3 S→∀ KE0:KeT,(∀(y3':AV) (S':Store),I y3' S'→μ y3' S'<μ y3 S→KE0 80 (env111_0 y1 y3') S')→b111_0 y1 y3 S KE0 Q):
    loopV lv111_0 (vc Pg (c111.at_ [1,1,0,1,0,0]) (ms111.drop 1)) 80 (env111_0 y1 y30) S (blockK 0 (seqK (vc Pg (c111.at_ [1,1,1]) (ms111.drop 2)) (bodyK Pg r111 Q))):=by
 refine⟨fun n e S=>n=80∧∃ y3:AV,e=(env111_0 y1 y3)∧I y3 S,fun _ e S=>μ (e.getD 1 .j) S,?_,?_⟩
 ·exact⟨_,_,Wk.refl _ _,rfl,_,rfl,h0⟩
 ·rintro _ e S ⟨rfl,y3,rfl,hI⟩
  exact(b111_0_eq _ _ _ _ _).mpr (hr y3 S hI _ (fun y3' S' hI' hm=>⟨_,_,Wk.refl _ _,⟨rfl,_,rfl,hI'⟩,hm⟩))
def b111_1(y1 y3 y6:AV)(S:Store)(KE1:KeT)(KE0:KeT)(Q:PoT):Prop:=
 bin .lss 0 y6 y3 S fun a S=>onB a fun b=>gd b ((fun S0:Store=>∃ c:AV,(shift y1 1 S fun d S=>d=c∧S=S0)∧∃ e:AV,(ld1 c S fun f S=>f=e∧S=S0)∧∃ g:AV,(ixS 124 2 e y6 S fun h S=>h=g∧S=S0)∧∃ i:AV,(ldN 2 g S fun k S=>k=i∧S=S0)∧∃ l:AV,(shift y1 1 S fun m S=>m=l∧S=S0)∧∃ n:AV,(ld1 l S fun o S=>o=n∧S=S0)∧∃ p:AV,(ixS 124 2 n y3 S fun q S=>q=p∧S=S0)∧∃ r:AV,(ldN 2 p S fun s S=>s=r∧S=S0)∧∃ t:AV,(binP .i64 .eql i r S fun u S=>u=t∧S=S0)∧onB t fun b=>gd b (Q (.ret (.v (.bool false))) S) (bin .add 0 y6 (.v (.int .i64 1)) S fun w S=>KE1 80 (env111_1 y1 y3 w) S)) S) (bin .add 0 y3 (.v (.int .i64 1)) S fun x S=>KE0 80 (env111_0 y1 x) S)
theorem b111_1_eq(y1 y3 y6:AV)(S:Store)(KE1:KeT)(KE0:KeT)(Q:PoT):vc Pg (c111.at_ [1,1,0,1,0,0,1,0,0,1,1,1,0,0]) (ms111.drop 2) (mkE 80 lv111_1 (env111_1 y1 y3 y6)) S (thenK (fgK lv111_1 KE1) (blockK 2 (blockK 1 (seqK (vc Pg (c111.at_ [1,1,0,1,0,0,1,1]) (ms111.drop 2)) (thenK (fgK lv111_0 KE0) (blockK 0 (seqK (vc Pg (c111.at_ [1,1,1]) (ms111.drop 2)) (bodyK Pg r111 Q))))))))=b111_1 y1 y3 y6 S KE1 KE0 Q:=by kernel_rfl
theorem loop111_1{y1 y3:AV}{y60:AV}{S:Store}{KE0:KeT}{Q:PoT}(I:AV→Store→Prop)(μ:AV→Store→Nat)(h0:I y60 S)
    (hr:∀(y6:AV) (S:Store),I y6 S→∀ KE1:KeT,(∀(y6':AV) (S':Store),I y6' S'→μ y6' S'<μ y6 S→KE1 80 (env111_1 y1 y3 y6') S')→b111_1 y1 y3 y6 S KE1 KE0 Q):
    loopV lv111_1 (vc Pg (c111.at_ [1,1,0,1,0,0,1,0,0,1,1,1,0,0]) (ms111.drop 2)) 80 (env111_1 y1 y3 y60) S (blockK 2 (blockK 1 (seqK (vc Pg (c111.at_ [1,1,0,1,0,0,1,1]) (ms111.drop 2)) (thenK (fgK lv111_0 KE0) (blockK 0 (seqK (vc Pg (c111.at_ [1,1,1]) (ms111.drop 2)) (bodyK Pg r111 Q))))))):=by
 refine⟨fun n e S=>n=80∧∃ y6:AV,e=(env111_1 y1 y3 y6)∧I y6 S,fun _ e S=>μ (e.getD 2 .j) S,?_,?_⟩
 ·exact⟨_,_,Wk.refl _ _,rfl,_,rfl,h0⟩
 ·rintro _ e S ⟨rfl,y6,rfl,hI⟩
  exact(b111_1_eq _ _ _ _ _ _ _).mpr (hr y6 S hI _ (fun y6' S' hI' hm=>⟨_,_,Wk.refl _ _,⟨rfl,_,rfl,hI'⟩,hm⟩))
def c120:Code:=(Tryz.f120.body).getD .skip
def r120:List ResultVar:=Tryz.f120.results.toList
def env120_0(y1 y2 y3 y6 y9:AV):List AV:=[y1,y2,y3,y6,y9]
def lv120_0:List Nat:=[1,2,3,6,9]
def ms120:List (List Nat):=[lv120_0,[]]
def m120(x0 x1 x2:AV)(S:Store)(Q:PoT):Prop:=
 boxN 82 2 x0 S fun c S=>boxN 82 2 (.a [.v (.int .i64 0),.nl]) S fun d S=>ldN 2 c S fun e S=>callF Pg 111 [e] S Q fun f S=>un .not f S fun g S=>onB g fun b=>gd b (bld [(0,1),(1,1)] [.v (.int .i64 0),.nl] [] S fun h S=>stN 2 d h S fun i S=>ldN 2 d S fun k _=>Q (.ret (.t [k,.v (.int .i64 0),.v (.int .i64 1)])) S) (ldN 2 c S fun l S=>callF Pg 112 [l,x1] S Q fun m S=>un .not m S fun n S=>onB n fun b=>gd b (bld [(0,1),(1,1)] [.v (.int .i64 0),.nl] [] S fun o S=>stN 2 d o S fun p S=>ldN 2 d S fun q _=>Q (.ret (.t [q,.v (.int .i64 0),.v (.int .i64 1)])) S) (ldN 2 c S fun r S=>callF Pg 112 [r,x2] S Q fun s S=>un .not s S fun u S=>onB u fun b=>gd b (bld [(0,1),(1,1)] [.v (.int .i64 0),.nl] [] S fun w S=>stN 2 d w S fun x S=>ldN 2 d S fun y _=>Q (.ret (.t [y,.v (.int .i64 0),.v (.int .i64 1)])) S) (mxI true x1 x2 S fun z S=>mxI false x1 x2 S fun A S=>bin .eql 0 A (.v (.int .i64 0)) S fun B S=>onB B fun b=>gd b (ldN 2 c S fun C S=>stN 2 d C S fun D S=>ldN 2 d S fun E _=>Q (.ret (.t [E,.v (.int .i64 0),.v (.int .i64 0)])) S) (bin .quo 0 z (.v (.int .i64 2)) S fun F S=>bin .quo 0 A (.v (.int .i64 2)) S fun G S=>bin .eql 0 F G S fun H S=>onB H fun b=>gd b (bin .neq 0 z A S fun I S=>onB I fun b=>gd b (ldN 2 c S fun J S=>stN 2 d J S fun K S=>ldN 2 d S fun L _=>Q (.ret (.t [L,.v (.int .i64 0),.v (.int .i64 0)])) S) (bin .eql 0 A (.v (.int .i64 1)) S fun M S=>onB M fun b=>gd b (ldN 2 c S fun N S=>stN 2 d N S fun O S=>ldN 2 d S fun P _=>Q (.ret (.t [P,z,.v (.int .i64 0)])) S) (bin .eql 0 z A S fun R S=>onB R fun b=>gd b (ldN 2 c S fun T S=>stN 2 d T S fun U S=>ldN 2 d S fun V _=>Q (.ret (.t [V,z,.v (.int .i64 0)])) S) (loopV lv120_0 (vc Pg (c120.at_ [1,1,1,1,0,1,0,0]) (ms120.drop 1)) 105 (env120_0 z A c d (.v (.int .i64 0))) S (blockK 1 (seqK (vc Pg (c120.at_ [1,1,1,1,1]) (ms120.drop 1)) (bodyK Pg r120 Q))))))) (bin .eql 0 A (.v (.int .i64 1)) S fun W S=>onB W fun b=>gd b (ldN 2 c S fun X S=>stN 2 d X S fun Y S=>ldN 2 d S fun Z _=>Q (.ret (.t [Z,z,.v (.int .i64 0)])) S) (bin .eql 0 z A S fun a0 S=>onB a0 fun b=>gd b (ldN 2 c S fun a1 S=>stN 2 d a1 S fun a2 S=>ldN 2 d S fun a3 _=>Q (.ret (.t [a3,z,.v (.int .i64 0)])) S) (loopV lv120_0 (vc Pg (c120.at_ [1,1,1,1,0,1,0,0]) (ms120.drop 1)) 105 (env120_0 z A c d (.v (.int .i64 0))) S (blockK 1 (seqK (vc Pg (c120.at_ [1,1,1,1,1]) (ms120.drop 1)) (bodyK Pg r120 Q))))))))))
theorem calls120{x0 x1 x2:AV}{S:Store}{Q:PoT}(h:m120 x0 x1 x2 S Q):ACalls Pg 120 [x0,x1,x2] S Q:=
 calls_of_vc (fn:=Tryz.f120) (c:=c120) (n:=105) Tryz.func120 (by kernel_rfl) (by kernel_rfl) (by kernel_rfl) ms120 (Eq.mpr (by kernel_rfl) h)
def b120_0(y1 y2 y3 y6 y9:AV)(S:Store)(KE0:KeT)(Q:PoT):Prop:=
 shift y3 1 S fun c S=>ld1 c S fun d S=>lenS d S fun e S=>bin .lss 0 y9 e S fun f S=>onB f fun b=>gd b (shift y3 1 S fun g S=>ld1 g S fun h S=>ixS 124 2 h y9 S fun i S=>ldN 2 i S fun k S=>bld [(0,1),(1,1)] [.v (.int .i64 0),.v (.int .i64 0)] [(0,y1),(1,y2)] S fun l S=>binP .i64 .eql k l S fun m S=>onB m fun b=>gd b (∃ n:AV,(∀ T:Store,Keep S T→ldN 2 y3 T fun o S=>o=n∧S=T)∧∃ p:AV,(∀ T:Store,Keep S T→shift y3 0 T fun q S=>q=p∧S=T)∧∃ r:AV,(∀ T:Store,Keep S T→ld1 p T fun s S=>s=r∧S=T)∧∃ u:AV,(∀ T:Store,Keep S T→bin .add 0 r (.v (.int .i64 1)) T fun w S=>w=u∧S=T)∧∃ x:AV,(∀ T:Store,Keep S T→bin .add 0 u y9 T fun y S=>y=x∧S=T)∧∃ z:AV,(∀ T:Store,Keep S T→bin .mul 0 (.v (.int .i64 2)) x T fun A S=>A=z∧S=T)∧stN 2 y6 n S fun B S=>(∀ T:Store,Keep S T→bin .mul 0 (.v (.int .i64 2)) x T fun C S=>C=z∧S=T)∧(∀ T:Store,Keep S T→bin .add 0 u y9 T fun D S=>D=x∧S=T)∧(∀ T:Store,Keep S T→bin .add 0 r (.v (.int .i64 1)) T fun E S=>E=u∧S=T)∧(∀ T:Store,Keep S T→ld1 p T fun F S=>F=r∧S=T)∧(∀ T:Store,Keep S T→shift y3 0 T fun G S=>G=p∧S=T)∧ldN 2 y6 S fun H _=>Q (.ret (.t [H,z,.v (.int .i64 0)])) S) (bin .add 0 y9 (.v (.int .i64 1)) S fun I S=>KE0 105 (env120_0 y1 y2 y3 y6 I) S)) (ldN 2 y3 S fun J S=>callF Pg 40 [J] S Q fun K S=>bin .geq 0 K (.v (.int .i64 2000)) S fun L S=>onB L fun b=>gd b (bld [(0,1),(1,1)] [.v (.int .i64 0),.nl] [] S fun M S=>stN 2 y6 M S fun N S=>ldN 2 y6 S fun O _=>Q (.ret (.t [O,.v (.int .i64 0),.v (.int .i64 2)])) S) (boxN 82 2 (.a [.v (.int .i64 0),.nl]) S fun P S=>shift y3 0 S fun R S=>ld1 R S fun U S=>shift P 0 S fun V S=>stN 1 V U S fun W S=>shift P 1 S fun X S=>ld1 X S fun Y S=>shift y3 1 S fun Z S=>ld1 Z S fun a0 S=>appS 124 2 16 Y a0 S fun a1 S=>bld [(0,1),(1,1)] [.v (.int .i64 0),.v (.int .i64 0)] [(0,y1),(1,y2)] S fun a2 S=>bslN 124 2 1 [.v (.int .i64 0),.v (.int .i64 0)] [(0,a2)] S fun a3 S=>appS 124 2 16 a1 a3 S fun a4 S=>shift P 1 S fun a5 S=>stN 1 a5 a4 S fun a6 S=>∃ a7:AV,(∀ T:Store,Keep S T→ldN 2 P T fun a8 S=>a8=a7∧S=T)∧∃ a9:AV,(∀ T:Store,Keep S T→ldN 2 P T fun b0 S=>b0=a9∧S=T)∧∃ b1:AV,(∀ T:Store,Keep S T→callF Pg 40 [a9] T (fun _ _=>False) fun b2 S=>b2=b1∧S=T)∧∃ b3:AV,(∀ T:Store,Keep S T→bin .mul 0 (.v (.int .i64 2)) b1 T fun b4 S=>b4=b3∧S=T)∧∃ b5:AV,(∀ T:Store,Keep S T→bin .sub 0 b3 (.v (.int .i64 2)) T fun b6 S=>b6=b5∧S=T)∧stN 2 y6 a7 S fun b7 S=>(∀ T:Store,Keep S T→bin .sub 0 b3 (.v (.int .i64 2)) T fun b8 S=>b8=b5∧S=T)∧(∀ T:Store,Keep S T→bin .mul 0 (.v (.int .i64 2)) b1 T fun b9 S=>b9=b3∧S=T)∧ldN 2 y6 S fun c0 _=>Q (.ret (.t [c0,b5,.v (.int .i64 0)])) S))
theorem b120_0_eq(y1 y2 y3 y6 y9:AV)(S:Store)(KE0:KeT)(Q:PoT):vc Pg (c120.at_ [1,1,1,1,0,1,0,0]) (ms120.drop 1) (mkE 105 lv120_0 (env120_0 y1 y2 y3 y6 y9)) S (thenK (fgK lv120_0 KE0) (blockK 1 (seqK (vc Pg (c120.at_ [1,1,1,1,1]) (ms120.drop 1)) (bodyK Pg r120 Q))))=b120_0 y1 y2 y3 y6 y9 S KE0 Q:=by kernel_rfl
theorem loop120_0{y1 y2 y3 y6:AV}{y90:AV}{S:Store}{Q:PoT}(I:AV→Store→Prop)(μ:AV→Store→Nat)(h0:I y90 S)
    (hr:∀(y9:AV) (S:Store),I y9 S→∀ KE0:KeT,(∀(y9':AV) (S':Store),I y9' S'→μ y9' S'<μ y9 S→KE0 105 (env120_0 y1 y2 y3 y6 y9') S')→b120_0 y1 y2 y3 y6 y9 S KE0 Q):
    loopV lv120_0 (vc Pg (c120.at_ [1,1,1,1,0,1,0,0]) (ms120.drop 1)) 105 (env120_0 y1 y2 y3 y6 y90) S (blockK 1 (seqK (vc Pg (c120.at_ [1,1,1,1,1]) (ms120.drop 1)) (bodyK Pg r120 Q))):=by
 refine⟨fun n e S=>n=105∧∃ y9:AV,e=(env120_0 y1 y2 y3 y6 y9)∧I y9 S,fun _ e S=>μ (e.getD 4 .j) S,?_,?_⟩
 ·exact⟨_,_,Wk.refl _ _,rfl,_,rfl,h0⟩
 ·rintro _ e S ⟨rfl,y9,rfl,hI⟩
  exact(b120_0_eq _ _ _ _ _ _ _ _).mpr (hr y9 S hI _ (fun y9' S' hI' hm=>⟨_,_,Wk.refl _ _,⟨rfl,_,rfl,hI'⟩,hm⟩))
def c204:Code:=(Tryz.f204.body).getD .skip
def r204:List ResultVar:=Tryz.f204.results.toList
def env204_0(y0 y13 y14 y15:AV):List AV:=[y0,y13,y14,y15]
def lv204_0:List Nat:=[0,13,14,15]
def ms204:List (List Nat):=[lv204_0,[]]
def m204(x0:AV)(S:Store)(Q:PoT):Prop:=
 mkM (.p .i64) S fun a S=>nilChk x0 S fun c S=>shift c 4 S fun d S=>stN 1 d a S fun e S=>nilChk x0 S fun f S=>shift f 3 S fun g S=>ld1 g S fun h S=>lenS h S fun i S=>loopV lv204_0 (vc Pg (c204.at_ [1,1,0,0]) (ms204.drop 1)) 38 (env204_0 x0 h i (.v (.int .i64 0))) S (blockK 0 (bodyK Pg r204 Q))
theorem calls204{x0:AV}{S:Store}{Q:PoT}(h:m204 x0 S Q):ACalls Pg 204 [x0] S Q:=
 calls_of_vc (fn:=Tryz.f204) (c:=c204) (n:=38) Tryz.func204 (by kernel_rfl) (by kernel_rfl) (by kernel_rfl) ms204 (Eq.mpr (by kernel_rfl) h)
def b204_0(y0 y13 y14 y15:AV)(S:Store)(KE0:KeT)(Q:PoT):Prop:=
 bin .lss 0 y15 y14 S fun c S=>onB c fun b=>gd b (ixS 124 2 y13 y15 S fun d S=>ldN 2 d S fun e S=>boxN 124 2 (.a [.v (.int .i64 0),.v (.int .i64 0)]) S fun f S=>stN 2 f e S fun g S=>(fun S0:Store=>∃ h:AV,(nilChk y0 S fun i S=>i=h∧S=S0)∧∃ k:AV,(shift h 4 S fun l S=>l=k∧S=S0)∧∃ m:AV,(ld1 k S fun n S=>n=m∧S=S0)∧∃ o:AV,(ldN 2 f S fun q S=>q=o∧S=S0)∧∃ r:AV,(lkM (.p .i64) (.v (.int .i64 0)) true m o S fun s S=>s=r∧S=S0)∧∃ u:AV,(extr r 0 S fun w S=>w=u∧S=S0)∧∃ x:AV,(extr r 1 S fun y S=>y=x∧S=S0)∧un .not x S fun z S=>onB z fun b=>gd b (∃ A:AV,(∀ T:Store,Keep S T→nilChk y0 T fun B S=>B=A∧S=T)∧∃ C:AV,(∀ T:Store,Keep S T→shift A 4 T fun D S=>D=C∧S=T)∧∃ E:AV,(∀ T:Store,Keep S T→ld1 C T fun F S=>F=E∧S=T)∧∃ G:AV,(∀ T:Store,Keep S T→ldN 2 f T fun H S=>H=G∧S=T)∧updM (.p .i64) E G y15 S fun I S=>bin .add 0 y15 (.v (.int .i64 1)) S fun J S=>KE0 38 (env204_0 y0 y13 y14 J) S) (bin .add 0 y15 (.v (.int .i64 1)) S fun K S=>KE0 38 (env204_0 y0 y13 y14 K) S)) S) (Q (.ret (.t [])) S)
theorem b204_0_eq(y0 y13 y14 y15:AV)(S:Store)(KE0:KeT)(Q:PoT):vc Pg (c204.at_ [1,1,0,0]) (ms204.drop 1) (mkE 38 lv204_0 (env204_0 y0 y13 y14 y15)) S (thenK (fgK lv204_0 KE0) (blockK 0 (bodyK Pg r204 Q)))=b204_0 y0 y13 y14 y15 S KE0 Q:=by kernel_rfl
theorem loop204_0{y0 y13 y14:AV}{y150:AV}{S:Store}{Q:PoT}(I:AV→Store→Prop)(μ:AV→Store→Nat)(h0:I y150 S)
    (hr:∀(y15:AV) (S:Store),I y15 S→∀ KE0:KeT,(∀(y15':AV) (S':Store),I y15' S'→μ y15' S'<μ y15 S→KE0 38 (env204_0 y0 y13 y14 y15') S')→b204_0 y0 y13 y14 y15 S KE0 Q):
    loopV lv204_0 (vc Pg (c204.at_ [1,1,0,0]) (ms204.drop 1)) 38 (env204_0 y0 y13 y14 y150) S (blockK 0 (bodyK Pg r204 Q)):=by
 refine⟨fun n e S=>n=38∧∃ y15:AV,e=(env204_0 y0 y13 y14 y15)∧I y15 S,fun _ e S=>μ (e.getD 3 .j) S,?_,?_⟩
 ·exact⟨_,_,Wk.refl _ _,rfl,_,rfl,h0⟩
 ·rintro _ e S ⟨rfl,y15,rfl,hI⟩
  exact(b204_0_eq _ _ _ _ _ _ _).mpr (hr y15 S hI _ (fun y15' S' hI' hm=>⟨_,_,Wk.refl _ _,⟨rfl,_,rfl,hI'⟩,hm⟩))
def c184:Code:=(Tryz.f184.body).getD .skip
def ms184:List (List Nat):=[[204,203]]
def m184(x0:AV)(S:Store)(Q:PoT):Prop:=
 nilChk x0 S fun a S=>shift a 0 S fun c S=>callF Pg 203 [c,(.f (.func 204) [x0] [])] S Q fun d S=>nilChk x0 S fun e S=>shift e 4 S fun g S=>ld1 g S fun h S=>lenM h S fun i S=>Q (.ret i) S
theorem calls184{x0:AV}{S:Store}{Q:PoT}(h:m184 x0 S Q):ACalls Pg 184 [x0] S Q:=
 calls_of_vc (fn:=Tryz.f184) (c:=c184) (n:=14) Tryz.func184 (by kernel_rfl) (by kernel_rfl) (by kernel_rfl) ms184 (Eq.mpr (by kernel_rfl) h)
def c164:Code:=(Tryz.f164.body).getD .skip
def r164:List ResultVar:=Tryz.f164.results.toList
def env164_0(y1 y2 y27 y28 y29:AV):List AV:=[y1,y2,y27,y28,y29]
def lv164_0:List Nat:=[1,2,27,28,29]
def ms164:List (List Nat):=[lv164_0,[184]]
def m164(x0 x1:AV)(S:Store)(Q:PoT):Prop:=
 boxN 82 2 x0 S fun a S=>shift a 0 S fun c S=>ld1 c S fun d S=>bin .lss 0 d (.v (.int .i64 0)) S fun e S=>onB e fun b=>gd b (Q (.ret (.v (.bool false))) S) (shift a 0 S fun f S=>ld1 f S fun g S=>bin .gtr 0 g (.v (.int .i64 2000)) S fun h S=>onB h fun b=>gd b (Q (.ret (.v (.bool false))) S) (shift a 1 S fun i S=>ld1 i S fun k S=>lenS k S fun l S=>bin .gtr 0 l (.v (.int .i64 2000)) S fun m S=>onB m fun b=>gd b (Q (.ret (.v (.bool false))) S) (ldN 2 a S fun n S=>callF Pg 135 [n] S Q fun o S=>bin .gtr 0 o (.v (.int .i64 2000)) S fun p S=>onB p fun b=>gd b (Q (.ret (.v (.bool false))) S) (shift a 1 S fun q S=>ld1 q S fun r S=>lenS r S fun s S=>loopV lv164_0 (vc Pg (c164.at_ [1,1,0,1,0,0]) (ms164.drop 1)) 49 (env164_0 x1 a r s (.v (.int .i64 0))) S (blockK 0 (seqK (vc Pg (c164.at_ [1,1,1]) (ms164.drop 1)) (bodyK Pg r164 Q)))))))
theorem calls164{x0 x1:AV}{S:Store}{Q:PoT}(h:m164 x0 x1 S Q):ACalls Pg 164 [x0,x1] S Q:=
 calls_of_vc (fn:=Tryz.f164) (c:=c164) (n:=49) Tryz.func164 (by kernel_rfl) (by kernel_rfl) (by kernel_rfl) ms164 (Eq.mpr (by kernel_rfl) h)
def b164_0(y1 y2 y27 y28 y29:AV)(S:Store)(KE0:KeT)(Q:PoT):Prop:=
 bin .lss 0 y29 y28 S fun c S=>onB c fun b=>gd b (ixS 124 2 y27 y29 S fun d S=>ldN 2 d S fun e S=>boxN 124 2 (.a [.v (.int .i64 0),.v (.int .i64 0)]) S fun f S=>stN 2 f e S fun g S=>ldN 2 f S fun h S=>shift y2 0 S fun i S=>ld1 i S fun k S=>bin .add 0 k (.v (.int .i64 1)) S fun l S=>bin .add 0 l y29 S fun m S=>callF Pg 183 [h,m] S Q fun n S=>un .not n S fun o S=>onB o fun b=>gd b (Q (.ret (.v (.bool false))) S) (bin .add 0 y29 (.v (.int .i64 1)) S fun p S=>KE0 49 (env164_0 y1 y2 y27 y28 p) S)) (∃ q:AV,(∀ T:Store,Keep S T→shift y2 1 T fun r S=>r=q∧S=T)∧∃ s:AV,(∀ T:Store,Keep S T→ld1 q T fun t S=>t=s∧S=T)∧∃ u:AV,(∀ T:Store,Keep S T→lenS s T fun w S=>w=u∧S=T)∧callF Pg 184 [y1] S (fun _ _=>False) fun x S=>(∀ T:Store,Keep S T→lenS s T fun y S=>y=u∧S=T)∧(∀ T:Store,Keep S T→ld1 q T fun z S=>z=s∧S=T)∧(∀ T:Store,Keep S T→shift y2 1 T fun A S=>A=q∧S=T)∧∃ B:AV,(∀ T:Store,Keep S T→bin .eql 0 x u T fun C S=>C=B∧S=T)∧Q (.ret B) S)
theorem b164_0_eq(y1 y2 y27 y28 y29:AV)(S:Store)(KE0:KeT)(Q:PoT):vc Pg (c164.at_ [1,1,0,1,0,0]) (ms164.drop 1) (mkE 49 lv164_0 (env164_0 y1 y2 y27 y28 y29)) S (thenK (fgK lv164_0 KE0) (blockK 0 (seqK (vc Pg (c164.at_ [1,1,1]) (ms164.drop 1)) (bodyK Pg r164 Q))))=b164_0 y1 y2 y27 y28 y29 S KE0 Q:=by kernel_rfl
theorem loop164_0{y1 y2 y27 y28:AV}{y290:AV}{S:Store}{Q:PoT}(I:AV→Store→Prop)(μ:AV→Store→Nat)(h0:I y290 S)
    (hr:∀(y29:AV) (S:Store),I y29 S→∀ KE0:KeT,(∀(y29':AV) (S':Store),I y29' S'→μ y29' S'<μ y29 S→KE0 49 (env164_0 y1 y2 y27 y28 y29') S')→b164_0 y1 y2 y27 y28 y29 S KE0 Q):
    loopV lv164_0 (vc Pg (c164.at_ [1,1,0,1,0,0]) (ms164.drop 1)) 49 (env164_0 y1 y2 y27 y28 y290) S (blockK 0 (seqK (vc Pg (c164.at_ [1,1,1]) (ms164.drop 1)) (bodyK Pg r164 Q))):=by
 refine⟨fun n e S=>n=49∧∃ y29:AV,e=(env164_0 y1 y2 y27 y28 y29)∧I y29 S,fun _ e S=>μ (e.getD 4 .j) S,?_,?_⟩
 ·exact⟨_,_,Wk.refl _ _,rfl,_,rfl,h0⟩
 ·rintro _ e S ⟨rfl,y29,rfl,hI⟩
  exact(b164_0_eq _ _ _ _ _ _ _ _).mpr (hr y29 S hI _ (fun y29' S' hI' hm=>⟨_,_,Wk.refl _ _,⟨rfl,_,rfl,hI'⟩,hm⟩))
def c130:Code:=(Tryz.f130.body).getD .skip
def ms130:List (List Nat):=[[164]]
def m130(x0:AV)(S:Store)(Q:PoT):Prop:=
 boxN 82 2 x0 S fun a S=>ldN 2 a S fun c S=>shift a 1 S fun d S=>ld1 d S fun e S=>bld [(0,3),(3,1),(4,1)] [.v (.int .u32 0),.v (.int .i32 0),.v (.int .u32 0),.nl,.v (.map none)] [(1,e)] S fun f S=>boxN 195 5 f S fun g S=>callF Pg 164 [c,g] S Q fun h S=>Q (.ret h) S
theorem calls130{x0:AV}{S:Store}{Q:PoT}(h:m130 x0 S Q):ACalls Pg 130 [x0] S Q:=
 calls_of_vc (fn:=Tryz.f130) (c:=c130) (n:=9) Tryz.func130 (by kernel_rfl) (by kernel_rfl) (by kernel_rfl) ms130 (Eq.mpr (by kernel_rfl) h)
def c135:Code:=(Tryz.f135.body).getD .skip
def ms135:List (List Nat):=[[]]
def m135(x0:AV)(S:Store)(Q:PoT):Prop:=
 boxN 82 2 x0 S fun a S=>shift a 0 S fun c S=>ld1 c S fun d S=>bin .add 0 d (.v (.int .i64 1)) S fun e S=>shift a 1 S fun f S=>ld1 f S fun g S=>lenS g S fun h S=>bin .add 0 e h S fun i S=>Q (.ret i) S
theorem calls135{x0:AV}{S:Store}{Q:PoT}(h:m135 x0 S Q):ACalls Pg 135 [x0] S Q:=
 calls_of_vc (fn:=Tryz.f135) (c:=c135) (n:=10) Tryz.func135 (by kernel_rfl) (by kernel_rfl) (by kernel_rfl) ms135 (Eq.mpr (by kernel_rfl) h)
def c183:Code:=(Tryz.f183.body).getD .skip
def ms183:List (List Nat):=[[]]
def m183(x0 x1:AV)(S:Store)(Q:PoT):Prop:=
 boxN 124 2 x0 S fun a S=>ixA 2 1 a (.v (.int .i64 1)) S fun c S=>ld1 c S fun d S=>bin .geq 0 d (.v (.int .i64 2)) S fun e S=>onB e fun b=>gd b (ixA 2 1 a (.v (.int .i64 0)) S fun f S=>ld1 f S fun g S=>bin .quo 0 g (.v (.int .i64 2)) S fun h S=>ixA 2 1 a (.v (.int .i64 1)) S fun i S=>ld1 i S fun k S=>bin .quo 0 k (.v (.int .i64 2)) S fun l S=>bin .gtr 0 h l S fun m S=>onB m fun b=>gd b (ixA 2 1 a (.v (.int .i64 0)) S fun n S=>ld1 n S fun o S=>bin .quo 0 o (.v (.int .i64 2)) S fun p S=>bin .lss 0 p x1 S fun q S=>Q (.ret q) S) (Q (.ret (.v (.bool false))) S)) (Q (.ret (.v (.bool false))) S)
theorem calls183{x0 x1:AV}{S:Store}{Q:PoT}(h:m183 x0 x1 S Q):ACalls Pg 183 [x0,x1] S Q:=
 calls_of_vc (fn:=Tryz.f183) (c:=c183) (n:=24) Tryz.func183 (by kernel_rfl) (by kernel_rfl) (by kernel_rfl) ms183 (Eq.mpr (by kernel_rfl) h)
def c88:Code:=(Tryz.f88.body).getD .skip
def ms88:List (List Nat):=[[]]
def m88(x0 x1:AV)(S:Store)(Q:PoT):Prop:=
 boxN 82 2 x0 S fun a S=>shift a 0 S fun c S=>ld1 c S fun d S=>bin .geq 0 d (.v (.int .i64 0)) S fun e S=>onB e fun b=>gd b (shift a 0 S fun f S=>ld1 f S fun g S=>bin .leq 0 g (.v (.int .i64 2000)) S fun h S=>onB h fun b=>gd b (bin .geq 0 x1 (.v (.int .i64 0)) S fun i S=>onB i fun b=>gd b (bin .quo 0 x1 (.v (.int .i64 2)) S fun k S=>ldN 2 a S fun l S=>callF Pg 135 [l] S Q fun m S=>bin .lss 0 k m S fun n S=>Q (.ret n) S) (Q (.ret (.v (.bool false))) S)) (Q (.ret (.v (.bool false))) S)) (Q (.ret (.v (.bool false))) S)
theorem calls88{x0 x1:AV}{S:Store}{Q:PoT}(h:m88 x0 x1 S Q):ACalls Pg 88 [x0,x1] S Q:=
 calls_of_vc (fn:=Tryz.f88) (c:=c88) (n:=24) Tryz.func88 (by kernel_rfl) (by kernel_rfl) (by kernel_rfl) ms88 (Eq.mpr (by kernel_rfl) h)
def c218:Code:=(Tryz.f218.body).getD .skip
def ms218:List (List Nat):=[[221]]
def m218(x0:AV)(S:Store)(Q:PoT):Prop:=
 nilChk x0 S fun a S=>shift a 0 S fun c S=>callF Pg 221 [c] S Q fun d S=>Q (.ret (.t [])) S
def c219:Code:=(Tryz.f219.body).getD .skip
def ms219:List (List Nat):=[[222]]
def m219(x0 x1:AV)(S:Store)(Q:PoT):Prop:=
 ∃ a:AV,(∀ T:Store,Keep S T→nilChk x0 T fun c S=>c=a∧S=T)∧∃ d:AV,(∀ T:Store,Keep S T→shift a 0 T fun e S=>e=d∧S=T)∧∃ f:AV,(∀ T:Store,Keep S T→callF Pg 223 [x1] T (fun _ _=>False) fun g S=>g=f∧S=T)∧callF Pg 222 [d,f] S (fun _ _=>False) fun h S=>Q (.ret (.t [])) S
def c214:Code:=(Tryz.f214.body).getD .skip
def ms214:List (List Nat):=[[]]
def m214(x0:AV)(S:Store)(Q:PoT):Prop:=
 nilChk x0 S fun a S=>shift a 0 S fun c S=>callF Pg 216 [c] S Q fun d S=>bin .neq 0 d (.v (.int .u32 0)) S fun e S=>Q (.ret e) S
theorem calls214{x0:AV}{S:Store}{Q:PoT}(h:m214 x0 S Q):ACalls Pg 214 [x0] S Q:=
 calls_of_vc (fn:=Tryz.f214) (c:=c214) (n:=8) Tryz.func214 (by kernel_rfl) (by kernel_rfl) (by kernel_rfl) ms214 (Eq.mpr (by kernel_rfl) h)
def c217:Code:=(Tryz.f217.body).getD .skip
def ms217:List (List Nat):=[[220]]
def m217(x0:AV)(S:Store)(Q:PoT):Prop:=
 nilChk x0 S fun a S=>shift a 0 S fun c S=>callF Pg 220 [c] S Q fun d S=>Q (.ret (.t [])) S
theorem calls217{x0:AV}{S:Store}{Q:PoT}(h:m217 x0 S Q):ACalls Pg 217 [x0] S Q:=
 calls_of_vc (fn:=Tryz.f217) (c:=c217) (n:=6) Tryz.func217 (by kernel_rfl) (by kernel_rfl) (by kernel_rfl) ms217 (Eq.mpr (by kernel_rfl) h)
def c220:Code:=(Tryz.f220.body).getD .skip
def ms220:List (List Nat):=[[225]]
def m220(x0:AV)(S:Store)(Q:PoT):Prop:=
 callF Pg 224 [] S Q fun a S=>nilChk x0 S fun c S=>shift c 0 S fun d S=>callF Pg 225 [d,.v (.int .i32 0),.v (.int .i32 1)] S Q fun e S=>onB e fun b=>gd b (callF Pg 226 [] S Q fun f S=>convU x0 S fun g S=>callF Pg 227 [g] S Q fun h S=>Q (.ret (.t [])) S) (callF Pg 228 [x0] S Q fun i S=>Q (.ret (.t [])) S)
theorem calls220{x0:AV}{S:Store}{Q:PoT}(h:m220 x0 S Q):ACalls Pg 220 [x0] S Q:=
 calls_of_vc (fn:=Tryz.f220) (c:=c220) (n:=13) Tryz.func220 (by kernel_rfl) (by kernel_rfl) (by kernel_rfl) ms220 (Eq.mpr (by kernel_rfl) h)
def c221:Code:=(Tryz.f221.body).getD .skip
def ms221:List (List Nat):=[[230]]
def m221(x0:AV)(S:Store)(Q:PoT):Prop:=
 nilChk x0 S fun a S=>shift a 0 S fun c S=>ld1 c S fun d S=>convU x0 S fun e S=>callF Pg 229 [e] S Q fun f S=>callF Pg 224 [] S Q fun g S=>nilChk x0 S fun h S=>shift h 0 S fun i S=>callF Pg 230 [i,.v (.int .i32 (-1))] S Q fun k S=>bin .neq 0 k (.v (.int .i32 0)) S fun l S=>onB l fun b=>gd b (callF Pg 231 [x0,k] S Q fun m S=>callF Pg 226 [] S Q fun n S=>Q (.ret (.t [])) S) (callF Pg 226 [] S Q fun o S=>Q (.ret (.t [])) S)
theorem calls221{x0:AV}{S:Store}{Q:PoT}(h:m221 x0 S Q):ACalls Pg 221 [x0] S Q:=
 calls_of_vc (fn:=Tryz.f221) (c:=c221) (n:=21) Tryz.func221 (by kernel_rfl) (by kernel_rfl) (by kernel_rfl) ms221 (Eq.mpr (by kernel_rfl) h)
def c223:Code:=(Tryz.f223.body).getD .skip
def ms223:List (List Nat):=[[]]
def m223(x0:AV)(S:Store)(Q:PoT):Prop:=
 onB x0 fun b1=>gd b1 (Q (.ret (.v (.int .u32 1))) S) (Q (.ret (.v (.int .u32 0))) S)
theorem calls223{x0:AV}{S:Store}{Q:PoT}(h:m223 x0 S Q):ACalls Pg 223 [x0] S Q:=
 calls_of_vc (fn:=Tryz.f223) (c:=c223) (n:=4) Tryz.func223 (by kernel_rfl) (by kernel_rfl) (by kernel_rfl) ms223 (Eq.mpr (by kernel_rfl) h)
def c203:Code:=(Tryz.f203.body).getD .skip
def ms203:List (List Nat):=[[215]]
def m203(x0 x1:AV)(S:Store)(Q:PoT):Prop:=
 nilChk x0 S fun a S=>shift a 0 S fun c S=>callF Pg 214 [c] S Q fun d S=>un .not d S fun e S=>onB e fun b=>gd b (callF Pg 215 [x0,x1] S Q fun f S=>Q (.ret (.t [])) S) (Q (.ret (.t [])) S)
theorem calls203{x0 x1:AV}{S:Store}{Q:PoT}(h:m203 x0 x1 S Q):ACalls Pg 203 [x0,x1] S Q:=
 calls_of_vc (fn:=Tryz.f203) (c:=c203) (n:=12) Tryz.func203 (by kernel_rfl) (by kernel_rfl) (by kernel_rfl) ms203 (Eq.mpr (by kernel_rfl) h)
end
def c215:Code:=(Tryz.f215.body).getD .skip
def r215:List ResultVar:=Tryz.f215.results.toList
def m215(x0 x1:AV)(S:Store)(Q:AEnd→Store→Prop):Prop:=
 nilChk x0 S fun v1 S=>shift v1 1 S fun v2 S=>callF Pg 217 [v2] S (fun _ _=>False) fun v3 S=>nilChk x0 S fun v4 S=>shift v4 1 S fun v5 S=>nilChk x0 S fun v6 S=>shift v6 0 S fun v7 S=>callF Pg 214 [v7] S (fun _ _=>False) fun v8 S=>un .not v8 S fun v9 S=>onB v9 fun b10 =>
  gd b10 (nilChk x0 S fun v11 S=>shift v11 0 S fun v12 S=>callV Pg x1 [] S (fun v13 S=>ADCalls Pg 219 [v12,.v (.bool true)] S fun e S=>match e with
      |.ret _=>ADCalls Pg 218 [v5] S fun e S=>match e with|.ret _=>Q (.ret (.t [])) S|.pan _=>False
      |.pan _=>False) (fun _ _=>False))
   (ADCalls Pg 218 [v5] S fun e S=>match e with|.ret _=>Q (.ret (.t [])) S|.pan _=>False)
set_option maxRecDepth 100000 in
theorem m215_eq:(fun(x0 x1:AV) (S:Store) (Q:AEnd→Store→Prop)=>vcT Pg c215 [] (ofArgs 21 [x0,x1]) S [] (bodyT Pg r215 Q))=(fun(x0 x1:AV) (S:Store) (Q:AEnd→Store→Prop)=>m215 x0 x1 S Q):=by kernel_rfl
theorem calls215{x0 x1:AV}{S:Store}{Q:AEnd→Store→Prop}(h:m215 x0 x1 S Q):ACalls Pg 215 [x0,x1] S Q:=
 calls_of_vcT (fn:=Tryz.f215) (c:=c215) (n:=21) Tryz.func215 (by kernel_rfl) (by kernel_rfl) (by kernel_rfl) [] ((congrFun (congrFun (congrFun (congrFun m215_eq x0) x1) S) Q).mpr h)
theorem dcalls218{x0:AV}{S:Store}{Q:AEnd→Store→Prop}(h:m218 x0 S Q):ADCalls Pg 218 [x0] S Q:=
 dcalls_of_vc (fn:=Tryz.f218) (c:=c218) (n:=6) Tryz.func218 (by kernel_rfl) (by kernel_rfl) (by kernel_rfl) ms218 (Eq.mpr (by kernel_rfl) h)
theorem dcalls219{x0 x1:AV}{S:Store}{Q:AEnd→Store→Prop}(h:m219 x0 x1 S Q):ADCalls Pg 219 [x0,x1] S Q:=
 dcalls_of_vc (fn:=Tryz.f219) (c:=c219) (n:=10) Tryz.func219 (by kernel_rfl) (by kernel_rfl) (by kernel_rfl) ms219 (Eq.mpr (by kernel_rfl) h)
theorem nt224:NoText Pg 224 Tryz.f224:=⟨Tryz.func224,by kernel_rfl,by kernel_rfl,by kernel_rfl⟩
theorem nt226:NoText Pg 226 Tryz.f226:=⟨Tryz.func226,by kernel_rfl,by kernel_rfl,by kernel_rfl⟩
theorem nt227:NoText Pg 227 Tryz.f227:=⟨Tryz.func227,by kernel_rfl,by kernel_rfl,by kernel_rfl⟩
theorem nt229:NoText Pg 229 Tryz.f229:=⟨Tryz.func229,by kernel_rfl,by kernel_rfl,by kernel_rfl⟩
theorem nt216:NoText Pg 216 Tryz.f216:=⟨Tryz.func216,by kernel_rfl,by kernel_rfl,by kernel_rfl⟩
theorem nt222:NoText Pg 222 Tryz.f222:=⟨Tryz.func222,by kernel_rfl,by kernel_rfl,by kernel_rfl⟩
theorem nt225:NoText Pg 225 Tryz.f225:=⟨Tryz.func225,by kernel_rfl,by kernel_rfl,by kernel_rfl⟩
theorem nt230:NoText Pg 230 Tryz.f230:=⟨Tryz.func230,by kernel_rfl,by kernel_rfl,by kernel_rfl⟩
abbrev aW32(n:Int):AV:=.v (.int .u32 n)
abbrev aS32(n:Int):AV:=.v (.int .i32 n)
section
variable {S:Store} {Q:AEnd→Store→Prop}
theorem mark224{Q:AEnd→Store→Prop}{K:AV→Store→Prop}(k:K (.t []) S):callF Pg 224 [] S Q K:=.inr (ext_mark0 nt224 .disable (by kernel_rfl) k)
theorem mark226{K:AV→Store→Prop}(k:K (.t []) S):callF Pg 226 [] S Q K:=.inr (ext_mark0 nt226 .enable (by kernel_rfl) k)
theorem mark227{K:AV→Store→Prop}{id i j:Nat}(k:K (.t []) S):callF Pg 227 [.p id i j] S Q K:=.inr (ext_mark1 nt227 .acquire (by kernel_rfl) k)
theorem mark229{K:AV→Store→Prop}{id i j:Nat}(k:K (.t []) S):callF Pg 229 [.p id i j] S Q K:=.inr (ext_mark1 nt229 .releaseMerge (by kernel_rfl) k)
end
@[simp] theorem nilChk_p(id i j:Nat)(S:Store)(K:AV→Store→Prop):nilChk (.p id i j) S K=K (.p id i j) S:=rfl
theorem upd_upd(S:Store)(id:Nat)(o o':AObj):(S.upd id o).upd id o'=S.upd id o':=by
 unfold Store.upd
 congr 1
 funext i
 by_cases h:i=id<;>simp[h]
def onceO(t:TypeId)(done st:Int)(z:AV)(c:List AV):AObj:=.cells t [aW32 done :: aS32 st :: z :: c] true
section
variable {S:Store} {Q:AEnd→Store→Prop} {id t:Nat} {done st:Int} {z:AV} {c:List AV}
theorem load_once(h:S.obj id=some (onceO t done st z c))(k:Q (.ret (aB (!decide (done=0)))) S):ACalls Pg 214 [.p id 0 0] S Q:=by
 refine calls214 ?_
 unfold m214
 rw[nilChk_p,shift_p]
 refine .inr (ext_load nt216 .u32 (by kernel_rfl) h rfl rfl ?_)
 show bin .neq 0 (aW32 done) (aW32 0) S _
 rw[bin_neq]
 exact k
theorem lock_once(h:S.obj id=some (onceO t done 0 z c))(k:Q (.ret (.t [])) (S.upd id (onceO t done 1 z c))):ACalls Pg 217 [.p id 0 1] S Q:=by
 refine calls217 ?_
 unfold m217
 rw[nilChk_p,shift_p]
 refine .inl (calls220 ?_)
 unfold m220
 refine mark224 ?_
 rw[nilChk_p,shift_p]
 refine .inr (ext_cas nt225 .i32 (by kernel_rfl) h rfl rfl ?_)
 show onB _ _
 rw[onB_v,gd_true]
 refine mark226 ⟨aS32 1,?_,mark227 k⟩
 simp[rd1,place,Store.get]
theorem unlock_once(h:S.obj id=some (onceO t done 1 z c))(k:Q (.ret (.t [])) (S.upd id (onceO t done 0 z c))):ADCalls Pg 218 [.p id 0 1] S Q:=by
 refine dcalls218 ?_
 unfold m218
 rw[nilChk_p,shift_p]
 refine .inl (calls221 ?_)
 unfold m221
 rw[nilChk_p,shift_p,ld1_p h rfl rfl]
 refine⟨aS32 1,by simp[rd1,place,Store.get,h,onceO],mark229 (mark224 ?_)⟩
 rw[nilChk_p,shift_p]
 refine .inr (ext_add nt230 .i32 (by kernel_rfl) h rfl rfl ?_)
 show bin .neq 0 (aS32 (IntKind.i32.wrap (1 + -1))) (aS32 0) _ _
 have:IntKind.i32.wrap (1 + -1)=0:=by decide
 rw[this,bin_neq,onB_v]
 simp only[decide_true,Bool.not_true,gd_false]
 exact mark226 k
theorem store_once(h:S.obj id=some (onceO t done st z c))(k:Q (.ret (.t [])) (S.upd id (onceO t 1 st z c))):ADCalls Pg 219 [.p id 0 0,aB true] S Q:=by
 refine dcalls219 ?_
 unfold m219
 have hb:∀ T,ACalls Pg 223 [aB true] T (fun e S'=>e = .ret (aW32 1)∧S'=T):=fun T=>by
  refine calls223 ?_
  unfold m223
  rw[onB_v,gd_true]
  exact⟨rfl,rfl⟩
 refine⟨.p id 0 0,fun T _=>⟨rfl,rfl⟩,.p id 0 0,fun T _=>⟨rfl,rfl⟩,aW32 1,fun T _=>callF_at (hb T) ⟨rfl,rfl⟩,?_⟩
 exact .inr (ext_store nt222 (by kernel_rfl) h rfl rfl k)
theorem do_once(h:S.obj id=some (onceO t 0 0 z c)){f:AV}(hf:callV Pg f [] (S.upd id (onceO t 0 1 z c)) (fun _ S2=>∃ c',S2.obj id=some (onceO t 0 1 z c')∧Q (.ret (.t [])) (S2.upd id (onceO t 1 0 z c'))) (fun _ _=>False)):ACalls Pg 203 [.p id 0 0,f] S Q:=by
 refine calls203 ?_
 unfold m203
 rw[nilChk_p,shift_p]
 refine .inl (load_once h ?_)
 show un .not (aB (!decide ((0:Int)=0))) S _
 rw[un_not,onB_v]
 refine .inl (calls215 ?_)
 unfold m215
 rw[nilChk_p,shift_p]
 refine .inl (lock_once h ?_)
 show nilChk _ _ _
 rw[nilChk_p,shift_p,nilChk_p,shift_p]
 refine .inl (load_once (upd_self _ _) ?_)
 show un .not (aB (!decide ((0:Int)=0))) _ _
 rw[un_not,onB_v]
 show gd true _ _
 rw[gd_true,nilChk_p,shift_p]
 refine callV_mono hf (fun v S2 h2=>?_) (fun _ _ h=>h)
 obtain⟨c',h3,h4⟩:=h2
 refine store_once h3 (unlock_once (upd_self _ _) ?_)
 show Q (.ret (.t [])) _
 rw[upd_upd]
 exact h4
end
def pL(l:List (Int × Int)):AV:=.l (l.map fun p=>[aI p.1,aI p.2])
structure Gr where
 inputs:Int
 ands:List (Int × Int)
 deriving DecidableEq
def Gr.cells(g:Gr):List AV:=[aI g.inputs,pL g.ands]
def Gr.av(g:Gr):AV:=.a g.cells
def Gr.vars(g:Gr):Int:=g.inputs+1+g.ands.length
def i64R(a:Int):Prop:=-9223372036854775808≤a∧a≤9223372036854775807
structure Gr.ok (g:Gr):Prop where
 inp:i64R g.inputs
 len:g.ands.length≤1000000
 pairs:∀ p∈g.ands,i64R p.1∧i64R p.2
def may(p:Int × Int)(v:Int):Bool:=decide (2≤p.2) && (decide (p.2.tdiv 2<p.1.tdiv 2) && decide (p.1.tdiv 2<v))
def Gr.right(g:Gr):Bool:=decide (0≤g.inputs) && (decide (g.inputs≤2000) && (decide ((g.ands.length:Int)≤2000) && (decide (g.vars≤2000) &&
 ((List.range g.ands.length).all (fun i=>may (g.ands.getD i (0,0)) (g.inputs+1+i)) && decide g.ands.Nodup))))
def Gr.lit(g:Gr)(l:Int):Bool:=decide (0≤g.inputs) && (decide (g.inputs≤2000) && (decide (0≤l) && decide (l.tdiv 2<g.vars)))
@[simp] theorem lenS_pL(l:List (Int × Int)){S:Store}{K:AV→Store→Prop}:lenS (pL l) S K=K (aI l.length) S:=by simp[pL]
theorem ixS_pL{l:List (Int × Int)}{e i:Nat}{S:Store}{K:AV→Store→Prop}(h:i<l.length):ixS e 2 (pL l) (aI i) S K=K (.q [aI l[i].1,aI l[i].2] 0) S:=by
 unfold pL
 rw[ixS_l (by simpa using h) (by simp)]
 simp
@[simp] theorem ldN_q2{u v:AV}{S:Store}{K:AV→Store→Prop}:ldN 2 (.q [u,v] 0) S K=K (.a [u,v]) S:=by simp[ldN,rdN,place]
theorem tdiv2{a:Int}(h:i64R a):-9223372036854775808≤a.tdiv 2∧a.tdiv 2≤9223372036854775807:=by
 obtain⟨h1,h2⟩:=h
 rcases Int.le_total 0 a with h|h
 ·rw[Int.tdiv_eq_ediv_of_nonneg h];omega
 ·have:a.tdiv 2 = -((-a).tdiv 2):=by rw[Int.neg_tdiv,Int.neg_neg]
  rw[this,Int.tdiv_eq_ediv_of_nonneg (by omega)];omega
theorem bin_half{a:Int}(h:i64R a){S:Store}{K:AV→Store→Prop}:bin .quo 0 (aI a) (.v (.int .i64 2)) S K=K (aI (a.tdiv 2)) S:=bin_quo (by decide) (tdiv2 h).1 (tdiv2 h).2 0
theorem ixA_p{n sz id:Nat}{z:Nat}{S:Store}{K:AV→Store→Prop}(hz:z<n):ixA n sz (.p id 0 0) (aI z) S K=K (.p id 0 (z*sz)) S:=by
 unfold ixA
 simp only[intA,optP_some,Int.toNat_natCast,shift_p,Nat.zero_add]
 exact propext ⟨fun h=>h.2,fun h=>⟨⟨by omega,by omega⟩,h⟩⟩
theorem ans135{g:Gr}(hg:g.ok)(hi:g.inputs≤1000000)(h0:0≤g.inputs):Ans Pg 135 [g.av] (aI g.vars):=by
 intro S
 have hl:=hg.len
 refine ACalls.ans_v (calls135 ?_)
 unfold m135 Gr.av
 refine boxA_of rfl fun S1 k1 n1 o1=>?_
 rw[shift_p,ld1_p o1 rfl rfl,bin_add (by omega) (by omega),shift_p,ld1_p o1 rfl rfl,lenS_pL,bin_add (by omega) (by omega)]
 exact⟨rfl,k1⟩
theorem ans183{p:Int × Int}{v:Int}(h:i64R p.1∧i64R p.2):Ans Pg 183 [.a [aI p.1,aI p.2],aI v] (aB (may p v)):=by
 intro S
 refine ACalls.ans_v (calls183 ?_)
 unfold m183 may
 refine boxA_of rfl fun S1 k1 n1 o1=>?_
 have e1:∀ K:AV→Store→Prop,ixA 2 1 (.p S.n 0 0) (.v (.int .i64 1)) S1 K=K (.p S.n 0 1) S1:=fun K=>ixA_p (z:=1) (by decide)
 have e0:∀ K:AV→Store→Prop,ixA 2 1 (.p S.n 0 0) (.v (.int .i64 0)) S1 K=K (.p S.n 0 0) S1:=fun K=>ixA_p (z:=0) (by decide)
 rw[e1,ld1_p o1 rfl rfl,bin_geq,onB_v]
 refine gd_of (fun h1=>?_) (fun h1=>⟨by simp only[h1,Bool.false_and],k1⟩)
 rw[e0,ld1_p o1 rfl rfl,bin_half h.1,e1,ld1_p o1 rfl rfl,bin_half h.2,bin_gtr,onB_v]
 refine gd_of (fun h2=>?_) (fun h2=>⟨by simp only[h1,h2,Bool.false_and,Bool.true_and],k1⟩)
 rw[e0,ld1_p o1 rfl rfl,bin_half h.1,bin_lss]
 exact⟨by simp only[h1,h2,Bool.true_and],k1⟩
theorem ans88{g:Gr}{l:Int}(hg:g.ok)(hl:i64R l):Ans Pg 88 [g.av,aI l] (aB (g.lit l)):=by
 intro S
 refine ACalls.ans_v (calls88 ?_)
 unfold m88 Gr.av Gr.lit
 refine boxA_of rfl fun S1 k1 n1 o1=>?_
 rw[shift_p,ld1_p o1 rfl rfl,bin_geq,onB_v]
 refine gd_of (fun h1=>?_) (fun h1=>⟨by simp only[h1,Bool.false_and],k1⟩)
 rw[shift_p,ld1_p o1 rfl rfl,bin_leq,onB_v]
 refine gd_of (fun h2=>?_) (fun h2=>⟨by simp only[h1,h2,Bool.false_and,Bool.true_and],k1⟩)
 rw[bin_geq,onB_v]
 refine gd_of (fun h3=>?_) (fun h3=>⟨by simp only[h1,h2,h3,Bool.false_and,Bool.true_and],k1⟩)
 rw[bin_half hl,ldN_p (n:=2) o1 rfl]
 refine callF_ans (ans135 hg (by have:=of_decide_eq_true h2;omega) (of_decide_eq_true h1)) ?_
 rw[bin_lss]
 exact⟨by simp only[h1,h2,h3,Bool.true_and],k1⟩
def gat(l:List (Int × Int)):Nat→List (Key × AV)
 |0=>[]
 |i+1=>match kix (gat l i) (.p (l.getD i (0,0)).1 (l.getD i (0,0)).2)with
  |some _=>gat l i
  |none=>gat l i ++ [(.p (l.getD i (0,0)).1 (l.getD i (0,0)).2,aI i)]
theorem kix_none{es:List (Key × AV)}{k:Key}:kix es k=none↔k∉es.map (·.1):=by
 unfold kix
 rw[List.findIdx?_eq_none_iff]
 simp only[List.mem_map,not_exists,not_and]
 constructor
 ·intro h x hx e
  have:=h x hx
  simp[e]at this
 ·intro h x hx
  simpa using h x hx
theorem gat_keys{l:List (Int × Int)}:∀{i:Nat},i≤l.length→∀ k,k∈(gat l i).map (·.1)↔∃ p∈l.take i,k = .p p.1 p.2
 |0,_,k=>by simp[gat]
 |i+1,h,k=>by
  have ih:=gat_keys (l:=l) (i:=i) (by omega)
  have hi:i<l.length:=by omega
  have hg:l.getD i (0,0)=l[i]:=by simp[List.getD_eq_getElem?_getD,hi]
  rw[List.take_add_one,List.getElem?_eq_getElem hi]
  unfold gat
  rw[hg]
  split
  ·rename_i j hj
   rw[ih]
   have hm:Key.p l[i].1 l[i].2∈(gat l i).map (·.1):=by
    by_cases c:Key.p l[i].1 l[i].2∈(gat l i).map (·.1)
    ·exact c
    ·rw[kix_none.2 c]at hj;cases hj
   constructor
   ·rintro⟨p,hp,e⟩
    exact⟨p,List.mem_append_left _ hp,e⟩
   ·rintro⟨p,hp,e⟩
    rcases List.mem_append.1 hp with hp|hp
    ·exact⟨p,hp,e⟩
    ·have:p=l[i]:=by simpa using hp
     subst this
     rw[e];exact(ih _).1 hm
  ·rw[List.map_append,List.mem_append,ih]
   constructor
   ·rintro(⟨p,hp,e⟩|hk)
    ·exact⟨p,List.mem_append_left _ hp,e⟩
    ·exact⟨l[i],List.mem_append_right _ (by simp),by simpa using hk⟩
   ·rintro⟨p,hp,e⟩
    rcases List.mem_append.1 hp with hp|hp
    ·exact .inl ⟨p,hp,e⟩
    ·have:p=l[i]:=by simpa using hp
     subst this
     exact .inr (by simp[e])
theorem gat_le(l:List (Int × Int)):∀ i:Nat,(gat l i).length≤i
 |0=>Nat.le_refl _
 |i+1=>by
  have:=gat_le l i
  unfold gat
  split
  ·omega
  ·simp;omega
theorem gat_all{l:List (Int × Int)}:∀{i:Nat},i≤l.length→((gat l i).length=i↔(l.take i).Nodup)
 |0,_=>by simp[gat]
 |i+1,h=>by
  have ih:=gat_all (l:=l) (i:=i) (by omega)
  have hi:i<l.length:=by omega
  have hk:=gat_keys (l:=l) (i:=i) (by omega) (.p l[i].1 l[i].2)
  have hle:=gat_le l i
  have hg:l.getD i (0,0)=l[i]:=by simp[List.getD_eq_getElem?_getD,hi]
  rw[List.take_add_one,List.getElem?_eq_getElem hi,List.nodup_append]
  unfold gat
  rw[hg]
  split
  ·rename_i j hj
   have hm:Key.p l[i].1 l[i].2∈(gat l i).map (·.1):=by
    by_cases c:Key.p l[i].1 l[i].2∈(gat l i).map (·.1)
    ·exact c
    ·rw[kix_none.2 c]at hj;cases hj
   obtain⟨p,hp,e⟩:=hk.1 hm
   constructor
   ·intro h;omega
   ·rintro⟨_,_,h3⟩
    refine absurd ?_ (h3 p hp l[i] (by simp))
    simp only[Key.p.injEq]at e
    exact Prod.ext e.1.symm e.2.symm
  ·rename_i hn
   rw[kix_none,hk]at hn
   rw[List.length_append,List.length_singleton,Nat.add_right_cancel_iff,ih]
   constructor
   ·intro h
    refine⟨h,by simp,fun a ha b hb=>?_⟩
    have:b=l[i]:=by simpa using hb
    subst this
    rintro rfl
    exact hn ⟨_,ha,rfl⟩
   ·exact fun h=>h.1
@[simp] theorem extr0{x:AV}{l:List AV}{S:Store}{K:AV→Store→Prop}:extr (.t (x :: l)) 0 S K=K x S:=by simp[extr]
@[simp] theorem extr1{x y:AV}{l:List AV}{S:Store}{K:AV→Store→Prop}:extr (.t (x :: y :: l)) 1 S K=K y S:=by simp[extr]
@[simp] theorem extr2{x y z:AV}{l:List AV}{S:Store}{K:AV→Store→Prop}:extr (.t (x :: y :: z :: l)) 2 S K=K z S:=by simp[extr]
theorem lkM_m{S:Store}{kk:KK}{z:AV}{c:Bool}{id:Nat}{k:AV}{key:Key}{es:List (Key × AV)}{lv:Bool}{K:AV→Store→Prop}(h:S.obj id=some (.map kk es lv))(hk:keyA kk k=some key):lkM kk z c (.m id) k S K=K (lkV z c (lkp es key)) S:=by
 simp[lkM,entsA,h,hk]
theorem updM_m{S:Store}{kk:KK}{id:Nat}{k v:AV}{key:Key}{es:List (Key × AV)}{K:AV→Store→Prop}(h:S.obj id=some (.map kk es true))(hk:keyA kk k=some key):updM kk (.m id) k v S K=K .j (S.upd id (.map kk (insM es key v) true)):=by
 simp[updM,h,hk]
theorem lenM_m{S:Store}{kk:KK}{id:Nat}{es:List (Key × AV)}{lv:Bool}{K:AV→Store→Prop}(h:S.obj id=some (.map kk es lv)):lenM (.m id) S K=K (aI es.length) S:=by
 simp[lenM,h]
theorem keyP(a b:Int):keyA (.p .i64) (.a [aI a,aI b])=some (.p a b):=by simp[keyA]
theorem lkp_isSome(es:List (Key × AV))(k:Key):(lkp es k).isSome=(kix es k).isSome:=by
 cases h:kix es k with
 |none=>simp[lkp,h]
 |some i =>
  obtain⟨e,h1,h2⟩:=lkp_row (kk:=.s) h
  simp[h2]
theorem make_once{S:Store}{id:Nat}{z g0:AV}{d st:Int}{l:List (Int × Int)}{Q:AEnd→Store→Prop}(hl:l.length≤1000000)(hid:id<S.n)(h:S.obj id=some (onceO 195 d st z [pL l,g0]))
    (k:∀ S2 m,S.n≤S2.n→(∀ x,x<S.n→x≠id→S2.obj x=S.obj x)→m≠id→S2.obj id=some (onceO 195 d st z [pL l,.m m])→S2.obj m=some (.map (.p .i64) (gat l l.length) true)→Q (.ret (.t [])) S2):
    ACalls Pg 204 [.p id 0 0] S Q:=by
 refine calls204 ?_
 unfold m204 mkM
 have h':=(new_lt (o:=.map (.p .i64) [] true) hid).trans h
 show nilChk _ _ _
 rw[nilChk_p,shift_p]
 refine stF_of h' (by simp) rfl fun S1 n1 o1 f1=>?_
 rw[nilChk_p,shift_p,ld1_p o1 rfl rfl,lenS_pL]
 have hm:S.n≠id:=by omega
 refine loop204_0 (fun y S'=>S.n<S'.n∧(∀ x,x<S.n→x≠id→S'.obj x=S.obj x)∧S'.obj id=some (onceO 195 d st z [pL l,.m S.n])∧∃ i:Nat,y=aI i∧i≤l.length∧S'.obj S.n=some (.map (.p .i64) (gat l i) true))
  (fun y _=>l.length - ((intA y).getD 0).toNat) ⟨by rw[n1,new_n];omega,fun x hx hne=>by rw[f1 x hne,new_lt hx],o1,0,rfl,Nat.zero_le _,by rw[f1 _ hm,new_self];rfl⟩ ?_
 rintro _ S2 ⟨n2,f2,o2,i,rfl,hi,m2⟩ KE hKE
 unfold b204_0
 rw[bin_lss,onB_v]
 refine gd_of (fun hlt=>?_) (fun hge=>?_)
 ·have hlt:i<l.length:=by simpa using hlt
  have hg:l.getD i (0,0)=l[i]:=by simp[List.getD_eq_getElem?_getD,hlt]
  rw[ixS_pL hlt,ldN_q2]
  refine boxA_of rfl fun S3 k3 n3 o3=>?_
  refine stA_of o3 rfl rfl fun S4 n4 o4 f4=>?_
  have p4:S4.obj id=_:=(f4 id (by omega)).trans ((k3.2 id (by omega)).trans o2)
  have q4:S4.obj S.n=_:=(f4 S.n (by omega)).trans ((k3.2 S.n n2).trans m2)
  have r4:∀ x,x<S.n→x≠id→S4.obj x=S.obj x:=fun x hx hne=>(f4 x (by omega)).trans ((k3.2 x (by omega)).trans (f2 x hx hne))
  show ∃ q15:AV,_
  refine⟨_,by rw[nilChk_p];exact⟨rfl,rfl⟩,_,by rw[shift_p];exact⟨rfl,rfl⟩,_,by rw[ld1_p p4 rfl rfl];exact⟨rfl,rfl⟩,_,by rw[ldN_p (n:=2) o4 rfl];exact⟨rfl,rfl⟩,_,by rw[lkM_m q4 (keyP _ _)];exact⟨rfl,rfl⟩,_,by rw[lkV,extr0];exact⟨rfl,rfl⟩,_,by rw[lkV,extr1];exact⟨rfl,rfl⟩,?_⟩
  rw[lkp_isSome,un_not,onB_v]
  have hadd:∀ K:AV→Store→Prop,∀ S,bin .add 0 (.v (.int .i64 (i:Int))) (.v (.int .i64 1)) S K=K (aI (i+1:Nat)) S:=fun K S=>bin_add (by omega) (by omega) 0
  have hμ:l.length - ((intA (aI (i+1:Nat))).getD 0).toNat<l.length - ((intA (aI i)).getD 0).toNat:=by simp[intA];omega
  refine gd_of (fun hn=>?_) (fun hn=>?_)
  ·have hn:kix (gat l i) (.p l[i].1 l[i].2)=none:=by simpa using hn
   refine⟨_,fun T hT=>by rw[nilChk_p];exact⟨rfl,rfl⟩,_,fun T hT=>by rw[shift_p];exact⟨rfl,rfl⟩,_,fun T hT=>by rw[ld1_p ((hT.2 id (by omega)).trans p4) rfl rfl];exact⟨rfl,rfl⟩,_,fun T hT=>by rw[ldN_p (n:=2) ((hT.2 _ (by omega)).trans o4) rfl];exact⟨rfl,rfl⟩,?_⟩
   rw[updM_m q4 (keyP _ _),hadd]
   refine hKE _ _ ⟨by simp;omega,fun x hx hne=>by rw[upd_ne (by omega)];exact r4 x hx hne,by rw[upd_ne (by omega)];exact p4,i+1,rfl,hlt,?_⟩ hμ
   rw[upd_self]
   simp only[gat,hg,hn,insM_none hn]
  ·obtain⟨j,hj⟩:∃ j,kix (gat l i) (.p l[i].1 l[i].2)=some j:=by
     cases e:kix (gat l i) (.p l[i].1 l[i].2)with
     |none=>simp[e]at hn
     |some j=>exact⟨j,rfl⟩
   rw[hadd]
   refine hKE _ _ ⟨by omega,r4,p4,i+1,rfl,hlt,?_⟩ hμ
   rw[q4]
   simp only[gat,hg,hj]
 ·have hge:i=l.length:=by simp at hge;omega
  subst hge
  exact k S2 S.n (by omega) f2 hm o2 m2
theorem many_once{S:Store}{id:Nat}{z g0:AV}{l:List (Int × Int)}{Q:AEnd→Store→Prop}(hl:l.length≤1000000)(hid:id<S.n)(h:S.obj id=some (onceO 195 0 0 z [pL l,g0]))
    (k:∀ S2,S.n≤S2.n→(∀ x,x<S.n→x≠id→S2.obj x=S.obj x)→Q (.ret (aI (gat l l.length).length)) S2):
    ACalls Pg 184 [.p id 0 0] S Q:=by
 refine calls184 ?_
 unfold m184
 rw[nilChk_p,shift_p]
 refine .inl (do_once h (.inl (make_once hl (by simpa using hid) (upd_self _ _) fun S2 m n2 f2 hm o2 m2=>⟨_,o2,?_⟩)))
 show nilChk _ _ _
 rw[nilChk_p,shift_p,ld1_p (show(S2.upd id (onceO 195 1 0 z [pL l,.m m])).obj id=some (.cells 195 [[aW32 1,aS32 0,z,pL l,.m m]] true)from upd_self _ _) rfl rfl]
 rw[lenM_m (by rw[upd_ne hm];exact m2)]
 refine k _ (by simpa using n2) fun x hx hne=>?_
 rw[upd_ne hne,f2 x (by simpa using hx) hne,upd_ne hne]
theorem bld_of{pl:List (Nat × Nat)}{zc:List AV}{parts:List (Nat × AV)}{S:Store}{K:AV→Store→Prop}{cs:List AV}(h:fillA (fun i=>pl[i]?) zc parts=some cs):bld pl zc parts S K=K (.a cs) S:=by
 simp[bld,h]
theorem right_of{g:Gr}(hg:g.ok){S:Store}{id:Nat}(hid:id<S.n){z g0:AV}(h:S.obj id=some (onceO 195 0 0 z [pL g.ands,g0])){Q:AEnd→Store→Prop}
    (k:∀ S2,S.n≤S2.n→(∀ x,x<S.n→x≠id→S2.obj x=S.obj x)→Q (.ret (aB g.right)) S2):ACalls Pg 164 [g.av,.p id 0 0] S Q:=by
 have hlen:=hg.len
 refine calls164 ?_
 unfold m164 Gr.av
 refine boxA_of rfl fun S1 k1 n1 o1=>?_
 have kk:∀ b:Bool,g.right=b→Q (.ret (aB b)) S1:=fun b e=>e ▸ k S1 (by omega) fun x hx _=>k1.2 x hx
 rw[shift_p,ld1_p o1 rfl rfl,bin_lss,onB_v]
 refine gd_of (fun h1=>kk _ ?_) (fun h1=>?_)
 ·have h1:=of_decide_eq_true h1
  simp[Gr.right,show ¬ 0≤g.inputs by omega]
 have h1:0≤g.inputs:=by simpa using h1
 rw[shift_p,ld1_p o1 rfl rfl,bin_gtr,onB_v]
 refine gd_of (fun h2=>kk _ ?_) (fun h2=>?_)
 ·have h2:=of_decide_eq_true h2
  simp[Gr.right,show ¬ g.inputs≤2000 by omega]
 have h2:g.inputs≤2000:=by simpa using h2
 rw[shift_p,ld1_p o1 rfl rfl,lenS_pL,bin_gtr,onB_v]
 refine gd_of (fun h3=>kk _ ?_) (fun h3=>?_)
 ·have h3:=of_decide_eq_true h3
  have:¬ (g.ands.length:Int)≤2000:=by omega
  simp only[Gr.right,this,decide_false,Bool.false_and,Bool.and_false]
 have h3:g.ands.length≤2000:=by have:=of_decide_eq_false h3;omega
 rw[ldN_p (n:=2) o1 rfl]
 refine callF_ans (ans135 hg (by omega) h1) ?_
 rw[bin_gtr,onB_v]
 refine gd_of (fun h4=>kk _ ?_) (fun h4=>?_)
 ·have h4:=of_decide_eq_true h4
  simp[Gr.right,show ¬ g.vars≤2000 by omega]
 have h4:g.vars≤2000:=by simpa using h4
 rw[shift_p,ld1_p o1 rfl rfl,lenS_pL]
 refine loop164_0 (fun y S'=>Keep S1 S'∧∃ i:Nat,y=aI i∧i≤g.ands.length∧∀ j,j<i→may (g.ands.getD j (0,0)) (g.inputs+1+j)=true)
  (fun y _=>g.ands.length - ((intA y).getD 0).toNat) ⟨Keep.refl _,0,rfl,Nat.zero_le _,fun j hj=>(Nat.not_lt_zero _ hj).elim⟩ ?_
 rintro _ S2 ⟨k2,i,rfl,hi,hmay⟩ KE hKE
 have o2:=(k2.2 S.n (by omega)).trans o1
 have b2:=(k2.2 id (by omega)).trans ((k1.2 id hid).trans h)
 unfold b164_0
 rw[bin_lss,onB_v]
 refine gd_of (fun hlt=>?_) (fun hge=>?_)
 ·have hlt:i<g.ands.length:=by simpa using hlt
  have hg':g.ands.getD i (0,0)=g.ands[i]:=by simp[List.getD_eq_getElem?_getD,hlt]
  rw[ixS_pL hlt,ldN_q2]
  refine boxA_of rfl fun S3 k3 n3 o3=>?_
  refine stA_of o3 rfl rfl fun S4 n4 o4 f4=>?_
  have k4:Keep S1 S4:=(k2.trans k3).st (by have:=k2.1;omega) n4 f4
  have p4:=(k4.2 S.n (by omega)).trans o1
  rw[ldN_p (n:=2) o4 rfl,shift_p,ld1_p p4 rfl rfl,bin_add (by omega) (by omega),bin_add (by omega) (by omega)]
  refine callF_ans (ans183 (p:=g.ands[i]) (hg.pairs _ (List.getElem_mem hlt))) ?_
  rw[un_not,onB_v]
  refine gd_of (fun h5=>?_) (fun h5=>?_)
  ·have:g.right=false:=by
     have hr:(List.range g.ands.length).all (fun i=>may (g.ands.getD i (0,0)) (g.inputs+1+i))=false:=by
      rw[List.all_eq_false]
      exact⟨i,by simpa using hlt,by rw[hg'];simpa using h5⟩
     simp only[Gr.right,hr,Bool.false_and,Bool.and_false]
   rw[←this]
   exact k S4 (by have:=k4.1;omega) fun x hx _=>(k4.2 x (by omega)).trans (k1.2 x hx)
  ·have hadd:∀ K:AV→Store→Prop,∀ S,bin .add 0 (.v (.int .i64 (i:Int))) (.v (.int .i64 1)) S K=K (aI (i+1:Nat)) S:=fun K S=>bin_add (by omega) (by omega) 0
   rw[hadd]
   refine hKE _ _ ⟨k4,i+1,rfl,hlt,fun j hj=>?_⟩ (by simp[intA];omega)
   rcases Nat.lt_or_ge j i with hj'|hj'
   ·exact hmay j hj'
   ·have:j=i:=by omega
    subst this
    rw[hg']
    simpa using h5
 ·have hge:i=g.ands.length:=by simp at hge;omega
  subst hge
  have hn2:=k2.1
  refine⟨_,fun T hT=>by rw[shift_p];exact⟨rfl,rfl⟩,_,fun T hT=>by rw[ld1_p ((hT.2 _ (by omega)).trans o2) rfl rfl];exact⟨rfl,rfl⟩,_,fun T hT=>by rw[lenS_pL];exact⟨rfl,rfl⟩,.inl (many_once hlen (by omega) b2 fun S3 n3 f3=>?_)⟩
  have o3:=(f3 S.n (by omega) (by omega)).trans o2
  refine⟨fun T hT=>by rw[lenS_pL];exact⟨rfl,rfl⟩,fun T hT=>by rw[ld1_p ((hT.2 _ (by omega)).trans o3) rfl rfl];exact⟨rfl,rfl⟩,fun T hT=>by rw[shift_p];exact⟨rfl,rfl⟩,_,fun T hT=>by rw[bin_eql];exact⟨rfl,rfl⟩,?_⟩
  have:g.right=decide (((gat g.ands g.ands.length).length:Int)=g.ands.length):=by
   have hr:(List.range g.ands.length).all (fun i=>may (g.ands.getD i (0,0)) (g.inputs+1+i))=true:=by
    rw[List.all_eq_true]
    exact fun j hj=>hmay j (by simpa using hj)
   have hall:=gat_all (l:=g.ands) (i:=g.ands.length) (Nat.le_refl _)
   rw[List.take_length]at hall
   simp only[Gr.right,hr,Bool.true_and,h1,h2,h4,show(g.ands.length:Int)≤2000 by omega,decide_true,Int.natCast_inj,hall]
  rw[←this]
  exact k S3 (by omega) fun x hx hne=>(f3 x (by omega) hne).trans ((k2.2 x (by omega)).trans (k1.2 x hx))
theorem ans130{g:Gr}(hg:g.ok):Ans Pg 130 [g.av] (aB g.right):=by
 intro S
 refine ACalls.ans_v (calls130 ?_)
 unfold m130 Gr.av
 refine boxA_of rfl fun S1 k1 n1 o1=>?_
 rw[ldN_p (n:=2) o1 rfl,shift_p,ld1_p o1 rfl rfl]
 rw[bld_of (cs:=[aW32 0,aS32 0,.v (.int .u32 0),pL g.ands,.v (.map none)]) rfl]
 refine boxA_of rfl fun S2 k2 n2 o2=>?_
 refine .inl (right_of hg (by omega) o2 fun S3 n3 f3=>⟨rfl,k1.trans ⟨by omega,fun x hx=>?_⟩⟩)
 rw[f3 x (by omega) (by omega),k2.2 x hx]
theorem ans40{g:Gr}(hg:g.ok)(hi:g.inputs≤1000000)(h0:0≤g.inputs):Ans Pg 40 [g.av] (aI g.vars):=by
 intro S
 have hl:=hg.len
 refine ACalls.ans_v (calls40 ?_)
 unfold m40 Gr.av
 refine boxA_of rfl fun S1 k1 n1 o1=>?_
 rw[shift_p,ld1_p o1 rfl rfl,bin_add (by omega) (by omega),shift_p,ld1_p o1 rfl rfl,lenS_pL,bin_add (by omega) (by omega)]
 exact⟨rfl,k1⟩
theorem ans112{g:Gr}{l:Int}(hg:g.ok)(hl:i64R l):Ans Pg 112 [g.av,aI l] (aB (g.lit l)):=by
 intro S
 refine ACalls.ans_v (calls112 ?_)
 unfold m112 Gr.av Gr.lit
 refine boxA_of rfl fun S1 k1 n1 o1=>?_
 rw[shift_p,ld1_p o1 rfl rfl,bin_geq,onB_v]
 refine gd_of (fun h1=>?_) (fun h1=>⟨by simp only[h1,Bool.false_and],k1⟩)
 rw[shift_p,ld1_p o1 rfl rfl,bin_leq,onB_v]
 refine gd_of (fun h2=>?_) (fun h2=>⟨by simp only[h1,h2,Bool.false_and,Bool.true_and],k1⟩)
 rw[bin_geq,onB_v]
 refine gd_of (fun h3=>?_) (fun h3=>⟨by simp only[h1,h2,h3,Bool.false_and,Bool.true_and],k1⟩)
 rw[bin_half hl,ldN_p (n:=2) o1 rfl]
 refine callF_ans (ans40 hg (by have:=of_decide_eq_true h2;omega) (of_decide_eq_true h1)) ?_
 rw[bin_lss]
 exact⟨by simp only[h1,h2,h3,Bool.true_and],k1⟩
theorem binP_eq{a b c d:Int}{S:Store}{K:AV→Store→Prop}:binP .i64 .eql (.a [aI a,aI b]) (.a [aI c,aI d]) S K=K (aB (decide ((a,b)=(c,d)))) S:=by
 simp[binP,keyA]
theorem ixA_q{n sz:Nat}{c:List AV}{z:Nat}{S:Store}{K:AV→Store→Prop}(hz:z<n):ixA n sz (.q c 0) (aI z) S K=K (.q c (z*sz)) S:=by
 unfold ixA
 simp only[intA,optP_some,Int.toNat_natCast,shift,Nat.zero_add]
 exact propext ⟨fun h=>h.2,fun h=>⟨⟨by omega,by omega⟩,h⟩⟩
theorem ld1_q1{u v:AV}{S:Store}{K:AV→Store→Prop}:ld1 (.q [u,v] 1) S K=K v S:=by simp[ld1,rd1,place]
theorem ld1_q0{u:AV}{l:List AV}{S:Store}{K:AV→Store→Prop}:ld1 (.q (u :: l) 0) S K=K u S:=by simp[ld1,rd1,place]
theorem right_iff{g:Gr}:g.right=true↔0≤g.inputs∧g.inputs≤2000∧(g.ands.length:Int)≤2000∧g.vars≤2000∧(∀ j,j<g.ands.length→may (g.ands.getD j (0,0)) (g.inputs+1+j)=true)∧g.ands.Nodup:=by
 simp[Gr.right]
theorem nodup_take{α:Type}[DecidableEq α]{l:List α}{i:Nat}(h:i<l.length):(l.take (i+1)).Nodup↔(l.take i).Nodup∧∀ k (hk:k<i),l[k]≠l[i]:=by
 rw[List.take_add_one,List.getElem?_eq_getElem h,List.nodup_append]
 constructor
 ·rintro⟨h1,_,h3⟩
  refine⟨h1,fun k hk=>h3 _ ?_ _ (by simp)⟩
  rw[List.mem_take_iff_getElem]
  exact⟨k,by omega,rfl⟩
 ·rintro⟨h1,h2⟩
  refine⟨h1,by simp,fun a ha b hb=>?_⟩
  have:b=l[i]:=by simpa using hb
  subst this
  rw[List.mem_take_iff_getElem]at ha
  obtain⟨k,hk,rfl⟩:=ha
  exact h2 k (by omega)
theorem may_false1{p:Int × Int}{v:Int}(h:p.2<2):may p v=false:=by simp[may,show ¬ 2≤p.2 by omega]
theorem may_false2{p:Int × Int}{v:Int}(h:p.1.tdiv 2≤p.2.tdiv 2):may p v=false:=by simp[may,show ¬ p.2.tdiv 2<p.1.tdiv 2 by omega]
theorem may_false3{p:Int × Int}{v:Int}(h:v≤p.1.tdiv 2):may p v=false:=by simp[may,show ¬ p.1.tdiv 2<v by omega]
theorem right_may{g:Gr}{i:Nat}(h:i<g.ands.length)(hm:may (g.ands.getD i (0,0)) (g.inputs+1+i)=false):g.right=false:=by
 cases e:g.right with
 |false=>rfl
 |true=>rw[(right_iff.1 e).2.2.2.2.1 i h]at hm;cases hm
theorem ans111{g:Gr}(hg:g.ok):Ans Pg 111 [g.av] (aB g.right):=by
 intro S
 refine ACalls.ans_v (calls111 ?_)
 have hlen:=hg.len
 unfold m111 Gr.av
 refine boxA_of rfl fun S1 k1 n1 o1=>?_
 rw[shift_p,ld1_p o1 rfl rfl,bin_lss,onB_v]
 refine gd_of (fun h1=>⟨?_,k1⟩) (fun h1=>?_)
 ·have h1:=of_decide_eq_true h1
  simp[Gr.right,show ¬ 0≤g.inputs by omega]
 have h1:0≤g.inputs:=by simpa using h1
 rw[shift_p,ld1_p o1 rfl rfl,bin_gtr,onB_v]
 refine gd_of (fun h2=>⟨?_,k1⟩) (fun h2=>?_)
 ·have h2:=of_decide_eq_true h2
  simp[Gr.right,show ¬ g.inputs≤2000 by omega]
 have h2:g.inputs≤2000:=by simpa using h2
 rw[shift_p,ld1_p o1 rfl rfl,lenS_pL,bin_gtr,onB_v]
 refine gd_of (fun h3=>⟨?_,k1⟩) (fun h3=>?_)
 ·have h3:=of_decide_eq_true h3
  have:¬ (g.ands.length:Int)≤2000:=by omega
  simp only[Gr.right,this,decide_false,Bool.false_and,Bool.and_false]
 have h3:g.ands.length≤2000:=by have:=of_decide_eq_false h3;omega
 rw[ldN_p (n:=2) o1 rfl]
 refine callF_ans (ans40 hg (by omega) h1) ?_
 rw[bin_gtr,onB_v]
 refine gd_of (fun h4=>⟨?_,k1⟩) (fun h4=>?_)
 ·have h4:=of_decide_eq_true h4
  simp[Gr.right,show ¬ g.vars≤2000 by omega]
 have h4:g.vars≤2000:=by simpa using h4
 refine loop111_0 (fun y S'=>S'=S1∧∃ i:Nat,y=aI i∧i≤g.ands.length∧(∀ j,j<i→may (g.ands.getD j (0,0)) (g.inputs+1+j)=true)∧(g.ands.take i).Nodup)
  (fun y _=>g.ands.length - ((intA y).getD 0).toNat) ⟨rfl,0,rfl,Nat.zero_le _,fun j hj=>(Nat.not_lt_zero _ hj).elim,by simp⟩ ?_
 rintro _ S1 ⟨rfl,i,rfl,hi,hmay,hnd⟩ KE hKE
 unfold b111_0
 rw[shift_p,ld1_p o1 rfl rfl,lenS_pL,bin_lss,onB_v]
 refine gd_of (fun hlt=>?_) (fun hge=>?_)
 ·have hlt:i<g.ands.length:=by simpa using hlt
  have hg':g.ands.getD i (0,0)=g.ands[i]:=by simp[List.getD_eq_getElem?_getD,hlt]
  have hp:=hg.pairs _ (List.getElem_mem hlt)
  have e1:∀(c:List AV) (K:AV→Store→Prop),ixA 2 1 (.q c 0) (.v (.int .i64 1)) S1 K=K (.q c 1) S1:=fun c K=>ixA_q (z:=1) (by decide)
  have e0:∀(c:List AV) (K:AV→Store→Prop),ixA 2 1 (.q c 0) (.v (.int .i64 0)) S1 K=K (.q c 0) S1:=fun c K=>ixA_q (z:=0) (by decide)
  show ∃ q24:AV,_
  refine⟨_,by rw[shift_p];exact⟨rfl,rfl⟩,_,by rw[ld1_p o1 rfl rfl];exact⟨rfl,rfl⟩,_,by rw[ixS_pL hlt];exact⟨rfl,rfl⟩,_,by rw[e0];exact⟨rfl,rfl⟩,_,by rw[ld1_q0];exact⟨rfl,rfl⟩,
   _,by rw[shift_p];exact⟨rfl,rfl⟩,_,by rw[ld1_p o1 rfl rfl];exact⟨rfl,rfl⟩,_,by rw[ixS_pL hlt];exact⟨rfl,rfl⟩,_,by rw[e1];exact⟨rfl,rfl⟩,_,by rw[ld1_q1];exact⟨rfl,rfl⟩,?_⟩
  rw[bin_lss,onB_v]
  refine gd_of (fun h5=>⟨?_,k1⟩) (fun h5=>?_)
  ·rw[right_may hlt (by rw[hg'];exact may_false1 (of_decide_eq_true h5))]
  rw[bin_half hp.1,bin_half hp.2,bin_leq,onB_v]
  refine gd_of (fun h6=>⟨?_,k1⟩) (fun h6=>?_)
  ·rw[right_may hlt (by rw[hg'];exact may_false2 (of_decide_eq_true h6))]
  rw[bin_half hp.1,shift_p,ld1_p o1 rfl rfl,bin_add (by omega) (by omega),bin_add (by omega) (by omega),bin_geq,onB_v]
  refine gd_of (fun h7=>⟨?_,k1⟩) (fun h7=>?_)
  ·rw[right_may hlt (by rw[hg'];exact may_false3 (of_decide_eq_true h7))]
  have h5:=of_decide_eq_false h5
  have h6:=of_decide_eq_false h6
  have h7:=of_decide_eq_false h7
  refine loop111_1 (fun y S'=>S'=S1∧∃ k:Nat,y=aI k∧k≤i∧∀ j (hj:j<k) (hk:k≤i),g.ands[j]'(by omega)≠g.ands[i])
   (fun y _=>g.ands.length - ((intA y).getD 0).toNat) ⟨rfl,0,rfl,Nat.zero_le _,fun j hj=>(Nat.not_lt_zero _ hj).elim⟩ ?_
  rintro _ S1 ⟨rfl,k,rfl,hk,hne⟩ KE1 hKE1
  unfold b111_1
  rw[bin_lss,onB_v]
  refine gd_of (fun hlk=>?_) (fun hgk=>?_)
  ·have hlk:k<i:=by simpa using hlk
   have hkl:k<g.ands.length:=by omega
   show ∃ q24:AV,_
   refine⟨_,by rw[shift_p];exact⟨rfl,rfl⟩,_,by rw[ld1_p o1 rfl rfl];exact⟨rfl,rfl⟩,_,by rw[ixS_pL hkl];exact⟨rfl,rfl⟩,_,by rw[ldN_q2];exact⟨rfl,rfl⟩,
    _,by rw[shift_p];exact⟨rfl,rfl⟩,_,by rw[ld1_p o1 rfl rfl];exact⟨rfl,rfl⟩,_,by rw[ixS_pL hlt];exact⟨rfl,rfl⟩,_,by rw[ldN_q2];exact⟨rfl,rfl⟩,_,by rw[binP_eq];exact⟨rfl,rfl⟩,?_⟩
   rw[onB_v]
   refine gd_of (fun h8=>⟨?_,k1⟩) (fun h8=>?_)
   ·have h8:g.ands[k]=g.ands[i]:=of_decide_eq_true h8
    have:g.right=false:=by
     cases e:g.right with
     |false=>rfl
     |true =>
      have hnd:=(right_iff.1 e).2.2.2.2.2
      exact absurd h8 (List.pairwise_iff_getElem.1 hnd k i hkl hlt hlk)
    rw[this]
   ·have h8:¬ g.ands[k]=g.ands[i]:=of_decide_eq_false h8
    have hadd:∀ K:AV→Store→Prop,∀ S,bin .add 0 (.v (.int .i64 (k:Int))) (.v (.int .i64 1)) S K=K (aI (k+1:Nat)) S:=fun K S=>bin_add (by omega) (by omega) 0
    rw[hadd]
    refine hKE1 _ _ ⟨rfl,k+1,rfl,hlk,fun j hj _=>?_⟩ (by simp[intA];omega)
    rcases Nat.lt_or_ge j k with hj'|hj'
    ·exact hne j hj' (by omega)
    ·have:j=k:=by omega
     subst this
     exact h8
  ·have hge:k=i:=by simp at hgk;omega
   subst hge
   have hadd:∀ K:AV→Store→Prop,∀ S,bin .add 0 (.v (.int .i64 (k:Int))) (.v (.int .i64 1)) S K=K (aI (k+1:Nat)) S:=fun K S=>bin_add (by omega) (by omega) 0
   rw[hadd]
   refine hKE _ _ ⟨rfl,k+1,rfl,hlt,fun j hj=>?_,(nodup_take hlt).2 ⟨hnd,fun j hj=>hne j hj (Nat.le_refl _)⟩⟩ (by simp[intA];omega)
   rcases Nat.lt_or_ge j k with hj'|hj'
   ·exact hmay j hj'
   ·have:j=k:=by omega
    subst this
    rw[hg']
    simp[may,show 2≤(g.ands[j]).2 by omega,show(g.ands[j]).2.tdiv 2<(g.ands[j]).1.tdiv 2 by omega,show(g.ands[j]).1.tdiv 2<g.inputs+1+j by omega]
 ·have hge:i=g.ands.length:=by simp at hge;omega
  subst hge
  rw[List.take_length]at hnd
  rw[right_iff.2 ⟨h1,h2,by omega,h4,hmay,hnd⟩]
  exact⟨rfl,k1⟩
theorem Own.appL{n:Nat}{S:Store}{x:AV}{e sz b:Nat}{es ys:List (List AV)}(h:Own n S x e es)(hn:n≤S.n){K:AV→Store→Prop}(hc:∀ c∈ys,c.length=sz)(hb:(es.length+ys.length)*b≤140737488355328)
    (k:∀ x' S',Own n S' x' e (es++ys)→But S S' x→(x'=x∨∃ m,x' = .s S.n 0 m)→K x' S') {y:AV} (hy:srcE S y=some ys):appS e sz b x y S K:=by
 refine⟨h.isSl,ys,hy,hc,?_⟩
 cases ys with
 |nil=>exact k x S (by simpa using h) ⟨Nat.le_refl _,fun _ _ _=>rfl⟩ (.inl rfl)
 |cons c ys =>
  rcases h with⟨rfl,rfl⟩|⟨id,rfl,h1,h2,h3⟩
  ·refine⟨by simpa using hb,k _ _ (.inr ⟨S.n,rfl,hn,Nat.lt_succ_self _,by simp[Store.new]⟩) ⟨Nat.le_succ _,fun i hi _=>?_⟩ (.inr ⟨_,rfl⟩)⟩
   simp only[Store.new];rw[if_neg (by omega)]
  ·simp only[appE,h3]
   refine⟨⟨trivial,trivial,by simpa using hb⟩,k _ _ (.inr ⟨S.n,by simp,hn,Nat.lt_succ_self _,by simp[Store.new,Store.kill]⟩) ⟨Nat.le_succ _,fun i hi hne=>?_⟩ (.inr ⟨_,rfl⟩)⟩
   have e1:i≠S.n:=by omega
   have e2:i≠id:=fun hq=>hne 0 es.length (by rw[hq])
   simp[Store.new,Store.kill,e1,e2]
theorem bslP{e:Nat}{z1 z2 u v:AV}{S:Store}{K:AV→Store→Prop}(k:K (.l [[u,v]]) S):bslN e 2 1 [z1,z2] [(0,.a [u,v])] S K:=by
 refine⟨[u,v],?_,.inr ?_⟩
 ·simp[fillA,cellsOf,spl,List.range_succ]
 ·simpa[chunks,List.range_succ]using k
@[simp] theorem mx_true(a b:Int){S:Store}{K:AV→Store→Prop}:mxI true (aI a) (aI b) S K=K (aI (if b > a then b else a)) S:=rfl
@[simp] theorem mx_false(a b:Int){S:Store}{K:AV→Store→Prop}:mxI false (aI a) (aI b) S K=K (aI (if b<a then b else a)) S:=rfl
theorem treeP(l:List (Int × Int)):Tree (pL l):=Tree.l fun c hc u hu=>by
 obtain⟨p,_,rfl⟩:=List.mem_map.1 hc
 rcases List.mem_cons.1 hu with rfl|hu
 ·exact Tree.v _
 ·rcases List.mem_cons.1 hu with rfl|hu
  ·exact Tree.v _
  ·simp at hu
theorem Gr.tree(g:Gr):Tree g.av:=Tree.a fun u hu=>by
 rcases List.mem_cons.1 hu with rfl|hu
 ·exact Tree.v _
 ·rcases List.mem_cons.1 hu with rfl|hu
  ·exact treeP _
  ·simp at hu
theorem cv_t3{S:Store}{n:Nat}{x y z x' y' z':AV}(h1:Cv S n x x')(h2:Cv S n y y')(h3:Cv S n z z'):Cv S n (.t [x,y,z]) (.t [x',y',z']):=
 .t _ _ rfl fun k u u2 hk hk2=>by
  match k with
  |0=>cases hk;cases hk2;exact h1
  |1=>cases hk;cases hk2;exact h2
  |2=>cases hk;cases hk2;exact h3
  |k+3=>simp at hk
theorem cv_t2{S:Store}{n:Nat}{x y x' y':AV}(h1:Cv S n x x')(h2:Cv S n y y'):Cv S n (.t [x,y]) (.t [x',y']):=
 .t _ _ rfl fun k u u2 hk hk2=>by
  match k with
  |0=>cases hk;cases hk2;exact h1
  |1=>cases hk;cases hk2;exact h2
  |k+2=>simp at hk
theorem cv_a2{S:Store}{n:Nat}{x y x' y':AV}(h1:Cv S n x x')(h2:Cv S n y y'):Cv S n (.a [x,y]) (.a [x',y']):=
 .a _ _ rfl fun k u u2 hk hk2=>by
  match k with
  |0=>cases hk;cases hk2;exact h1
  |1=>cases hk;cases hk2;exact h2
  |k+2=>simp at hk
theorem gd_two{b c:Bool}{R T:Prop}(h1:b=true→c=true→R)(h2:¬ (b=true∧c=true)→T):gd b (gd c R T) T:=by
 cases b<;>cases c<;>simp_all [gd]
def andT(g:Gr)(x y:Int):Gr × Int × Int:=
 if y=0 then(g,0,0)
 else if x.tdiv 2=y.tdiv 2∧x≠y then(g,0,0)
 else if y=1 then(g,x,0)
 else if x=y then(g,x,0)
 else match g.ands.findIdx? (fun p=>decide (p=(x,y)))with
  |some i=>(g,2*(g.inputs+1+i),0)
  |none=>if 2000≤g.vars then(⟨0,[]⟩,0,2)else(⟨g.inputs,g.ands ++ [(x,y)]⟩,2*(g.vars+1) - 2,0)
def Gr.and(g:Gr)(a b:Int):Gr × Int × Int:=
 if(g.right && (g.lit a && g.lit b))=false then(⟨0,[]⟩,0,1)else andT g (if b > a then b else a) (if b<a then b else a)
def andAV(r:Gr × Int × Int):AV:=.t [r.1.av,aI r.2.1,aI r.2.2]
theorem vars40{i:Int}{x:AV}{n:Nat}(hx:∀(S:Store) (K:AV→Store→Prop),lenS x S K=K (aI n) S)(h0:0≤i)(h1:i≤1000000)(hn:n≤2000000):Ans Pg 40 [.a [aI i,x]] (aI (i+1+n)):=by
 intro S
 refine ACalls.ans_v (calls40 ?_)
 unfold m40
 refine boxA_of rfl fun S1 k1 n1 o1=>?_
 rw[shift_p,ld1_p o1 rfl rfl,bin_add (by omega) (by omega),shift_p,ld1_p o1 rfl rfl,hx,bin_add (by omega) (by omega)]
 exact⟨rfl,k1⟩
theorem ans120{g:Gr}{a b:Int}(hg:g.ok)(ha:i64R a)(hb:i64R b):Ans Pg 120 [g.av,aI a,aI b] (andAV (g.and a b)):=by
 intro S
 refine ACalls.tree (calls120 ?_)
 have hlen:=hg.len
 unfold m120
 have bd:∀{a b:Int} {S:Store} {K:AV→Store→Prop},bld [(0,1),(1,1)] [.v (.int .i64 0),.v (.int .i64 0)] [(0,aI a),(1,aI b)] S K=K (.a [aI a,aI b]) S:=bld_of rfl
 have bz:∀{S:Store} {K:AV→Store→Prop},bld [(0,1),(1,1)] [.v (.int .i64 0),.nl] [] S K=K (.a [aI 0,.nl]) S:=bld_of rfl
 refine boxA_of rfl fun S1 k1 n1 o1=>?_
 refine boxA_of rfl fun S2 k2 n2 o2=>?_
 have k2:=k1.trans k2
 have p1:S2.obj S.n=_:=(‹Keep S1 S2›.2 S.n (by omega)).trans o1
 have fin:∀{S':Store} {v:AV} (r:Gr × Int × Int),Keep S S'→Cv (S'.frz (newer S.n)) S.n v r.1.av→g.and a b=r→∃ q,AEnd.ret (.t [v,aI r.2.1,aI r.2.2]) = .ret q∧Keep S S'∧Cv (S'.frz (newer S.n)) S.n q (andAV (g.and a b)):=
  fun r hk hc e=>⟨_,rfl,hk,by rw[e];exact cv_t3 hc (.v _) (.v _)⟩
 have err:∀ S',Cv (Store.frz S' (newer S.n)) S.n (.a [aI 0,.nl]) (Gr.av ⟨0,[]⟩):=fun _=>cv_a2 (.v _) .nl
 have bad:∀{e:Int},(g.right && (g.lit a && g.lit b))=false→g.and a b=(⟨0,[]⟩,0,1):=fun h=>by simp only[Gr.and];rw[if_pos h]
 rw[ldN_p (n:=2) p1 rfl]
 refine callF_ans (ans111 hg) ?_
 rw[un_not,onB_v]
 refine gd_of (fun h1=>?_) (fun h1=>?_)
 ·rw[bz]
  refine stA_of o2 rfl rfl fun S3 n3 o3 f3=>?_
  rw[ldN_p (n:=2) o3 rfl]
  exact fin (⟨0,[]⟩,0,1) (k2.st (by omega) n3 f3) (err _) (bad (e:=0) (by rw[Bool.not_eq_true']at h1;rw[h1];rfl))
 have h1:g.right=true:=by simpa using h1
 rw[ldN_p (n:=2) p1 rfl]
 refine callF_ans (ans112 hg ha) ?_
 rw[un_not,onB_v]
 refine gd_of (fun h2=>?_) (fun h2=>?_)
 ·rw[bz]
  refine stA_of o2 rfl rfl fun S3 n3 o3 f3=>?_
  rw[ldN_p (n:=2) o3 rfl]
  exact fin (⟨0,[]⟩,0,1) (k2.st (by omega) n3 f3) (err _) (bad (e:=0) (by rw[Bool.not_eq_true']at h2;rw[h1,h2];rfl))
 have h2:g.lit a=true:=by simpa using h2
 rw[ldN_p (n:=2) p1 rfl]
 refine callF_ans (ans112 hg hb) ?_
 rw[un_not,onB_v]
 refine gd_of (fun h3=>?_) (fun h3=>?_)
 ·rw[bz]
  refine stA_of o2 rfl rfl fun S3 n3 o3 f3=>?_
  rw[ldN_p (n:=2) o3 rfl]
  exact fin (⟨0,[]⟩,0,1) (k2.st (by omega) n3 f3) (err _) (bad (e:=0) (by rw[Bool.not_eq_true']at h3;rw[h1,h2,h3];rfl))
 have h3:g.lit b=true:=by simpa using h3
 obtain⟨r1,r2,r3,r4,r5,r6⟩:=right_iff.1 h1
 rw[mx_true,mx_false]
 have hx:i64R (if b > a then b else a):=by split<;>assumption
 have hy:i64R (if b<a then b else a):=by split<;>assumption
 have hand:g.and a b=andT g (if b > a then b else a) (if b<a then b else a):=by
  simp only[Gr.and]
  rw[if_neg (by rw[h1,h2,h3];decide)]
 generalize hex:(if b > a then b else a)=x at *
 generalize hey:(if b<a then b else a)=y at *
 have ok:∀{S':Store},Cv (S'.frz (newer S.n)) S.n (.a g.cells) g.av:=fun{S'}=>g.tree _ _
 rw[bin_eql,onB_v]
 refine gd_of (fun h4=>?_) (fun h4=>?_)
 ·rw[ldN_p (n:=2) p1 rfl]
  refine stA_of o2 rfl rfl fun S3 n3 o3 f3=>?_
  rw[ldN_p (n:=2) o3 rfl]
  exact fin (g,0,0) (k2.st (by omega) n3 f3) ok (hand.trans (by rw[andT,if_pos (of_decide_eq_true h4)]))
 have h4:=of_decide_eq_false h4
 rw[bin_half hx,bin_half hy,bin_eql,onB_v]
 rw[bin_neq,onB_v]
 refine gd_two (fun h5 h6=>?_) (fun h7=>?_)
 ·rw[ldN_p (n:=2) p1 rfl]
  refine stA_of o2 rfl rfl fun S3 n3 o3 f3=>?_
  rw[ldN_p (n:=2) o3 rfl]
  exact fin (g,0,0) (k2.st (by omega) n3 f3) ok (hand.trans (by rw[andT,if_neg h4,if_pos ⟨of_decide_eq_true h5,by simpa using h6⟩]))
 ·have h7:¬ (x.tdiv 2=y.tdiv 2∧x≠y):=fun h=>h7 ⟨by simpa using h.1,by simpa using h.2⟩
  have hand:g.and a b=(if y=1 then(g,x,(0:Int))
   else if x=y then(g,x,0)
   else match g.ands.findIdx? (fun p=>decide (p=(x,y)))with
    |some i=>(g,2*(g.inputs+1+i),0)
    |none=>if 2000≤g.vars then(⟨0,[]⟩,0,2)else(⟨g.inputs,g.ands ++ [(x,y)]⟩,2*(g.vars+1) - 2,0):Gr × Int × Int):=hand.trans (by rw[andT,if_neg h4,if_neg h7])
  rw[bin_eql,onB_v]
  refine gd_of (fun h8=>?_) (fun h8=>?_)
  ·rw[ldN_p (n:=2) p1 rfl]
   refine stA_of o2 rfl rfl fun S3 n3 o3 f3=>?_
   rw[ldN_p (n:=2) o3 rfl]
   exact fin (g,x,0) (k2.st (by omega) n3 f3) ok (hand.trans (by rw[if_pos (of_decide_eq_true h8)]))
  have h8:=of_decide_eq_false h8
  rw[bin_eql,onB_v]
  refine gd_of (fun h9=>?_) (fun h9=>?_)
  ·rw[ldN_p (n:=2) p1 rfl]
   refine stA_of o2 rfl rfl fun S3 n3 o3 f3=>?_
   rw[ldN_p (n:=2) o3 rfl]
   exact fin (g,x,0) (k2.st (by omega) n3 f3) ok (hand.trans (by rw[if_neg h8,if_pos (of_decide_eq_true h9)]))
  have h9:=of_decide_eq_false h9
  have hand:=hand.trans (by rw[if_neg h8,if_neg h9])
  refine loop120_0 (fun z S'=>S'=S2∧∃ i:Nat,z=aI i∧i≤g.ands.length∧∀ j (hj:j<g.ands.length),j<i→g.ands[j]≠(x,y))
   (fun z _=>g.ands.length - ((intA z).getD 0).toNat) ⟨rfl,0,rfl,Nat.zero_le _,fun j _ hj=>(Nat.not_lt_zero _ hj).elim⟩ ?_
  rintro _ S2 ⟨rfl,i,rfl,hi,hno⟩ KE hKE
  unfold b120_0
  have hl3:=r3
  have hv:=r4
  unfold Gr.vars at hv
  rw[shift_p,ld1_p p1 rfl rfl,lenS_pL,bin_lss,onB_v]
  refine gd_of (fun hlt=>?_) (fun hge=>?_)
  ·have hlt:i<g.ands.length:=by simpa using hlt
   rw[shift_p,ld1_p p1 rfl rfl,ixS_pL hlt,ldN_q2,bd,binP_eq,onB_v]
   refine gd_of (fun h10=>?_) (fun h10=>?_)
   ·have h10:g.ands[i]=(x,y):=of_decide_eq_true h10
    have hf:g.ands.findIdx? (fun p=>decide (p=(x,y)))=some i:=by
     rw[List.findIdx?_eq_some_iff_getElem]
     exact⟨hlt,by simpa using h10,fun j hj=>by simpa using hno j (by omega) hj⟩
    have q:∀ T:Store,Keep S2 T→T.obj S.n=some (.cells 82 [g.cells] true):=fun T hT=>(hT.2 _ (by omega)).trans p1
    have e1:∀{S:Store} {K:AV→Store→Prop},bin .add 0 (aI g.inputs) (aI 1) S K=K (aI (g.inputs+1)) S:=bin_add (by omega) (by omega) 0
    have e2:∀{S:Store} {K:AV→Store→Prop},bin .add 0 (aI (g.inputs+1)) (aI i) S K=K (aI (g.inputs+1+i)) S:=bin_add (by omega) (by omega) 0
    have e3:∀{S:Store} {K:AV→Store→Prop},bin .mul 0 (aI 2) (aI (g.inputs+1+i)) S K=K (aI (2*(g.inputs+1+i))) S:=bin_mul (by omega) (by omega) 0
    refine⟨_,fun T hT=>by rw[ldN_p (n:=2) (q T hT) rfl];exact⟨rfl,rfl⟩,_,fun T hT=>by rw[shift_p];exact⟨rfl,rfl⟩,_,fun T hT=>by rw[ld1_p (q T hT) rfl rfl];exact⟨rfl,rfl⟩,_,fun T hT=>by rw[e1];exact⟨rfl,rfl⟩,_,fun T hT=>by rw[e2];exact⟨rfl,rfl⟩,_,fun T hT=>by rw[e3];exact⟨rfl,rfl⟩,?_⟩
    refine stA_of o2 rfl rfl fun S3 n3 o3 f3=>?_
    have q3:∀ T:Store,Keep S3 T→T.obj S.n=some (.cells 82 [g.cells] true):=fun T hT=>(hT.2 _ (by omega)).trans ((f3 _ (by omega)).trans p1)
    refine⟨fun T hT=>by rw[e3];exact⟨rfl,rfl⟩,fun T hT=>by rw[e2];exact⟨rfl,rfl⟩,fun T hT=>by rw[e1];exact⟨rfl,rfl⟩,fun T hT=>by rw[ld1_p (q3 T hT) rfl rfl];exact⟨rfl,rfl⟩,fun T hT=>by rw[shift_p];exact⟨rfl,rfl⟩,?_⟩
    rw[ldN_p (n:=2) o3 rfl]
    exact fin (g,2*(g.inputs+1+i),0) (k2.st (by omega) n3 f3) ok (hand.trans (by rw[hf]))
   ·have h10:¬ g.ands[i]=(x,y):=of_decide_eq_false h10
    have hadd:∀ K:AV→Store→Prop,∀ S,bin .add 0 (.v (.int .i64 (i:Int))) (.v (.int .i64 1)) S K=K (aI (i+1:Nat)) S:=fun K S=>bin_add (by omega) (by omega) 0
    rw[hadd]
    refine hKE _ _ ⟨rfl,i+1,rfl,hlt,fun j hj hj'=>?_⟩ (by simp[intA];omega)
    rcases Nat.lt_or_ge j i with h|h
    ·exact hno j hj h
    ·have:j=i:=by omega
     subst this
     exact h10
  ·have hge:i=g.ands.length:=by simp at hge;omega
   subst hge
   have hf:g.ands.findIdx? (fun p=>decide (p=(x,y)))=none:=by
    rw[List.findIdx?_eq_none_iff]
    intro q hq
    obtain⟨j,hj,rfl⟩:=List.getElem_of_mem hq
    simpa using hno j hj hj
   rw[hf]at hand
   rw[ldN_p (n:=2) p1 rfl]
   refine callF_ans (ans40 hg (by omega) r1) ?_
   rw[bin_geq,onB_v]
   refine gd_of (fun h11=>?_) (fun h11=>?_)
   ·rw[bz]
    refine stA_of o2 rfl rfl fun S3 n3 o3 f3=>?_
    rw[ldN_p (n:=2) o3 rfl]
    exact fin (⟨0,[]⟩,0,2) (k2.st (by omega) n3 f3) (err _) (hand.trans (by simp only[if_pos (of_decide_eq_true h11)]))
   have h11:=of_decide_eq_false h11
   have hand:g.and a b=(⟨g.inputs,g.ands ++ [(x,y)]⟩,2*(g.vars+1) - 2,0):=hand.trans (by simp only[if_neg h11])
   refine boxA_of rfl fun S3 k3 n3 o3=>?_
   have p3:=(k3.2 S.n (by omega)).trans p1
   rw[shift_p,ld1_p p3 rfl rfl,shift_p]
   refine stF_of o3 (by simp) rfl fun S4 n4 o4 f4=>?_
   have p4:=(f4 S.n (by omega)).trans p3
   rw[shift_p,ld1_p o4 rfl rfl,shift_p,ld1_p p4 rfl rfl]
   have m2:=k2.1
   have m3:=k3.1
   have k4:Keep S S4:=(k2.trans k3).st (by omega) n4 f4
   have v4:S4.obj S1.n=_:=(f4 S1.n (by omega)).trans ((k3.2 S1.n (by omega)).trans o2)
   refine Own.appL (Own.nl S.n S4 124) (by omega) (ys:=g.ands.map fun p=>[aI p.1,aI p.2]) (fun c hc=>by obtain⟨p,_,rfl⟩:=List.mem_map.1 hc;rfl) (by simp;omega) (fun z1 S5 w5 b5 hz5=>?_) rfl
   rw[bd]
   refine bslP ?_
   have k5:Keep S S5:=w5.keep (S0:=S) (Nat.le_refl _) ⟨Nat.le_refl _,fun _ _ _=>rfl⟩ ⟨Nat.le_trans k4.1 b5.1,fun i hi=>(b5.2 i (by have:=k4.1;omega) (fun _ _ h=>by cases h)).trans (k4.2 i hi)⟩
   have e5:∀ i,i<S4.n→S5.obj i=S4.obj i:=fun i hi=>b5.2 i hi (fun _ _ h=>by cases h)
   have z5:∀ i b m,z1 = .s i b m→i=S4.n:=fun i b m e=>by
    rcases hz5 with h|⟨m',h⟩
    ·rw[h]at e;cases e
    ·rw[h]at e;cases e;rfl
   have n5:=b5.1
   refine w5.app (by have:=k5.1;omega) (c:=[aI x,aI y]) rfl (by simp;omega) (fun z2 S6 w6 b6 hz6=>?_) rfl
   have e6:∀ i,i<S4.n→S6.obj i=S4.obj i:=fun i hi=>(b6.2 i (by omega) (fun b m e=>by have:=z5 i b m e;omega)).trans (e5 i hi)
   have n6:=b6.1
   have k6:Keep S S6:=w5.keep (Nat.le_refl _) b6 k5
   obtain⟨m6,hz6⟩:=hz6
   rw[shift_p]
   refine stF_of ((e6 S2.n (by omega)).trans o4) (by simp) (by rw[hz6];rfl) fun S7 n7 o7 f7=>?_
   have p7:S7.obj S.n=_:=(f7 S.n (by omega)).trans ((e6 S.n (by omega)).trans p4)
   have v7:S7.obj S1.n=_:=(f7 S1.n (by omega)).trans ((e6 S1.n (by omega)).trans v4)
   have k7:Keep S S7:=k6.st (by omega) n7 f7
   have w7:Own S.n S7 z2 124 _:=w6.st (id:=S2.n) (fun b m e=>by rw[hz6]at e;injection e;omega) n7 f7
   have hlen2:(((g.ands.map fun p=>[aI p.1,aI p.2]) ++ [[aI x,aI y]]).length:Nat)=g.ands.length+1:=by simp
   have hz:∀(S:Store) (K:AV→Store→Prop),lenS z2 S K=K (aI (g.ands.length+1:Nat)) S:=fun S K=>by
    rcases w7 with⟨h,h'⟩|⟨id,h,_,_,_⟩
    ·rw[h]at hz6;cases hz6
    ·rw[h,lenS_s,List.nil_append,hlen2]
   have q:∀ T:Store,Keep S7 T→T.obj S2.n=some (.cells 82 [[aI g.inputs,z2]] true):=fun T hT=>(hT.2 _ (by omega)).trans o7
   have e1:∀{S:Store} {K:AV→Store→Prop},bin .mul 0 (aI 2) (aI (g.inputs+1+(g.ands.length+1:Nat))) S K=K (aI (2*(g.inputs+1+(g.ands.length+1:Nat)))) S:=bin_mul (by omega) (by omega) 0
   have e2:∀{S:Store} {K:AV→Store→Prop},bin .sub 0 (aI (2*(g.inputs+1+(g.ands.length+1:Nat)))) (aI 2) S K=K (aI (2*(g.inputs+1+(g.ands.length+1:Nat)) - 2)) S:=bin_sub (by omega) (by omega) 0
   refine⟨_,fun T hT=>by rw[ldN_p (n:=2) (q T hT) rfl];exact⟨rfl,rfl⟩,_,fun T hT=>by rw[ldN_p (n:=2) (q T hT) rfl];exact⟨rfl,rfl⟩,_,fun T hT=>callF_ans (vars40 hz r1 (by omega) (by omega)) ⟨rfl,rfl⟩,_,fun T hT=>by rw[e1];exact⟨rfl,rfl⟩,_,fun T hT=>by rw[e2];exact⟨rfl,rfl⟩,?_⟩
   refine stA_of v7 rfl rfl fun S8 n8 o8 f8=>?_
   refine⟨fun T hT=>by rw[e2];exact⟨rfl,rfl⟩,fun T hT=>by rw[e1];exact⟨rfl,rfl⟩,?_⟩
   rw[ldN_p (n:=2) o8 rfl]
   have w8:Own S.n S8 z2 124 _:=w7.st (id:=S1.n) (fun b m e=>by rw[hz6]at e;injection e;omega) n8 f8
   have hv2:g.vars=g.inputs+1+g.ands.length:=rfl
   have:=fin (S':=S8) (v:=.a [aI g.inputs,z2]) (⟨g.inputs,g.ands ++ [(x,y)]⟩,2*(g.vars+1) - 2,0) (k7.st (by omega) n8 f8) (cv_a2 (.v _) (w8.cv rfl (by simp) (fun i c c2 hc hc2=>?_))) hand
   ·rw[hv2,show g.inputs+1+(g.ands.length:Int)+1=g.inputs+1+(g.ands.length+1:Nat)by omega]at this
    exact this
   ·have:c=c2:=by
      rw[List.nil_append]at hc
      rw[List.map_append]at hc2
      exact Option.some.inj (hc.symm.trans hc2)
    subst this
    refine⟨rfl,fun k u u2 hu hu2=>?_⟩
    rw[hu]at hu2;cases hu2
    have hm:=List.mem_of_getElem? hc2
    rw[List.mem_map]at hm
    obtain⟨p,_,rfl⟩:=hm
    match k with
    |0=>cases hu;exact .v _
    |1=>cases hu;exact .v _
    |k+2=>simp at hu
section
variable {S:Store} {K:AV→Store→Prop}
theorem ixStr_b{b:ByteArray}{i:Nat}(h:i<b.size):ixStr (.v (.string b)) (aI i) S K=K (.v (.int .u8 (b[i]).toNat)) S:=by
 simp[ixStr,intA,h]
@[simp] theorem lenStr_b(b:ByteArray):lenStr (.v (.string b)) S K=K (aI b.size) S:=rfl
theorem bytesEq(a b:ByteArray):(a.toList == b.toList)=decide (a=b):=by
 rw[Bool.eq_iff_iff,beq_iff_eq,ByteArray.toList_eq,ByteArray.toList_eq,decide_eq_true_eq]
 exact⟨fun h=>ByteArray.ext (Array.toList_inj.mp h),fun h=>by rw[h]⟩
theorem bin_eqlS(a b:ByteArray)(kd:Nat):bin .eql kd (.v (.string a)) (.v (.string b)) S K=K (aB (decide (a=b))) S:=by simp[bin,b2,strB,bytesEq]
theorem bin_neqS(a b:ByteArray)(kd:Nat):bin .neq kd (.v (.string a)) (.v (.string b)) S K=K (aB (!decide (a=b))) S:=by simp[bin,b2,strB,bytesEq]
theorem ld1_qj{c:List AV}{j:Nat}{u:AV}(h:c[j]? = some u):ld1 (.q c j) S K=K u S:=by simp[ld1,rd1,place,h]
@[simp] theorem shift_q(c:List AV)(j n:Nat):shift (.q c j) n S K=K (.q c (j+n)) S:=rfl
end
def wordB(b:ByteArray):Bool:=decide (∀ i (h:i<b.size),33≤(b[i]).toNat∧(b[i]).toNat≤126) && (decide (0<b.size) && decide (b.size≤20))
theorem ans149(b:ByteArray)(hb:b.size≤9223372036854775807):Ans Pg 149 [.v (.string b)] (aB (wordB b)):=by
 intro S
 refine ACalls.ans_v (calls149 ?_)
 unfold m149
 refine loop149_0 (fun y S'=>S'=S∧∃ i:Nat,y=aI i∧i≤b.size∧∀ j (h:j<b.size),j<i→33≤(b[j]).toNat∧(b[j]).toNat≤126)
  (fun y _=>b.size - ((intA y).getD 0).toNat) ⟨rfl,0,rfl,Nat.zero_le _,fun j _ hj=>(Nat.not_lt_zero _ hj).elim⟩ ?_
 rintro _ S ⟨rfl,i,rfl,hi,hok⟩ KE hKE
 unfold b149_0
 rw[lenStr_b,bin_lss,onB_v]
 refine gd_of (fun hlt=>?_) (fun hge=>?_)
 ·have hlt:i<b.size:=by simpa using hlt
  have bad:¬ (33≤(b[i]).toNat∧(b[i]).toNat≤126)→wordB b=false:=fun h=>by
   simp only[wordB,Bool.and_eq_false_iff,decide_eq_false_iff_not]
   exact .inl fun h'=>h (h' i hlt)
  rw[ixStr_b hlt,bin_lss,onB_v]
  refine gd_of (fun h1=>⟨by rw[bad (fun h=>by have:=of_decide_eq_true h1;omega)],Keep.refl _⟩) (fun h1=>?_)
  rw[ixStr_b hlt,bin_gtr,onB_v]
  refine gd_of (fun h2=>⟨by rw[bad (fun h=>by have:=of_decide_eq_true h2;omega)],Keep.refl _⟩) (fun h2=>?_)
  have hadd:∀ K:AV→Store→Prop,∀ S,bin .add 0 (.v (.int .i64 (i:Int))) (.v (.int .i64 1)) S K=K (aI (i+1:Nat)) S:=fun K S=>bin_add (by omega) (by omega) 0
  rw[hadd]
  refine hKE _ _ ⟨rfl,i+1,rfl,hlt,fun j hj hj'=>?_⟩ (by simp[intA];omega)
  rcases Nat.lt_or_ge j i with h|h
  ·exact hok j hj h
  ·have:j=i:=by omega
   subst this
   have h1:=of_decide_eq_false h1
   have h2:=of_decide_eq_false h2
   omega
 ·have hge:i=b.size:=by simp at hge;omega
  subst hge
  have hall:decide (∀ i (h:i<b.size),33≤(b[i]).toNat∧(b[i]).toNat≤126)=true:=decide_eq_true fun j hj=>hok j hj hj
  rw[lenStr_b,bin_gtr,onB_v]
  refine gd_of (fun h1=>?_) (fun h1=>⟨?_,Keep.refl _⟩)
  ·rw[lenStr_b,bin_leq]
   refine⟨?_,Keep.refl _⟩
   simp only[wordB,hall,Bool.true_and,show 0<b.size by simpa using h1,decide_true]
   rw[show decide ((b.size:Int)≤20)=decide (b.size≤20)from decide_eq_decide.2 (by omega)]
  ·simp[wordB,show ¬ 0<b.size by simpa using h1]
theorem ans167(b:ByteArray)(hb:b.size≤9223372036854775807):Ans Pg 167 [.v (.string b)] (aB (wordB b)):=by
 intro S
 refine ACalls.ans_v (calls167 ?_)
 unfold m167
 rw[lenStr_b]
 refine loop167_0 (fun y S'=>S'=S∧∃ i:Nat,y=aI i∧i≤b.size∧∀ j (h:j<b.size),j<i→33≤(b[j]).toNat∧(b[j]).toNat≤126)
  (fun y _=>b.size - ((intA y).getD 0).toNat) ⟨rfl,0,rfl,Nat.zero_le _,fun j _ hj=>(Nat.not_lt_zero _ hj).elim⟩ ?_
 rintro _ S ⟨rfl,i,rfl,hi,hok⟩ KE hKE
 unfold b167_0
 rw[bin_lss,onB_v]
 refine gd_of (fun hlt=>?_) (fun hge=>?_)
 ·have hlt:i<b.size:=by simpa using hlt
  have bad:¬ (33≤(b[i]).toNat∧(b[i]).toNat≤126)→wordB b=false:=fun h=>by
   simp only[wordB,Bool.and_eq_false_iff,decide_eq_false_iff_not]
   exact .inl fun h'=>h (h' i hlt)
  rw[ixStr_b hlt,bin_leq,onB_v]
  refine gd_of (fun h1=>⟨by rw[bad (fun h=>by have:=of_decide_eq_true h1;omega)],Keep.refl _⟩) (fun h1=>?_)
  rw[ixStr_b hlt,bin_gtr,onB_v]
  refine gd_of (fun h2=>⟨by rw[bad (fun h=>by have:=of_decide_eq_true h2;omega)],Keep.refl _⟩) (fun h2=>?_)
  have hadd:∀ K:AV→Store→Prop,∀ S,bin .add 0 (.v (.int .i64 (i:Int))) (.v (.int .i64 1)) S K=K (aI (i+1:Nat)) S:=fun K S=>bin_add (by omega) (by omega) 0
  rw[hadd]
  refine hKE _ _ ⟨rfl,i+1,rfl,hlt,fun j hj hj'=>?_⟩ (by simp[intA];omega)
  rcases Nat.lt_or_ge j i with h|h
  ·exact hok j hj h
  ·have:j=i:=by omega
   subst this
   have h1:=of_decide_eq_false h1
   have h2:=of_decide_eq_false h2
   omega
 ·have hge:i=b.size:=by simp at hge;omega
  subst hge
  have hall:decide (∀ i (h:i<b.size),33≤(b[i]).toNat∧(b[i]).toNat≤126)=true:=decide_eq_true fun j hj=>hok j hj hj
  have he:decide (b={ data:=#[] })=decide (b.size=0):=by
   by_cases h:b.size=0
   ·have:b={ data:=#[] }:=byteArray_ext (Array.eq_empty_of_size_eq_zero h)
    subst this
    rfl
   ·have:¬ b={ data:=#[] }:=fun e=>h (by rw[e];rfl)
    simp[this,h]
  rw[bin_neqS,he,onB_v]
  refine gd_of (fun h1=>?_) (fun h1=>⟨?_,Keep.refl _⟩)
  ·have h1:b.size≠0:=by simpa using h1
   rw[lenStr_b,bin_leq]
   refine⟨?_,Keep.refl _⟩
   simp only[wordB,hall,Bool.true_and,show 0<b.size by omega,decide_true]
   rw[show decide ((b.size:Int)≤20)=decide (b.size≤20)from decide_eq_decide.2 (by omega)]
  ·have h1:b.size=0:=by simpa using h1
   simp[wordB,h1]
def rankI(k:Int):Int:=if k=105 then 0 else if k=108 then 1 else if k=111 then 2 else if k=98 then 3 else if k=99 then 4 else if k=102 then 5 else -1
def kindS:ByteArray:={ data:=#[105,108,111,98,99,102] }
def kindAt(i:Nat):Int:=[105,108,111,98,99,102].getD i 0
theorem kindS_get{i:Nat}(h:i<6):∃ h':i<kindS.size,((kindS[i]'h').toNat:Int)=kindAt i:=by
 match i,h with
 |0,_|1,_|2,_|3,_|4,_|5,_=>exact⟨by decide,by decide⟩
theorem rankI_at{k:Int}{i:Nat}(h:i<6)(hk:kindAt i=k):rankI k=i:=by
 subst hk
 match i,h with
 |0,_|1,_|2,_|3,_|4,_|5,_=>decide
theorem rankI_no{k:Int}(h:∀ i,i<6→kindAt i≠k):rankI k = -1:=by
 have h0:(105:Int)≠k:=h 0 (by decide)
 have h1:(108:Int)≠k:=h 1 (by decide)
 have h2:(111:Int)≠k:=h 2 (by decide)
 have h3:(98:Int)≠k:=h 3 (by decide)
 have h4:(99:Int)≠k:=h 4 (by decide)
 have h5:(102:Int)≠k:=h 5 (by decide)
 simp only[rankI]
 rw[if_neg (Ne.symm h0),if_neg (Ne.symm h1),if_neg (Ne.symm h2),if_neg (Ne.symm h3),if_neg (Ne.symm h4),if_neg (Ne.symm h5)]
theorem ans151(k:Int):Ans Pg 151 [.v (.int .u8 k)] (aI (rankI k)):=by
 intro S
 refine ACalls.ans_v (calls151 ?_)
 unfold m151
 refine loop151_0 (fun y S'=>S'=S∧∃ i:Nat,y=aI i∧i≤6∧∀ j,j<i→kindAt j≠k)
  (fun y _=>6 - ((intA y).getD 0).toNat) ⟨rfl,0,rfl,Nat.zero_le _,fun j hj=>(Nat.not_lt_zero _ hj).elim⟩ ?_
 rintro _ S ⟨rfl,i,rfl,hi,hno⟩ KE hKE
 unfold b151_0
 rw[lenStr_b,bin_lss,onB_v]
 refine gd_of (fun hlt=>?_) (fun hge=>?_)
 ·have hlt:i<6:=by have:=of_decide_eq_true hlt;exact Int.ofNat_lt.1 this
  obtain⟨h',he⟩:=kindS_get hlt
  show ixStr (.v (.string kindS)) _ _ _
  rw[ixStr_b h',he,bin_eql,onB_v]
  refine gd_of (fun h1=>⟨?_,Keep.refl _⟩) (fun h1=>?_)
  ·rw[rankI_at hlt (of_decide_eq_true h1)]
  ·have hadd:∀ K:AV→Store→Prop,∀ S,bin .add 0 (.v (.int .i64 (i:Int))) (.v (.int .i64 1)) S K=K (aI (i+1:Nat)) S:=fun K S=>bin_add (by omega) (by omega) 0
   rw[hadd]
   refine hKE _ _ ⟨rfl,i+1,rfl,hlt,fun j hj=>?_⟩ (by simp[intA];omega)
   rcases Nat.lt_or_ge j i with h|h
   ·exact hno j h
   ·have:j=i:=by omega
    subst this
    exact of_decide_eq_false h1
 ·have hge:i=6:=by
    have:¬ ((i:Int)<6):=of_decide_eq_false hge
    omega
  subst hge
  rw[rankI_no hno]
  exact⟨rfl,Keep.refl _⟩
theorem ans168(k:Int)(h0:0≤k)(h1:k<256):Ans Pg 168 [.v (.int .u8 k)] (aI (rankI k)):=by
 intro S
 refine ACalls.ans_v (calls168 ?_)
 unfold m168 rngS
 refine loop168_0 (fun S'=>Keep S S'∧∃ i:Nat,S'.obj S.n=some (.sit kindS i)∧i≤6∧∀ j,j<i→kindAt j≠k)
  (fun S'=>match S'.obj S.n with|some (.sit _ i)=>6 - i|_=>0) ⟨(Keep.refl S).new _,0,by rw[new_self];rfl,Nat.zero_le _,fun j hj=>(Nat.not_lt_zero _ hj).elim⟩ ?_
 rintro S1 ⟨k1,i,o1,hi,hno⟩ KE hKE
 unfold b168_0 nextM
 simp only[o1]
 refine⟨fun hlt=>?_,fun hge=>?_⟩
 ·have hlt:i<6:=hlt
  have hdec:(((Utf8.decode kindS i).1:Nat):Int)=kindAt i∧(Utf8.decode kindS i).2=1:=by
   match i,hlt with
   |0,_|1,_|2,_|3,_|4,_|5,_=>exact⟨by decide,by decide⟩
  rw[hdec.1,hdec.2]
  show extr _ _ _ _
  rw[extr0]
  show onB _ _
  rw[onB_v,gd_true,extr1,extr2,convI_v]
  have hw:IntKind.i32.wrap k=k:=by
   rw[IntKind.wrap_i32];omega
  rw[hw,bin_eql,onB_v]
  refine gd_of (fun h2=>⟨?_,k1.upd (Nat.le_refl _) _⟩) (fun h2=>?_)
  ·rw[rankI_at hlt (of_decide_eq_true h2).symm]
  ·refine hKE _ ⟨k1.upd (Nat.le_refl _) _,i+1,upd_self _ _,hlt,fun j hj=>?_⟩ (by simp only[upd_self,o1];omega)
   rcases Nat.lt_or_ge j i with h|h
   ·exact hno j h
   ·have:j=i:=by omega
    subst this
    exact Ne.symm (of_decide_eq_false h2)
 ·have hge:i=6:=by
    have:¬ (i<6):=hge
    omega
  subst hge
  show extr _ _ _ _
  rw[over,extr0,onB_v,gd_false,rankI_no hno]
  exact⟨rfl,k1⟩
theorem ans185(a:Int):Ans Pg 185 [aI a] (aB false):=by
 intro S
 refine ACalls.ans_v (calls185 ?_)
 unfold m185
 rw[bin_neq]
 exact⟨by simp,Keep.refl _⟩
def cmpZ(a b:Int):Int:=if a<b then -1 else if b<a then 1 else 0
theorem ans170(a b:Int):Ans Pg 170 [aI a,aI b] (aI (cmpZ a b)):=by
 intro S
 refine ACalls.ans_v (calls170 ?_)
 unfold m170
 refine callF_ans (ans185 a) (callF_ans (ans185 b) ?_)
 rw[onB_v,gd_false,onB_v,gd_false,bin_lss,onB_v]
 refine gd_of (fun h=>⟨?_,Keep.refl _⟩) (fun h=>?_)
 ·rw[cmpZ,if_pos (of_decide_eq_true h)]
 rw[bin_gtr,onB_v]
 have h:=of_decide_eq_false h
 refine gd_of (fun h2=>⟨?_,Keep.refl _⟩) (fun h2=>⟨?_,Keep.refl _⟩)
 ·rw[cmpZ,if_neg h,if_pos (of_decide_eq_true h2)]
 ·rw[cmpZ,if_neg h,if_neg (of_decide_eq_false h2)]
theorem ans169(a b:Int):Ans Pg 169 [.l [[aI a],[aI b]]] (aI (if a≠0 then a else b)):=by
 intro S
 refine ACalls.ans_v (calls169 ?_)
 unfold m169
 rw[lenS_l]
 refine loop169_0 (fun y S'=>S'=S∧∃ i:Nat,y=aI i∧i≤2∧(1≤i→a=0)∧(2≤i→b=0))
  (fun y _=>2 - ((intA y).getD 0).toNat) ⟨rfl,0,rfl,Nat.zero_le _,fun h=>by omega,fun h=>by omega⟩ ?_
 rintro _ S ⟨rfl,i,rfl,hi,h1,h2⟩ KE hKE
 unfold b169_0
 rw[bin_lss,onB_v]
 refine gd_of (fun hlt=>?_) (fun hge=>?_)
 ·have hlt:i<2:=by have:=of_decide_eq_true hlt;exact Int.ofNat_lt.1 this
  have hadd:∀ K:AV→Store→Prop,∀ S,bin .add 0 (.v (.int .i64 (i:Int))) (.v (.int .i64 1)) S K=K (aI (i+1:Nat)) S:=fun K S=>bin_add (by omega) (by omega) 0
  match i,hlt with
  |0,_ =>
   rw[show ∀ K:AV→Store→Prop,ixS 3 1 (.l [[aI a],[aI b]]) (aI ((0:Nat):Int)) S K=K (.q [aI a] 0) S from fun K=>ixS_l (es:=[[aI a],[aI b]]) (i:=0) (by simp) rfl,ld1_qj rfl,bin_neq,onB_v]
   refine gd_of (fun h=>⟨?_,Keep.refl _⟩) (fun h=>?_)
   ·rw[if_pos (by simpa using h)]
   ·rw[hadd]
    exact hKE _ _ ⟨rfl,1,rfl,by decide,fun _=>by simpa using h,fun h=>by omega⟩ (by simp[intA])
  |1,_ =>
   have ha:=h1 (Nat.le_refl _)
   rw[show ∀ K:AV→Store→Prop,ixS 3 1 (.l [[aI a],[aI b]]) (aI ((1:Nat):Int)) S K=K (.q [aI b] 0) S from fun K=>ixS_l (es:=[[aI a],[aI b]]) (i:=1) (by simp) rfl,ld1_qj rfl,bin_neq,onB_v]
   refine gd_of (fun h=>⟨?_,Keep.refl _⟩) (fun h=>?_)
   ·rw[if_neg (by simp[ha])]
   ·rw[hadd]
    exact hKE _ _ ⟨rfl,2,rfl,by decide,fun _=>ha,fun _=>by simpa using h⟩ (by simp[intA])
 ·have hge:i=2:=by
    have:¬ ((i:Int)<2):=of_decide_eq_false hge
    omega
  subst hge
  refine⟨?_,Keep.refl _⟩
  rw[h1 (by decide),h2 (by decide)]
  rfl
structure Na where
 kind:Int
 pos:Int
 text:ByteArray
 deriving DecidableEq
structure Ci where
 inputs:Int
 latches:List (Int × Int)
 ands:List (Int × Int)
 outs:List Int
 bads:List Int
 cons:List Int
 fair:List Int
 names:List Na
def Na.row(x:Na):List AV:=[.v (.int .u8 x.kind),aI x.pos,.v (.string x.text)]
def nL(l:List Na):AV:=.l (l.map Na.row)
def Ci.cells(c:Ci):List AV:=[aI c.inputs,pL c.latches,pL c.ands,aL aI c.outs,aL aI c.bads,aL aI c.cons,aL aI c.fair,nL c.names]
def Ci.av(c:Ci):AV:=.a c.cells
def Ci.gr(c:Ci):Gr:=⟨IntKind.i64.wrap (c.inputs+c.latches.length),c.ands⟩
structure Ci.ok (c:Ci):Prop where
 inp:i64R c.inputs
 llen:c.latches.length≤1000000
 alen:c.ands.length≤1000000
 lats:∀ p∈c.latches,i64R p.1∧i64R p.2
 pairs:∀ p∈c.ands,i64R p.1∧i64R p.2
 outs:(∀ x∈c.outs,i64R x)∧c.outs.length≤9223372036854775807
 bads:(∀ x∈c.bads,i64R x)∧c.bads.length≤9223372036854775807
 cons:(∀ x∈c.cons,i64R x)∧c.cons.length≤9223372036854775807
 fair:(∀ x∈c.fair,i64R x)∧c.fair.length≤9223372036854775807
 names:∀ x∈c.names,0≤x.kind∧x.kind<256∧i64R x.pos∧x.text.size≤9223372036854775807
 nlen:c.names.length≤1000000
theorem wrapR(n:Int):i64R (IntKind.i64.wrap n):=by
 unfold i64R
 rw[IntKind.wrap_i64];omega
theorem Ci.ok.gr{c:Ci}(h:c.ok):c.gr.ok:=⟨wrapR _,h.alen,h.pairs⟩
theorem bin_addW{a b:Int}(kd:Nat){S:Store}{K:AV→Store→Prop}:bin .add kd (aI a) (aI b) S K=K (aI (IntKind.i64.wrap (a+b))) S:=by
 simp[bin,b2,isSh,cmpI,ariI]
theorem ans84(c:Ci):Ans Pg 84 [c.av] c.gr.av:=by
 intro S
 refine ACalls.tree (calls84 ?_)
 unfold m84
 refine boxA_of rfl fun S1 k1 n1 o1=>?_
 refine boxA_of rfl fun S2 k2 n2 o2=>?_
 have p1:S2.obj S.n=_:=(k2.2 S.n (by omega)).trans o1
 rw[shift_p,ld1_p p1 rfl rfl,shift_p,ld1_p p1 rfl rfl,lenS_pL,bin_addW,shift_p,ld1_p p1 rfl rfl,bld_of (cs:=c.gr.cells) rfl]
 refine stA_of o2 rfl rfl fun S3 n3 o3 f3=>?_
 rw[ldN_p (n:=2) o3 rfl]
 exact⟨_,rfl,(k1.trans k2).st (by omega) n3 f3,c.gr.tree _ _⟩
theorem ans41(c:Ci):Ans Pg 41 [c.av] c.gr.av:=by
 intro S
 refine ACalls.tree (calls41 ?_)
 unfold m41
 refine boxA_of rfl fun S1 k1 n1 o1=>?_
 refine boxA_of rfl fun S2 k2 n2 o2=>?_
 have p1:S2.obj S.n=_:=(k2.2 S.n (by omega)).trans o1
 rw[shift_p,ld1_p p1 rfl rfl,shift_p,ld1_p p1 rfl rfl,lenS_pL,bin_addW,shift_p,ld1_p p1 rfl rfl,bld_of (cs:=c.gr.cells) rfl]
 refine stA_of o2 rfl rfl fun S3 n3 o3 f3=>?_
 rw[ldN_p (n:=2) o3 rfl]
 exact⟨_,rfl,(k1.trans k2).st (by omega) n3 f3,c.gr.tree _ _⟩
def Ci.many(c:Ci)(k:Int):Int:=if k=105 then c.inputs else if k=108 then c.latches.length else if k=111 then c.outs.length else if k=98 then c.bads.length else if k=99 then c.cons.length else if k=102 then c.fair.length else 0
def Ci.manyE(c:Ci):List (Key × AV):=[(.i 105,aI c.inputs),(.i 108,aI c.latches.length),(.i 111,aI c.outs.length),(.i 98,aI c.bads.length),(.i 99,aI c.cons.length),(.i 102,aI c.fair.length)]
theorem keyI(k:IntKind)(a:Int):keyA (.i k) (.v (.int k a))=some (.i a):=by simp[keyA]
theorem ans127(c:Ci):Ans Pg 127 [c.av] (.mt (.i .i32) c.manyE):=by
 intro S
 refine ACalls.tree (calls127 ?_)
 unfold m127
 refine boxA_of rfl fun S1 k1 n1 o1=>?_
 unfold mkM
 show shift _ _ _ _
 have p1:(S1.new (.map (.i .i32) [] true)).obj S.n=_:=(new_lt (by omega)).trans o1
 have u:∀{es:List (Key × AV)},(Store.upd (S1.new (.map (.i .i32) [] true)) S1.n (.map (.i .i32) es true)).obj S.n=_:=fun{es}=>(upd_ne (by omega)).trans p1
 rw[shift_p,ld1_p p1 rfl rfl,updM_m (new_self _) (keyI _ _)]
 rw[shift_p,ld1_p u rfl rfl,lenS_pL,updM_m (upd_self _ _) (keyI _ _),upd_upd]
 rw[shift_p,ld1_p u rfl rfl,lenS_aL,updM_m (upd_self _ _) (keyI _ _),upd_upd]
 rw[shift_p,ld1_p u rfl rfl,lenS_aL,updM_m (upd_self _ _) (keyI _ _),upd_upd]
 rw[shift_p,ld1_p u rfl rfl,lenS_aL,updM_m (upd_self _ _) (keyI _ _),upd_upd]
 rw[shift_p,ld1_p u rfl rfl,lenS_aL,updM_m (upd_self _ _) (keyI _ _),upd_upd]
 refine⟨_,rfl,(k1.new _).upd (by omega) _,.m' S1.n (.i .i32) c.manyE c.manyE ?_ rfl (fun i e e2 h h2=>by rw[h]at h2;cases h2;rfl) (fun i e e2 h h2=>?_)⟩
 ·rw[frz_ofM (upd_self _ _)]
  have:newer S.n S1.n=true:=by simp[newer];omega
  rw[this]
  rfl
 ·rw[h]at h2;cases h2
  match i with
  |0|1|2|3|4|5=>cases h;exact .v _
  |i+6=>simp[Ci.manyE]at h
theorem lkp_many(c:Ci)(k:Int):((lkp c.manyE (.i k)).getD (aI 0))=aI (c.many k):=by
 by_cases h0:k=105
 ·subst h0;rfl
 by_cases h1:k=108
 ·subst h1;rfl
 by_cases h2:k=111
 ·subst h2;rfl
 by_cases h3:k=98
 ·subst h3;rfl
 by_cases h4:k=99
 ·subst h4;rfl
 by_cases h5:k=102
 ·subst h5;rfl
 have:kix c.manyE (.i k)=none:=by
  rw[kix_none]
  simp[Ci.manyE,h0,h1,h2,h3,h4,h5]
 simp[lkp,this,Ci.many,h0,h1,h2,h3,h4,h5]
theorem rank_many{c:Ci}{k:Int}(h:¬ rankI k<0):c.many k = [c.inputs,c.latches.length,c.outs.length,c.bads.length,c.cons.length,c.fair.length].getD (rankI k).toNat 0:=by
 unfold rankI at h ⊢
 unfold Ci.many
 repeat' split
 all_goals first|rfl|(exfalso;apply h;simp[*])
theorem many_no{c:Ci}{k:Int}(h:rankI k<0):c.many k=0:=by
 unfold rankI at h
 unfold Ci.many
 repeat' split
 all_goals first|rfl|(simp[*]at h)
theorem rank_lt(k:Int):rankI k<6:=by
 unfold rankI
 repeat' split
 all_goals decide
theorem bsl6{e:Nat}{z a b c d f g:Int}{S:Store}{K:AV→Store→Prop}(k:K (.l [[aI a],[aI b],[aI c],[aI d],[aI f],[aI g]]) S):bslN e 1 6 [aI z] [(0,aI a),(1,aI b),(2,aI c),(3,aI d),(4,aI f),(5,aI g)] S K:=by
 refine⟨[aI a,aI b,aI c,aI d,aI f,aI g],?_,.inr ?_⟩
 ·simp[fillA,cells_of_one,spl,List.range_succ,cellsOf,AV.one,Value.oneCell']
 ·simpa[chunks,List.range_succ]using k
theorem ans150(c:Ci)(k:Int):Ans Pg 150 [c.av,.v (.int .u8 k)] (aI (c.many k)):=by
 intro S
 refine ACalls.ans_v (calls150 ?_)
 unfold m150
 refine boxA_of rfl fun S1 k1 n1 o1=>?_
 refine callF_ans (ans151 k) ?_
 rw[bin_lss,onB_v]
 refine gd_of (fun h=>⟨?_,k1⟩) (fun h=>?_)
 ·rw[many_no (of_decide_eq_true h)]
 have h:¬ rankI k<0:=of_decide_eq_false h
 rw[shift_p,ld1_p o1 rfl rfl,shift_p,ld1_p o1 rfl rfl,lenS_pL,shift_p,ld1_p o1 rfl rfl,lenS_aL,shift_p,ld1_p o1 rfl rfl,lenS_aL,shift_p,ld1_p o1 rfl rfl,lenS_aL,shift_p,ld1_p o1 rfl rfl,lenS_aL]
 refine bsl6 ?_
 obtain⟨r,hr⟩:=Int.eq_ofNat_of_zero_le (show 0≤rankI k by omega)
 have hr6:r<6:=by have:=rank_lt k;omega
 rw[rank_many h,hr]
 match r,hr6 with
 |0,_|1,_|2,_|3,_|4,_|5,_ =>
  rw[ixS_l (by simp) (by rfl),ld1_qj rfl]
  exact⟨rfl,k1⟩
section
set_option maxRecDepth 100000
def c166:Code:=(Tryz.f166.body).getD .skip
def r166:List ResultVar:=Tryz.f166.results.toList
def env166_0(y0 y1 y7 y8:AV):List AV:=[y0,y1,y7,y8]
def lv166_0:List Nat:=[0,1,7,8]
def ms166:List (List Nat):=[lv166_0,[]]
def m166(x0 x1:AV)(S:Store)(Q:PoT):Prop:=
 lenS x0 S fun a S=>loopV lv166_0 (vc Pg (c166.at_ [1,0,1,0,0]) (ms166.drop 1)) 19 (env166_0 x0 x1 a (.v (.int .i64 0))) S (blockK 0 (seqK (vc Pg (c166.at_ [1,1]) (ms166.drop 1)) (bodyK Pg r166 Q)))
theorem calls166{x0 x1:AV}{S:Store}{Q:PoT}(h:m166 x0 x1 S Q):ACalls Pg 166 [x0,x1] S Q:=
 calls_of_vc (fn:=Tryz.f166) (c:=c166) (n:=19) Tryz.func166 (by kernel_rfl) (by kernel_rfl) (by kernel_rfl) ms166 (Eq.mpr (by kernel_rfl) h)
def b166_0(y0 y1 y7 y8:AV)(S:Store)(KE0:KeT)(Q:PoT):Prop:=
 bin .lss 0 y8 y7 S fun a S=>onB a fun b=>gd b (ixS 3 1 y0 y8 S fun c S=>ld1 c S fun d S=>callV Pg y1 [d] S (fun e S=>onB e fun b=>gd b (Q (.ret y8) S) (bin .add 0 y8 (.v (.int .i64 1)) S fun f S=>KE0 19 (env166_0 y0 y1 y7 f) S)) (fun u S=>Q (.pan u) S)) (Q (.ret (.v (.int .i64 (-1)))) S)
theorem b166_0_eq(y0 y1 y7 y8:AV)(S:Store)(KE0:KeT)(Q:PoT):vc Pg (c166.at_ [1,0,1,0,0]) (ms166.drop 1) (mkE 19 lv166_0 (env166_0 y0 y1 y7 y8)) S (thenK (fgK lv166_0 KE0) (blockK 0 (seqK (vc Pg (c166.at_ [1,1]) (ms166.drop 1)) (bodyK Pg r166 Q))))=b166_0 y0 y1 y7 y8 S KE0 Q:=by kernel_rfl
theorem loop166_0{y0 y1 y7:AV}{y80:AV}{S:Store}{Q:PoT}(I:AV→Store→Prop)(μ:AV→Store→Nat)(h0:I y80 S)
    (hr:∀(y8:AV) (S:Store),I y8 S→∀ KE0:KeT,(∀(y8':AV) (S':Store),I y8' S'→μ y8' S'<μ y8 S→KE0 19 (env166_0 y0 y1 y7 y8') S')→b166_0 y0 y1 y7 y8 S KE0 Q):
    loopV lv166_0 (vc Pg (c166.at_ [1,0,1,0,0]) (ms166.drop 1)) 19 (env166_0 y0 y1 y7 y80) S (blockK 0 (seqK (vc Pg (c166.at_ [1,1]) (ms166.drop 1)) (bodyK Pg r166 Q))):=by
 refine⟨fun n e S=>n=19∧∃ y8:AV,e=(env166_0 y0 y1 y7 y8)∧I y8 S,fun _ e S=>μ (e.getD 3 .j) S,?_,?_⟩
 ·exact⟨_,_,Wk.refl _ _,rfl,_,rfl,h0⟩
 ·rintro _ e S ⟨rfl,y8,rfl,hI⟩
  exact(b166_0_eq _ _ _ _ _ _ _).mpr (hr y8 S hI _ (fun y8' S' hI' hm=>⟨_,_,Wk.refl _ _,⟨rfl,_,rfl,hI'⟩,hm⟩))
def c132:Code:=(Tryz.f132.body).getD .skip
def ms132:List (List Nat):=[[]]
def m132(x0 x1:AV)(S:Store)(Q:PoT):Prop:=
 callF Pg 166 [x0,x1] S Q fun a S=>bin .geq 0 a (.v (.int .i64 0)) S fun c S=>Q (.ret c) S
theorem calls132{x0 x1:AV}{S:Store}{Q:PoT}(h:m132 x0 x1 S Q):ACalls Pg 132 [x0,x1] S Q:=
 calls_of_vc (fn:=Tryz.f132) (c:=c132) (n:=9) Tryz.func132 (by kernel_rfl) (by kernel_rfl) (by kernel_rfl) ms132 (Eq.mpr (by kernel_rfl) h)
end
def idxOf(o:Option Nat):Int:=match o with|some i=>i|none=>-1
theorem find_at{α:Type}{g:α→Bool}{l:List α}{i:Nat}(hi:i<l.length)(hg:g l[i]=true)(h:∀ k (hk:k<i),g (l[k]'(Nat.lt_trans hk hi))=false):l.findIdx? g=some i:=by
 rw[List.findIdx?_eq_some_iff_getElem]
 exact⟨hi,hg,fun j hj=>by simp[h j hj]⟩
theorem find_none{α:Type}{g:α→Bool}{l:List α}(h:∀ k (hk:k<l.length),g l[k]=false):l.findIdx? g=none:=by
 rw[List.findIdx?_eq_none_iff]
 intro x hx
 obtain⟨k,hk,rfl⟩:=List.mem_iff_getElem.1 hx
 exact h k hk
theorem at166{α:Type}{f:α→AV}{l:List α}(hl:l.length≤9223372036854775807){g:α→Bool}{fn:FuncId}{fs cs:List AV}{S:Store}
    (hf:∀ x,x∈l→AnsAt Pg fn (fs ++ [f x]++cs) S (aB (g x))):AnsAt Pg 166 [aL f l,.f (.func fn) fs cs] S (aI (idxOf (l.findIdx? g))):=by
 refine calls166 ?_
 unfold m166
 rw[lenS_aL]
 refine loop166_0 (fun y S'=>S'=S∧∃ i:Nat,y=aI i∧i≤l.length∧∀ k (hk:k<l.length),k<i→g l[k]=false) (fun y _=>l.length - ((intA y).getD 0).toNat) ⟨rfl,0,rfl,Nat.zero_le _,fun k _ h=>absurd h (Nat.not_lt_zero _)⟩ ?_
 rintro _ _ ⟨rfl,i,rfl,hi,hk⟩ KE hKE
 unfold b166_0 aI
 rw[bin_lss,onB_v]
 refine gd_of (fun h=>?_) (fun h=>?_)
 ·have hlt:i<l.length:=by simpa using h
  rw[ixS_aL hlt,ld1_q]
  refine callV_at (hf _ (List.getElem_mem hlt)) ?_
  unfold aB
  rw[onB_v]
  refine gd_of (fun hg=>⟨?_,rfl⟩) (fun hg=>?_)
  ·rw[find_at hlt hg (fun k hk'=>hk k _ hk')];rfl
  ·rw[bin_add (by omega) (by omega)]
   refine hKE _ _ ⟨rfl,i+1,rfl,hlt,fun k hk1 hk2=>?_⟩ ?_
   ·by_cases e:k=i
    ·subst e;exact hg
    ·exact hk k hk1 (by omega)
   ·simp[intA,aI];omega
 ·have hge:i=l.length:=by simp at h;omega
  subst hge
  rw[find_none (fun k hk'=>hk k hk' hk')]
  exact⟨rfl,rfl⟩
theorem idx_any{α:Type}(g:α→Bool)(l:List α):decide (0≤idxOf (l.findIdx? g))=l.any g:=by
 cases h:l.findIdx? g with
 |none =>
  rw[List.findIdx?_eq_none_iff]at h
  have:l.any g=false:=by simpa[List.any_eq_false]using h
  rw[this];rfl
 |some i =>
  rw[List.findIdx?_eq_some_iff_getElem]at h
  obtain⟨hi,hg,_⟩:=h
  have:l.any g=true:=List.any_eq_true.2 ⟨_,List.getElem_mem hi,by simpa using hg⟩
  rw[this]
  simp[idxOf]
theorem at132{α:Type}{f:α→AV}{l:List α}(hl:l.length≤9223372036854775807){g:α→Bool}{fn:FuncId}{fs cs:List AV}{S:Store}
    (hf:∀ x,x∈l→AnsAt Pg fn (fs ++ [f x]++cs) S (aB (g x))):AnsAt Pg 132 [aL f l,.f (.func fn) fs cs] S (aB (l.any g)):=by
 refine calls132 ?_
 unfold m132
 refine callF_at (at166 hl hf) ?_
 unfold aI
 rw[bin_geq,idx_any]
 exact⟨rfl,rfl⟩
structure Sp where
 bits:Int
 valid:List Bool
 initial:List Bool
 next:List (List Int)
 fair:List (List Bool)
def Sp.cells(s:Sp):List AV:=[aI s.bits,aL aB s.valid,aL aB s.initial,aL (aL aI) s.next,aL (aL aB) s.fair]
def Sp.av(s:Sp):AV:=.a s.cells
def Sp.small(s:Sp):Prop:=s.valid.length<1048576∧s.next.length<1048576∧s.fair.length<1048576∧∀ x∈s.next,x.length<1048576
def fits(s:Sp)(l:List (List Bool)):Bool:=
 decide (s.next.length=s.valid.length) && s.fair.all (fun p=>decide (p.length=s.valid.length)) && l.all (fun p=>decide (p.length=s.valid.length)) && s.next.all (fun x=>x.all fun i=>decide (0≤i) && decide (i<s.valid.length))
theorem not_any{α:Type}(l:List α)(g h:α→Bool)(e:∀ x,g x = !h x):l.any g = !l.all h:=by
 induction l with
 |nil=>rfl
 |cons x l ih=>simp[e x,ih,Bool.not_and]
def keyOf(b:ByteArray):Key:=.s b.data.toList
theorem keyOf_inj{a b:ByteArray}(h:keyOf a=keyOf b):a=b:=by
 simp only[keyOf,Key.s.injEq]at h
 exact byteArray_ext (Array.toList_inj.1 h)
theorem ins_keys{es:List (Key × AV)}{x k:Key}{v:AV}:k∈(insM es x v).map (·.1)↔k∈es.map (·.1)∨k=x:=by
 induction es with
 |nil=>simp[insM]
 |cons e es ih =>
  simp only[insM]
  split
  ·rename_i h
   subst h
   simp only[List.map_cons,List.mem_cons]
   constructor
   ·rintro(h|h)
    ·exact .inr h
    ·exact .inl (.inr h)
   ·rintro((h|h)|h)
    ·exact .inl h
    ·exact .inr h
    ·exact .inl h
  ·simp only[List.map_cons,List.mem_cons,ih,or_assoc]
theorem ins_len_in{es:List (Key × AV)}{x:Key}{v:AV}(h:x∈es.map (·.1)):(insM es x v).length=es.length:=by
 induction es with
 |nil=>simp at h
 |cons e es ih =>
  simp only[insM]
  split
  ·rfl
  ·rename_i hne
   have:x∈es.map (·.1):=by
    rcases List.mem_cons.1 h with h|h
    ·exact absurd h.symm hne
    ·exact h
   simp[ih this]
structure Tells (es:List (Key × AV)) (l:List Key):Prop where
 mem:∀ k,k∈es.map (·.1)↔k∈l
 le:es.length≤l.length
 eq:es.length=l.length↔l.Nodup
theorem Tells.nil:Tells [] []:=⟨fun k=>by simp,Nat.le_refl _,by simp⟩
theorem Tells.add{es:List (Key × AV)}{l:List Key}(h:Tells es l)(x:Key)(v:AV):Tells (insM es x v) (l ++ [x]) where
 mem k:=by rw[ins_keys,h.mem,List.mem_append,List.mem_singleton]
 le:=by
  have:=h.le
  by_cases c:x∈es.map (·.1)
  ·rw[ins_len_in c];simp;omega
  ·rw[insM_none (kix_none.2 c)];simp;omega
 eq:=by
  have hle:=h.le
  rw[List.nodup_append]
  by_cases c:x∈es.map (·.1)
  ·rw[ins_len_in c]
   constructor
   ·intro e;simp at e;omega
   ·rintro⟨_,_,h3⟩
    exact absurd rfl (h3 x ((h.mem x).1 c) x (by simp))
  ·rw[insM_none (kix_none.2 c)]
   simp only[List.length_append,List.length_singleton,Nat.add_right_cancel_iff,h.eq]
   constructor
   ·intro e
    refine⟨e,by simp,fun a ha b hb=>?_⟩
    have:b=x:=by simpa using hb
    subst this
    rintro rfl
    exact c ((h.mem _).2 ha)
   ·exact fun e=>e.1
def nameOk(c:Ci)(x:Na):Prop:=wordB x.text=true∧0≤x.pos∧x.pos<c.many x.kind
def nameLt(y x:Na):Prop:=rankI y.kind<rankI x.kind∨rankI y.kind=rankI x.kind∧y.pos<x.pos
structure NamesR (c:Ci) (n:Nat):Prop where
 ok:∀ i (h:i<c.names.length),i<n→nameOk c c.names[i]
 lt:∀ i (h:i+1<c.names.length),i+1<n→nameLt c.names[i] c.names[i+1]
 nodup:((c.names.take n).map fun x=>keyOf x.text).Nodup
open Classical in
def namesB (c:Ci):Bool:=decide (NamesR c c.names.length)
theorem NamesR.zero(c:Ci):NamesR c 0:=⟨fun _ _ h=>by omega,fun _ _ h=>by omega,by simp⟩
theorem NamesR.no_ok{c:Ci}{i:Nat}(h:i<c.names.length)(hn:¬ nameOk c c.names[i]):namesB c=false:=by
 simp only[namesB,decide_eq_false_iff_not]
 exact fun h'=>hn (h'.ok i h h)
theorem NamesR.no_lt{c:Ci}{i:Nat}(h:i+1<c.names.length)(hn:¬ nameLt c.names[i] c.names[i+1]):namesB c=false:=by
 simp only[namesB,decide_eq_false_iff_not]
 exact fun h'=>hn (h'.lt i h h)
@[simp] theorem lenS_nL(l:List Na){S:Store}{K:AV→Store→Prop}:lenS (nL l) S K=K (aI l.length) S:=by simp[nL]
theorem ixS_nL{l:List Na}{e i:Nat}{S:Store}{K:AV→Store→Prop}(h:i<l.length):ixS e 3 (nL l) (aI i) S K=K (.q l[i].row 0) S:=by
 unfold nL
 rw[ixS_l (by simpa using h) (by simp[Na.row])]
 simp
theorem ldN_q3{u v z:AV}{S:Store}{K:AV→Store→Prop}:ldN 3 (.q [u,v,z] 0) S K=K (.a [u,v,z]) S:=by simp[ldN,rdN,place]
theorem keyS(b:ByteArray):keyA .s (.v (.string b))=some (keyOf b):=rfl
theorem lkM_mt{S:Store}{kk:KK}{z:AV}{c:Bool}{k:AV}{key:Key}{es:List (Key × AV)}{K:AV→Store→Prop}(hk:keyA kk k=some key):lkM kk z c (.mt kk es) k S K=K (lkV z c (lkp es key)) S:=by
 simp[lkM,entsA,hk]
theorem lkV_many(c:Ci)(k:Int):lkV (aI 0) false (lkp c.manyE (.i k))=aI (c.many k):=lkp_many c k
theorem wrap32{k:Int}(h0:0≤k)(h1:k<256):IntKind.i32.wrap k=k:=by rw[IntKind.wrap_i32];omega
theorem ans133{c:Ci}(hc:c.ok):Ans Pg 133 [c.av] (aB (namesB c)):=by
 intro S
 refine ACalls.ans_v (calls133 ?_)
 have hlen:=hc.nlen
 unfold m133
 refine boxA_of rfl fun S1 k1 n1 o1=>?_
 rw[ldN_p (n:=8) o1 rfl]
 refine callF_ans (ans127 c) ?_
 unfold mkM
 show shift _ _ _ _
 have k2:=k1.new (.map .s [] true)
 have p2:(S1.new (.map .s [] true)).obj S.n=_:=(new_lt (by omega)).trans o1
 rw[shift_p,ld1_p p2 rfl rfl,lenS_nL]
 refine loop133_0 (fun y S'=>Keep S S'∧S1.n<S'.n∧S'.obj S.n=some (.cells 42 [c.cells] true)∧∃ i:Nat,y=aI i∧i≤c.names.length∧
     (∀ j (h:j<c.names.length),j<i→nameOk c c.names[j])∧(∀ j (h:j+1<c.names.length),j+1<i→nameLt c.names[j] c.names[j+1])∧∃ es,S'.obj S1.n=some (.map .s es true)∧Tells es ((c.names.take i).map fun x=>keyOf x.text))
  (fun y _=>c.names.length - ((intA y).getD 0).toNat) ⟨k2,by simp,p2,0,rfl,Nat.zero_le _,fun j _ h=>by omega,fun j _ h=>by omega,[],new_self _,by simpa using Tells.nil⟩ ?_
 rintro _ S3 ⟨k3,n3,p3,i,rfl,hi,hok,hltn,es,m3,ht⟩ KE hKE
 unfold b133_0
 rw[bin_lss,onB_v]
 refine gd_of (fun hlt=>?_) (fun hge=>?_)
 ·have hlt:i<c.names.length:=by simpa using hlt
  have hx:=hc.names _ (List.getElem_mem hlt)
  rw[ixS_nL hlt]
  generalize hxe:c.names[i]=x at *
  have hno:=fun h=>NamesR.no_ok hlt (hxe ▸ h)
  unfold Na.row
  rw[ldN_q3]
  refine boxA_of rfl fun S4 k4 n4 o4=>?_
  refine stA_of o4 rfl rfl fun S5 n5 o5 f5=>?_
  have k5:Keep S S5:=(k3.trans k4).st (by have:=k3.1;omega) n5 f5
  have p5:S5.obj S.n=_:=(f5 _ (by omega)).trans ((k4.2 _ (by omega)).trans p3)
  have m5:S5.obj S1.n=_:=(f5 _ (by omega)).trans ((k4.2 _ (by omega)).trans m3)
  rw[shift_p,ld1_p o5 rfl rfl]
  refine callF_ans (ans167 x.text hx.2.2.2) ?_
  rw[un_not,onB_v]
  refine gd_of (fun h1=>⟨?_,k5⟩) (fun h1=>?_)
  ·rw[hno (fun h=>by rw[h.1]at h1;cases h1)]
  rw[shift_p,ld1_p o5 rfl rfl]
  refine callF_ans (ans168 x.kind hx.1 hx.2.1) ?_
  rw[bin_lss,onB_v]
  refine gd_of (fun h2=>⟨?_,k5⟩) (fun h2=>?_)
  ·rw[hno (fun h=>by have:=h.2;rw[many_no (of_decide_eq_true h2)]at this;omega)]
  rw[shift_p,ld1_p o5 rfl rfl,bin_lss,onB_v]
  refine gd_of (fun h3=>⟨?_,k5⟩) (fun h3=>?_)
  ·rw[hno (fun h=>by have:=h.2;have:=of_decide_eq_true h3;omega)]
  rw[shift_p,ld1_p o5 rfl rfl,shift_p,ld1_p o5 rfl rfl,convI_v,wrap32 hx.1 hx.2.1,lkM_mt (keyI _ _)]
  rw[lkV_many]
  rw[bin_geq,onB_v]
  refine gd_of (fun h4=>⟨?_,k5⟩) (fun h4=>?_)
  ·rw[hno (fun h=>by have:=h.2;have:=of_decide_eq_true h4;omega)]
  have hgood:nameOk c x:=⟨by simpa using h1,by have:=of_decide_eq_false h3;omega,by have:=of_decide_eq_false h4;omega⟩
  rw[shift_p,ld1_p o5 rfl rfl,bld_of (cs:=[]) rfl,updM_m m5 (keyS _)]
  have k6:=k5.upd (id:=S1.n) (by omega) (.map .s (insM es (keyOf x.text) (.a [])) true)
  have p6:(Store.upd S5 S1.n (.map .s (insM es (keyOf x.text) (.a [])) true)).obj S.n=_:=(upd_ne (by omega)).trans p5
  have o6:(Store.upd S5 S1.n (.map .s (insM es (keyOf x.text) (.a [])) true)).obj S3.n=_:=(upd_ne (by omega)).trans o5
  have m6:(Store.upd S5 S1.n (.map .s (insM es (keyOf x.text) (.a [])) true)).obj S1.n=_:=upd_self _ _
  have n6:S4.n=(Store.upd S5 S1.n (.map .s (insM es (keyOf x.text) (.a [])) true)).n:=n5.symm
  have n6':S3.n+1=(Store.upd S5 S1.n (.map .s (insM es (keyOf x.text) (.a [])) true)).n:=by rw[←n6,n4]
  generalize Store.upd S5 S1.n (.map .s (insM es (keyOf x.text) (.a [])) true)=S6 at *
  have ht':Tells (insM es (keyOf x.text) (.a [])) ((c.names.take (i+1)).map fun x=>keyOf x.text):=by
   rw[List.take_add_one,List.getElem?_eq_getElem hlt,hxe,List.map_append]
   exact ht.add _ _
  have hok':∀ j (h:j<c.names.length),j<i+1→nameOk c c.names[j]:=fun j hj hj'=>by
   rcases Nat.lt_or_ge j i with h|h
   ·exact hok j hj h
   ·have:j=i:=by omega
    subst this
    rw[hxe];exact hgood
  have hadd:∀ K:AV→Store→Prop,∀ S,bin .add 0 (.v (.int .i64 (i:Int))) (.v (.int .i64 1)) S K=K (aI (i+1:Nat)) S:=fun K S=>bin_add (by omega) (by omega) 0
  have hμ:c.names.length - ((intA (aI (i+1:Nat))).getD 0).toNat<c.names.length - ((intA (aI i)).getD 0).toNat:=by simp[intA];omega
  rw[bin_eql,onB_v]
  refine gd_of (fun h5=>?_) (fun h5=>?_)
  ·have h5:i=0:=by have:=of_decide_eq_true h5;omega
   rw[hadd]
   exact hKE _ _ ⟨k6,by omega,p6,i+1,rfl,hlt,hok',fun j hj hj'=>by omega,_,m6,ht'⟩ hμ
  ·have h5:i≠0:=by have:=of_decide_eq_false h5;omega
   obtain⟨j,rfl⟩:∃ j,i=j+1:=⟨i - 1,by omega⟩
   have hj:j<c.names.length:=by omega
   have hy:=hc.names _ (List.getElem_mem hj)
   have hsub:∀ K:AV→Store→Prop,∀ S,bin .sub 0 (.v (.int .i64 ((j+1:Nat):Int))) (.v (.int .i64 1)) S K=K (aI j) S:=fun K S=>(bin_sub (by omega) (by omega) 0).trans (by rw[show((j+1:Nat):Int) - 1=j by omega])
   rw[shift_p,ld1_p p6 rfl rfl,hsub,ixS_nL hj]
   have hnl:¬ nameLt c.names[j] x→namesB c=false:=fun h=>NamesR.no_lt hlt (by rw[hxe];exact h)
   generalize hye:c.names[j]=y at *
   unfold Na.row
   rw[ldN_q3]
   refine boxA_of rfl fun S7 k7 n7 o7=>?_
   refine stA_of o7 rfl rfl fun S8 n8 o8 f8=>?_
   have k8:Keep S S8:=(k6.trans k7).st (by have:=k6.1;omega) n8 f8
   have p8:S8.obj S.n=_:=(f8 _ (by omega)).trans ((k7.2 _ (by omega)).trans p6)
   have m8:S8.obj S1.n=_:=(f8 _ (by omega)).trans ((k7.2 _ (by omega)).trans m6)
   have q8:S8.obj S3.n=_:=(f8 _ (by omega)).trans ((k7.2 _ (by omega)).trans o6)
   show ∃ q50:AV,_
   refine⟨_,by rw[shift_p];exact⟨rfl,rfl⟩,?_⟩
   refine⟨_,by rw[ld1_p o8 rfl rfl];exact⟨rfl,rfl⟩,?_⟩
   refine⟨_,callF_ans (ans168 y.kind hy.1 hy.2.1) ⟨rfl,rfl⟩,?_⟩
   refine⟨_,by rw[shift_p];exact⟨rfl,rfl⟩,?_⟩
   refine⟨_,by rw[ld1_p q8 rfl rfl];exact⟨rfl,rfl⟩,?_⟩
   refine⟨_,callF_ans (ans168 x.kind hx.1 hx.2.1) ⟨rfl,rfl⟩,?_⟩
   refine⟨_,callF_ans (ans170 _ _) ⟨rfl,rfl⟩,?_⟩
   refine⟨_,by rw[shift_p];exact⟨rfl,rfl⟩,?_⟩
   refine⟨_,by rw[ld1_p o8 rfl rfl];exact⟨rfl,rfl⟩,?_⟩
   refine⟨_,by rw[shift_p];exact⟨rfl,rfl⟩,?_⟩
   refine⟨_,by rw[ld1_p q8 rfl rfl];exact⟨rfl,rfl⟩,?_⟩
   refine⟨_,callF_ans (ans170 _ _) ⟨rfl,rfl⟩,?_⟩
   refine⟨_,bsl2 rfl rfl ⟨rfl,rfl⟩,?_⟩
   refine⟨_,callF_ans (ans169 _ _) ⟨rfl,rfl⟩,?_⟩
   refine⟨_,by rw[bin_geq];exact⟨rfl,rfl⟩,?_⟩
   rw[onB_v]
   have hcmp:(0≤if cmpZ (rankI y.kind) (rankI x.kind)≠0 then cmpZ (rankI y.kind) (rankI x.kind)else cmpZ y.pos x.pos)↔¬ nameLt y x:=by
    unfold cmpZ nameLt
    repeat' split
    all_goals omega
   refine gd_of (fun h6=>⟨?_,k8⟩) (fun h6=>?_)
   ·rw[hnl (hcmp.1 (of_decide_eq_true h6))]
   ·rw[hadd]
    refine hKE _ _ ⟨k8,by omega,p8,j+1+1,rfl,hlt,hok',fun k hk hk'=>?_,_,m8,ht'⟩ hμ
    rcases Nat.lt_or_ge (k+1) (j+1)with h|h
    ·exact hltn k hk h
    ·have:k=j:=by omega
     subst this
     rw[hxe,hye]
     have:=of_decide_eq_false h6
     exact Classical.not_not.1 fun hh=>this (hcmp.2 hh)
 ·have hge:i=c.names.length:=by simp at hge;omega
  subst hge
  rw[lenM_m m3,shift_p,ld1_p p3 rfl rfl,lenS_nL,bin_eql]
  refine⟨?_,k3⟩
  congr 3
  simp only[namesB,decide_eq_decide]
  have:=ht.eq
  rw[List.length_map,List.length_take,Nat.min_self]at this
  rw[Int.natCast_inj,this]
  exact⟨fun h=>⟨hok,hltn,h⟩,fun h=>h.nodup⟩
theorem ans114{c:Ci}(hc:c.ok):Ans Pg 114 [c.av] (aB (namesB c)):=by
 intro S
 refine ACalls.ans_v (calls114 ?_)
 have hlen:=hc.nlen
 unfold m114
 refine boxA_of rfl fun S1 k1 n1 o1=>?_
 refine loop114_0 (fun y S'=>Keep S S'∧S.n<S'.n∧S'.obj S.n=some (.cells 42 [c.cells] true)∧∃ i:Nat,y=aI i∧i≤c.names.length∧NamesR c i)
  (fun y _=>c.names.length - ((intA y).getD 0).toNat) ⟨k1,by omega,o1,0,rfl,Nat.zero_le _,NamesR.zero c⟩ ?_
 rintro _ S3 ⟨k3,n3,p3,i,rfl,hi,hR⟩ KE hKE
 unfold b114_0
 rw[shift_p,ld1_p p3 rfl rfl,lenS_nL,bin_lss,onB_v]
 refine gd_of (fun hlt=>?_) (fun hge=>?_)
 ·have hlt:i<c.names.length:=by simpa using hlt
  have hx:=hc.names _ (List.getElem_mem hlt)
  rw[shift_p,ld1_p p3 rfl rfl,ixS_nL hlt]
  generalize hxe:c.names[i]=x at *
  have hno:=fun h=>NamesR.no_ok hlt (hxe ▸ h)
  have hrow:x.row = [.v (.int .u8 x.kind),aI x.pos,.v (.string x.text)]:=rfl
  rw[hrow,ldN_q3]
  refine boxA_of rfl fun S4 k4 n4 o4=>?_
  refine stA_of o4 rfl rfl fun S5 n5 o5 f5=>?_
  have k5:Keep S S5:=(k3.trans k4).st (by have:=k3.1;omega) n5 f5
  have p5:S5.obj S.n=_:=(f5 _ (by omega)).trans ((k4.2 _ (by omega)).trans p3)
  show ∃ q13:AV,_
  refine⟨_,by rw[shift_p];exact⟨rfl,rfl⟩,?_⟩
  refine⟨_,by rw[ld1_p o5 rfl rfl];exact⟨rfl,rfl⟩,?_⟩
  refine⟨_,callF_ans (ans149 x.text hx.2.2.2) ⟨rfl,rfl⟩,?_⟩
  refine⟨_,by rw[un_not];exact⟨rfl,rfl⟩,?_⟩
  rw[onB_v]
  refine gd_of (fun h1=>?_) (fun h1=>?_)
  ·refine⟨_,⟨rfl,rfl⟩,?_⟩
   rw[onB_v,gd_true]
   refine⟨_,⟨rfl,rfl⟩,?_⟩
   rw[onB_v,gd_true]
   exact⟨by rw[hno (fun h=>by rw[h.1]at h1;cases h1)],k5⟩
  refine⟨_,by rw[shift_p];exact⟨rfl,rfl⟩,?_⟩
  refine⟨_,by rw[ld1_p o5 rfl rfl];exact⟨rfl,rfl⟩,?_⟩
  refine⟨_,by rw[bin_lss];exact⟨rfl,rfl⟩,?_⟩
  refine⟨_,⟨rfl,rfl⟩,?_⟩
  rw[onB_v]
  refine gd_of (fun h3=>?_) (fun h3=>?_)
  ·refine⟨_,⟨rfl,rfl⟩,?_⟩
   rw[onB_v,gd_true]
   exact⟨by rw[hno (fun h=>by have:=h.2;have:=of_decide_eq_true h3;omega)],k5⟩
  refine⟨_,by rw[shift_p];exact⟨rfl,rfl⟩,?_⟩
  refine⟨_,by rw[ld1_p o5 rfl rfl];exact⟨rfl,rfl⟩,?_⟩
  refine⟨_,by rw[ldN_p (n:=8) p5 rfl];exact⟨rfl,rfl⟩,?_⟩
  refine⟨_,by rw[shift_p];exact⟨rfl,rfl⟩,?_⟩
  refine⟨_,by rw[ld1_p o5 rfl rfl];exact⟨rfl,rfl⟩,?_⟩
  refine⟨_,callF_ans (ans150 c x.kind) ⟨rfl,rfl⟩,?_⟩
  refine⟨_,by rw[bin_geq];exact⟨rfl,rfl⟩,?_⟩
  refine⟨_,⟨rfl,rfl⟩,?_⟩
  rw[onB_v]
  refine gd_of (fun h4=>⟨?_,k5⟩) (fun h4=>?_)
  ·rw[hno (fun h=>by have:=h.2;have:=of_decide_eq_true h4;omega)]
  have hgood:nameOk c x:=⟨by simpa using h1,by have:=of_decide_eq_false h3;omega,by have:=of_decide_eq_false h4;omega⟩
  have hok':∀ j (h:j<c.names.length),j<i+1→nameOk c c.names[j]:=fun j hj hj'=>by
   rcases Nat.lt_or_ge j i with h|h
   ·exact hR.ok j hj h
   ·have:j=i:=by omega
    subst this
    rw[hxe];exact hgood
  refine loop114_1 (fun y S'=>S'=S5∧∃ k:Nat,y=aI k∧k≤i∧∀ j (hj:j<k) (hk:k≤i),(c.names[j]'(by omega)).text≠x.text)
   (fun y _=>i - ((intA y).getD 0).toNat) ⟨rfl,0,rfl,Nat.zero_le _,fun j hj=>(Nat.not_lt_zero _ hj).elim⟩ ?_
  rintro _ S5 ⟨rfl,k,rfl,hk,hne⟩ KE1 hKE1
  unfold b114_1
  rw[bin_lss,onB_v]
  refine gd_of (fun hlk=>?_) (fun hgk=>?_)
  ·have hlk:k<i:=by simpa using hlk
   have hkl:k<c.names.length:=by omega
   show ∃ q70:AV,_
   refine⟨_,by rw[shift_p];exact⟨rfl,rfl⟩,?_⟩
   refine⟨_,by rw[ld1_p p5 rfl rfl];exact⟨rfl,rfl⟩,?_⟩
   refine⟨_,by rw[ixS_nL hkl];exact⟨rfl,rfl⟩,?_⟩
   refine⟨_,by rw[shift_q];exact⟨rfl,rfl⟩,?_⟩
   refine⟨_,by rw[ld1_qj (u:=.v (.string c.names[k].text)) rfl];exact⟨rfl,rfl⟩,?_⟩
   refine⟨_,by rw[shift_p];exact⟨rfl,rfl⟩,?_⟩
   refine⟨_,by rw[ld1_p o5 rfl rfl];exact⟨rfl,rfl⟩,?_⟩
   refine⟨_,by rw[bin_eqlS];exact⟨rfl,rfl⟩,?_⟩
   rw[onB_v]
   refine gd_of (fun h6=>⟨?_,k5⟩) (fun h6=>?_)
   ·have h6:c.names[k].text=x.text:=of_decide_eq_true h6
    have:namesB c=false:=by
     simp only[namesB,decide_eq_false_iff_not]
     intro h'
     have hnd:=h'.nodup
     rw[List.take_length]at hnd
     have:=List.pairwise_iff_getElem.1 hnd k i (by simpa using hkl) (by simpa using hlt) hlk
     simp only[List.getElem_map,hxe,h6]at this
     exact this rfl
    rw[this]
   ·have hadd:∀ K:AV→Store→Prop,∀ S,bin .add 0 (.v (.int .i64 (k:Int))) (.v (.int .i64 1)) S K=K (aI (k+1:Nat)) S:=fun K S=>bin_add (by omega) (by omega) 0
    rw[hadd]
    refine hKE1 _ _ ⟨rfl,k+1,rfl,hlk,fun j hj _=>?_⟩ (by simp[intA];omega)
    rcases Nat.lt_or_ge j k with hj'|hj'
    ·exact hne j hj' (by omega)
    ·have:j=k:=by omega
     subst this
     exact of_decide_eq_false h6
  ·have hge:k=i:=by simp at hgk;omega
   subst hge
   have hnd':((c.names.take (k+1)).map fun x=>keyOf x.text).Nodup:=by
    have h:=hR.nodup
    rw[List.take_add_one,List.getElem?_eq_getElem hlt,List.map_append,List.nodup_append]
    refine⟨h,by simp,fun a ha b hb=>?_⟩
    rw[List.mem_map]at ha hb
    obtain⟨y,hy,rfl⟩:=ha
    obtain⟨z,hz,rfl⟩:=hb
    have:z=x:=by simpa[hxe]using hz
    subst this
    rw[List.mem_take_iff_getElem]at hy
    obtain⟨j,hj,rfl⟩:=hy
    exact fun e=>hne j (by omega) (Nat.le_refl _) (keyOf_inj e)
   have hadd:∀ K:AV→Store→Prop,∀ S,bin .add 0 (.v (.int .i64 (k:Int))) (.v (.int .i64 1)) S K=K (aI (k+1:Nat)) S:=fun K S=>bin_add (by omega) (by omega) 0
   have hμ:c.names.length - ((intA (aI (k+1:Nat))).getD 0).toNat<c.names.length - ((intA (aI k)).getD 0).toNat:=by simp[intA];omega
   have next:(∀ j (h:j+1<c.names.length),j+1=k→nameLt c.names[j] x)→KE _ (env114_0 (.p S.n 0 0) (aI (k+1:Nat))) S5:=fun hl=>hKE _ _ ⟨k5,by omega,p5,k+1,rfl,hlt,hok',fun j hj hj'=>by
    rcases Nat.lt_or_ge (j+1) k with h|h
    ·exact hR.lt j hj h
    ·have e:j+1=k:=by omega
     have:=hl j hj e
     subst e
     rw[hxe];exact this,hnd'⟩ hμ
   rw[bin_gtr,onB_v]
   refine gd_of (fun h7=>?_) (fun h7=>?_)
   ·obtain⟨j,rfl⟩:∃ j,k=j+1:=⟨k - 1,by have:=of_decide_eq_true h7;omega⟩
    have hj:j<c.names.length:=by omega
    have hnl:¬ nameLt c.names[j] x→namesB c=false:=fun h=>NamesR.no_lt hlt (by rw[hxe];exact h)
    have next:=fun(h:nameLt c.names[j] x)=>next (fun j' hj' e=>by
     have:j'=j:=by omega
     subst this
     exact h)
    have hsub:∀ K:AV→Store→Prop,∀ S,bin .sub 0 (.v (.int .i64 ((j+1:Nat):Int))) (.v (.int .i64 1)) S K=K (aI j) S:=fun K S=>(bin_sub (by omega) (by omega) 0).trans (by rw[show((j+1:Nat):Int) - 1=j by omega])
    have hix:∀ K:AV→Store→Prop,ixS 130 3 (nL c.names) (aI j) S5 K=K (.q c.names[j].row 0) S5:=fun K=>ixS_nL hj
    generalize hye:c.names[j]=y at *
    have hrow':y.row = [.v (.int .u8 y.kind),aI y.pos,.v (.string y.text)]:=rfl
    show ∃ q90:AV,_
    refine⟨_,by rw[shift_p];exact⟨rfl,rfl⟩,?_⟩
    refine⟨_,by rw[ld1_p p5 rfl rfl];exact⟨rfl,rfl⟩,?_⟩
    refine⟨_,by rw[hsub];exact⟨rfl,rfl⟩,?_⟩
    refine⟨_,by rw[hix];exact⟨rfl,rfl⟩,?_⟩
    refine⟨_,by rw[shift_q];exact⟨rfl,rfl⟩,?_⟩
    refine⟨_,by rw[ld1_qj (u:=.v (.int .u8 y.kind)) rfl];exact⟨rfl,rfl⟩,?_⟩
    refine⟨_,callF_ans (ans151 y.kind) ⟨rfl,rfl⟩,?_⟩
    refine⟨_,by rw[shift_p];exact⟨rfl,rfl⟩,?_⟩
    refine⟨_,by rw[ld1_p o5 rfl rfl];exact⟨rfl,rfl⟩,?_⟩
    refine⟨_,callF_ans (ans151 x.kind) ⟨rfl,rfl⟩,?_⟩
    show ∃ q110:AV,_
    refine⟨_,by rw[bin_gtr];exact⟨rfl,rfl⟩,?_⟩
    rw[onB_v]
    refine gd_of (fun h8=>?_) (fun h8=>?_)
    ·refine⟨_,⟨rfl,rfl⟩,?_⟩
     rw[onB_v,gd_true]
     refine⟨?_,k5⟩
     have h8:=of_decide_eq_true h8
     rw[hnl (by unfold nameLt;omega)]
    have h8:=of_decide_eq_false h8
    refine⟨_,by rw[bin_eql];exact⟨rfl,rfl⟩,?_⟩
    rw[onB_v]
    refine gd_of (fun h9=>?_) (fun h9=>?_)
    ·have h9:rankI y.kind=rankI x.kind:=of_decide_eq_true h9
     refine⟨_,by rw[shift_p];exact⟨rfl,rfl⟩,?_⟩
     refine⟨_,by rw[ld1_p p5 rfl rfl];exact⟨rfl,rfl⟩,?_⟩
     refine⟨_,by rw[hsub];exact⟨rfl,rfl⟩,?_⟩
     refine⟨_,by rw[hix];exact⟨rfl,rfl⟩,?_⟩
     refine⟨_,by rw[shift_q];exact⟨rfl,rfl⟩,?_⟩
     refine⟨_,by rw[ld1_qj (u:=aI y.pos) rfl];exact⟨rfl,rfl⟩,?_⟩
     refine⟨_,by rw[shift_p];exact⟨rfl,rfl⟩,?_⟩
     refine⟨_,by rw[ld1_p o5 rfl rfl];exact⟨rfl,rfl⟩,?_⟩
     refine⟨_,by rw[bin_geq];exact⟨rfl,rfl⟩,?_⟩
     refine⟨_,⟨rfl,rfl⟩,?_⟩
     refine⟨_,⟨rfl,rfl⟩,?_⟩
     rw[onB_v]
     refine gd_of (fun h10=>⟨?_,k5⟩) (fun h10=>?_)
     ·have h10:=of_decide_eq_true h10
      rw[hnl (by unfold nameLt;omega)]
     ·have h10:=of_decide_eq_false h10
      rw[hadd]
      exact next (by unfold nameLt;omega)
    ·have h9:¬ rankI y.kind=rankI x.kind:=of_decide_eq_false h9
     refine⟨_,⟨rfl,rfl⟩,?_⟩
     refine⟨_,⟨rfl,rfl⟩,?_⟩
     rw[onB_v,gd_false,hadd]
     exact next (by unfold nameLt;omega)
   ·rw[hadd]
    exact next (fun j hj e=>by have:=of_decide_eq_false h7;omega)
 ·have hge:i=c.names.length:=by simp at hge;omega
  subst hge
  refine⟨?_,k3⟩
  have:namesB c=true:=by simp only[namesB,decide_eq_true_eq];exact hR
  rw[this]
theorem ans113{g:Gr}{l:List Int}(hg:g.ok)(hl:∀ x∈l,i64R x)(hn:l.length≤9223372036854775807):Ans Pg 113 [g.av,aL aI l] (aB (l.all g.lit && decide (l.length≤2000))):=by
 intro S
 refine ACalls.ans_v (calls113 ?_)
 unfold m113
 refine boxA_of rfl fun S1 k1 n1 o1=>?_
 refine loop113_0 (fun y S'=>S'=S1∧∃ i:Nat,y=aI i∧i≤l.length∧∀ j (h:j<l.length),j<i→g.lit l[j]=true)
  (fun y _=>l.length - ((intA y).getD 0).toNat) ⟨rfl,0,rfl,Nat.zero_le _,fun j _ hj=>(Nat.not_lt_zero _ hj).elim⟩ ?_
 rintro _ S1 ⟨rfl,i,rfl,hi,hok⟩ KE hKE
 unfold b113_0
 rw[lenS_aL,bin_lss,onB_v]
 refine gd_of (fun hlt=>?_) (fun hge=>?_)
 ·have hlt:i<l.length:=by simpa using hlt
  have hm:=List.getElem_mem hlt
  show ∃ q5:AV,_
  refine⟨_,by rw[ldN_p (n:=2) o1 rfl];exact⟨rfl,rfl⟩,?_⟩
  refine⟨_,by rw[ixS_aL hlt];exact⟨rfl,rfl⟩,?_⟩
  refine⟨_,by rw[ld1_q];exact⟨rfl,rfl⟩,?_⟩
  refine⟨_,callF_ans (ans112 hg (hl _ hm)) ⟨rfl,rfl⟩,?_⟩
  refine⟨_,by rw[un_not];exact⟨rfl,rfl⟩,?_⟩
  rw[onB_v]
  refine gd_of (fun h=>⟨?_,k1⟩) (fun h=>?_)
  ·have:l.all g.lit=false:=by
     rw[List.all_eq_false]
     exact⟨_,hm,by simpa using h⟩
   rw[this];rfl
  ·have hadd:∀ K:AV→Store→Prop,∀ S,bin .add 0 (.v (.int .i64 (i:Int))) (.v (.int .i64 1)) S K=K (aI (i+1:Nat)) S:=fun K S=>bin_add (by omega) (by omega) 0
   rw[hadd]
   refine hKE _ _ ⟨rfl,i+1,rfl,hlt,fun j hj hj'=>?_⟩ (by simp[intA];omega)
   rcases Nat.lt_or_ge j i with h'|h'
   ·exact hok j hj h'
   ·have:j=i:=by omega
    subst this
    simpa using h
 ·have hge:i=l.length:=by simp at hge;omega
  subst hge
  rw[lenS_aL,bin_leq]
  refine⟨?_,k1⟩
  have:l.all g.lit=true:=by
   rw[List.all_eq_true]
   intro x hx
   obtain⟨j,hj,rfl⟩:=List.getElem_of_mem hx
   exact hok j hj hj
  rw[this,Bool.true_and,show decide ((l.length:Int)≤2000)=decide (l.length≤2000)from decide_eq_decide.2 (by omega)]
def latOk(g:Gr)(p:Int × Int):Bool:=g.lit p.1 && (decide (0≤p.2) && decide (p.2≤2))
def Ci.manyL(c:Ci):List Int:=[c.inputs,c.latches.length,c.outs.length,c.bads.length,c.cons.length,c.fair.length]
def Ci.right (c:Ci):Bool:=
 c.manyL.all (fun n=>decide (0≤n) && decide (n≤2000)) && (c.gr.right && (c.latches.all (latOk c.gr) && (c.outs.all c.gr.lit && (c.bads.all c.gr.lit && (c.cons.all c.gr.lit && (c.fair.all c.gr.lit && namesB c))))))
theorem at128{S:Store}{g:Gr}{id:Nat}{l:Int}(hg:g.ok)(hl:i64R l)(h:S.obj id=some (.cells 82 [g.cells] true)):AnsAt Pg 128 [aI l,.p id 0 0] S (aB (!g.lit l)):=by
 refine calls128 ?_
 unfold m128
 rw[ldN_p (n:=2) h rfl]
 refine callF_ans (ans88 hg hl) ?_
 rw[un_not]
 exact⟨rfl,rfl⟩
theorem at129{S:Store}{g:Gr}{id fid t:Nat}{p:Int × Int}(hg:g.ok)(hl:i64R p.1)(hid:id<S.n)(hf:fid<S.n)(h:S.obj id=some (.cells 82 [g.cells] true))
    (h2:S.obj fid=some (.cells t [[.f (.func 128) [] [.p id 0 0]]] true)):AnsAt Pg 129 [.a [aI p.1,aI p.2],.p fid 0 0] S (aB (!latOk g p)):=by
 refine ACalls.ans_v (calls129 ?_)
 unfold m129
 refine boxA_of rfl fun S1 k1 n1 o1=>?_
 have h':=(k1.2 _ hid).trans h
 have h2':=(k1.2 _ hf).trans h2
 rw[ld1_p h2' rfl rfl,shift_p,ld1_p o1 rfl rfl]
 refine callV_at (at128 hg hl h') ?_
 rw[onB_v]
 refine gd_of (fun h3=>⟨?_,k1⟩) (fun h3=>?_)
 ·rw[Bool.not_eq_true']at h3
  simp[latOk,h3]
 have h3:g.lit p.1=true:=by simpa using h3
 rw[shift_p,ld1_p o1 rfl rfl,bin_lss,onB_v]
 refine gd_of (fun h4=>⟨?_,k1⟩) (fun h4=>?_)
 ·have h4:=of_decide_eq_true h4
  simp[latOk,show ¬ 0≤p.2 by omega]
 rw[shift_p,ld1_p o1 rfl rfl,bin_gtr]
 refine⟨?_,k1⟩
 have h4:=of_decide_eq_false h4
 simp only[latOk,h3,Bool.true_and,show 0≤p.2 by omega,decide_true]
 congr 4
 rw[←decide_not]
 exact decide_eq_decide.2 (by omega)
theorem at165{l:List (Int × Int)}(hl:l.length≤9223372036854775807){g:Int × Int→Bool}{fn:FuncId}{fs cs:List AV}{S:Store}
    (hf:∀ x,x∈l→AnsAt Pg fn (fs ++ [.a [aI x.1,aI x.2]]++cs) S (aB (g x))):AnsAt Pg 165 [pL l,.f (.func fn) fs cs] S (aI (idxOf (l.findIdx? g))):=by
 refine calls165 ?_
 unfold m165
 rw[lenS_pL]
 refine loop165_0 (fun y S'=>S'=S∧∃ i:Nat,y=aI i∧i≤l.length∧∀ k (hk:k<l.length),k<i→g l[k]=false) (fun y _=>l.length - ((intA y).getD 0).toNat) ⟨rfl,0,rfl,Nat.zero_le _,fun k _ h=>absurd h (Nat.not_lt_zero _)⟩ ?_
 rintro _ _ ⟨rfl,i,rfl,hi,hk⟩ KE hKE
 unfold b165_0
 rw[bin_lss,onB_v]
 refine gd_of (fun h=>?_) (fun h=>?_)
 ·have hlt:i<l.length:=by simpa using h
  rw[ixS_pL hlt,ldN_q2]
  refine callV_at (hf _ (List.getElem_mem hlt)) ?_
  rw[onB_v]
  refine gd_of (fun hg=>⟨?_,rfl⟩) (fun hg=>?_)
  ·rw[find_at hlt hg (fun k hk'=>hk k _ hk')];rfl
  ·rw[bin_add (by omega) (by omega)]
   refine hKE _ _ ⟨rfl,i+1,rfl,hlt,fun k hk1 hk2=>?_⟩ ?_
   ·by_cases e:k=i
    ·subst e;exact hg
    ·exact hk k hk1 (by omega)
   ·simp[intA,aI];omega
 ·have hge:i=l.length:=by simp at h;omega
  subst hge
  rw[find_none (fun k hk'=>hk k hk' hk')]
  exact⟨rfl,rfl⟩
theorem at131{l:List (Int × Int)}(hl:l.length≤9223372036854775807){g:Int × Int→Bool}{fn:FuncId}{fs cs:List AV}{S:Store}
    (hf:∀ x,x∈l→AnsAt Pg fn (fs ++ [.a [aI x.1,aI x.2]]++cs) S (aB (g x))):AnsAt Pg 131 [pL l,.f (.func fn) fs cs] S (aB (l.any g)):=by
 refine calls131 ?_
 unfold m131
 refine callF_at (at165 hl hf) ?_
 unfold aI
 rw[bin_geq,idx_any]
 exact⟨rfl,rfl⟩
theorem manyE_at{c:Ci}{i:Nat}{e:Key × AV}(h:c.manyE[i]? = some e):∃ h':i<6,e.2=aI (c.manyL[i]'h'):=by
 match i with
 |0|1|2|3|4|5=>cases h;exact⟨by decide,rfl⟩
 |i+6=>simp[Ci.manyE]at h
theorem any_not{l:List Int}{g:Int→Bool}:l.any (fun x=>!g x) = !l.all g:=by
 induction l with
 |nil=>rfl
 |cons a l ih=>simp[ih]
theorem any_notP{l:List (Int × Int)}{g:Int × Int→Bool}:l.any (fun x=>!g x) = !l.all g:=by
 induction l with
 |nil=>rfl
 |cons a l ih=>simp[ih]
theorem nodup_lt6:∀{n:Nat} {l:List Nat},l.Nodup→(∀ x∈l,x<n)→l.length≤n
 |0,l,_,h=>by
  cases l with
  |nil=>simp
  |cons x l=>exact absurd (h x (by simp)) (Nat.not_lt_zero _)
 |n+1,l,hd,h=>by
  have h1:=nodup_lt6 (n:=n) (l:=l.erase n) (hd.erase n) (fun x hx=>by
   have:=(hd.mem_erase_iff).1 hx
   have:=h x this.2
   omega)
  by_cases hm:n∈l
  ·have:=List.length_erase_of_mem hm
   omega
  ·rw[List.erase_of_not_mem hm]at h1
   omega
theorem ans85{c:Ci}(hc:c.ok):Ans Pg 85 [c.av] (aB c.right):=by
 intro S
 refine ACalls.ans_v (calls85 ?_)
 have hg:=hc.gr
 unfold m85
 refine boxA_of rfl fun S1 k1 n1 o1=>?_
 rw[ldN_p (n:=8) o1 rfl]
 refine callF_ans (ans84 c) ?_
 refine boxA_of rfl fun S2 k2 n2 o2=>?_
 refine stA_of o2 rfl rfl fun S3 n3 o3 f3=>?_
 have k3:Keep S S3:=(k1.trans k2).st (by omega) n3 f3
 have p3:S3.obj S.n=_:=(f3 _ (by omega)).trans ((k2.2 _ (by omega)).trans o1)
 rw[ldN_p (n:=8) p3 rfl]
 refine callF_ans (ans127 c) ?_
 show loopV _ _ _ _ _ _
 have hmany:∀(i:Nat) (h:i<6),¬ (0≤c.manyL[i]'h∧c.manyL[i]'h≤2000)→c.right=false:=fun i h hn=>by
  have:c.manyL.all (fun n=>decide (0≤n) && decide (n≤2000))=false:=by
   rw[List.all_eq_false]
   exact⟨_,List.getElem_mem (l:=c.manyL) h,by simpa using hn⟩
  simp only[Ci.right,this,Bool.false_and]
 refine loop85_0 (fun S'=>Keep S S'∧S3.n<S'.n∧S'.obj S.n=some (.cells 42 [c.cells] true)∧S'.obj S1.n=some (.cells 82 [c.gr.cells] true)∧
     ∃ seen,S'.obj S3.n=some (.mit (.mt (.i .i32) c.manyE) 6 seen)∧seen.Nodup∧(∀ i∈seen,∃ h:i<6,0≤c.manyL[i]'h∧c.manyL[i]'h≤2000))
  (fun S'=>match S'.obj S3.n with|some (.mit _ _ seen)=>6 - seen.length|_=>0)
  ⟨k3.new _,by simp,(new_lt (by omega)).trans p3,(new_lt (by omega)).trans o3,[],new_self _,by simp,fun i h=>by simp at h⟩ ?_
 rintro S4 ⟨k4,n4,p4,g4,seen,m4,hnd,hse⟩ KE hKE
 unfold b85_0 nextM
 simp only[m4,mapKK,optP_some]
 refine⟨rfl,fun i e he hi=>?_,fun hall=>?_⟩
 ·obtain⟨hi6,hev⟩:=manyE_at he
  have k5:Keep S (Store.upd S4 S3.n (.mit (.mt (.i .i32) c.manyE) 6 (seen ++ [i]))):=k4.upd (by have:=k3.1;omega) _
  have m5:(Store.upd S4 S3.n (.mit (.mt (.i .i32) c.manyE) 6 (seen ++ [i]))).obj S3.n=_:=upd_self _ _
  have p5:(Store.upd S4 S3.n (.mit (.mt (.i .i32) c.manyE) 6 (seen ++ [i]))).obj S.n=_:=(upd_ne (by omega)).trans p4
  have g5:(Store.upd S4 S3.n (.mit (.mt (.i .i32) c.manyE) 6 (seen ++ [i]))).obj S1.n=_:=(upd_ne (by omega)).trans g4
  have n5:(Store.upd S4 S3.n (.mit (.mt (.i .i32) c.manyE) 6 (seen ++ [i]))).n=S4.n:=rfl
  generalize Store.upd S4 S3.n (.mit (.mt (.i .i32) c.manyE) 6 (seen ++ [i]))=S5 at *
  rw[extr0,onB_v,gd_true]
  unfold entryM
  simp only[m5,mapKK,optP_some]
  refine⟨rfl,i,by simp,e,he,?_⟩
  show extr _ _ _ _
  rw[extr1,hev,bin_lss,onB_v]
  refine gd_of (fun h1=>⟨?_,k5⟩) (fun h1=>?_)
  ·rw[hmany i hi6 (fun h=>by have:=of_decide_eq_true h1;omega)]
  rw[bin_gtr,onB_v]
  refine gd_of (fun h2=>⟨?_,k5⟩) (fun h2=>?_)
  ·rw[hmany i hi6 (fun h=>by have:=of_decide_eq_true h2;omega)]
  have h1:=of_decide_eq_false h1
  have h2:=of_decide_eq_false h2
  have hnd':(seen ++ [i]).Nodup:=by
   rw[List.nodup_append]
   refine⟨hnd,by simp,fun a ha b hb=>?_⟩
   have:b=i:=by simpa using hb
   subst this
   rintro rfl
   exact hi ha
  have hse':∀ j∈seen ++ [i],∃ h:j<6,0≤c.manyL[j]'h∧c.manyL[j]'h≤2000:=fun j hj=>by
   rcases List.mem_append.1 hj with hj|hj
   ·exact hse j hj
   ·have:j=i:=by simpa using hj
    subst this
    exact⟨hi6,by omega,by omega⟩
  have hlen:(seen ++ [i]).length≤6:=by
   exact nodup_lt6 hnd' (fun x hx=>(hse' x hx).1)
  refine hKE _ ⟨k5,by omega,p5,g5,_,m5,hnd',hse'⟩ ?_
  simp only[m5,m4]
  simp at hlen ⊢
  omega
 ·unfold over
  rw[extr0,onB_v,gd_false]
  have hm:c.manyL.all (fun n=>decide (0≤n) && decide (n≤2000))=true:=by
   rw[List.all_eq_true]
   intro x hx
   obtain⟨i,hi,rfl⟩:=List.getElem_of_mem hx
   obtain⟨h6,h0,h1⟩:=hse i (hall i hi)
   simp only[Bool.and_eq_true,decide_eq_true_eq]
   exact⟨h0,h1⟩
  have hright:c.right=(c.gr.right && (c.latches.all (latOk c.gr) && (c.outs.all c.gr.lit && (c.bads.all c.gr.lit && (c.cons.all c.gr.lit && (c.fair.all c.gr.lit && namesB c)))))):=by
   simp only[Ci.right,hm,Bool.true_and]
  clear hm hall hse hmany
  refine box1_of rfl fun S5 k5 n5 o5=>?_
  refine st_of o5 rfl rfl fun S6 n6 o6 f6=>?_
  have k6:Keep S S6:=(k4.trans k5).st (by have:=k4.1;omega) n6 f6
  have p6:S6.obj S.n=_:=(f6 _ (by omega)).trans ((k5.2 _ (by omega)).trans p4)
  have g6:S6.obj S1.n=_:=(f6 _ (by omega)).trans ((k5.2 _ (by omega)).trans g4)
  rw[ldN_p (n:=2) g6 rfl]
  refine callF_ans (ans130 hg) ?_
  rw[un_not,onB_v]
  refine gd_of (fun h1=>⟨?_,k6⟩) (fun h1=>?_)
  ·rw[Bool.not_eq_true']at h1
   rw[hright,h1];rfl
  have h1:c.gr.right=true:=by simpa using h1
  rw[shift_p,ld1_p p6 rfl rfl]
  have hlat:=hc.llen
  refine callF_at (at131 (by omega) (g:=fun p=>!latOk c.gr p) (fun p hp=>at129 hg (hc.lats p hp).1 (by omega) (by omega) g6 o6)) ?_
  rw[any_notP,onB_v]
  refine gd_of (fun h2=>⟨?_,k6⟩) (fun h2=>?_)
  ·rw[Bool.not_eq_true']at h2
   rw[hright,h1,h2];rfl
  have h2:c.latches.all (latOk c.gr)=true:=by simpa using h2
  rw[shift_p,ld1_p p6 rfl rfl,shift_p,ld1_p p6 rfl rfl,shift_p,ld1_p p6 rfl rfl,shift_p,ld1_p p6 rfl rfl,bld_of (cs:=[aL aI c.outs,aL aI c.bads,aL aI c.cons,aL aI c.fair]) rfl]
  rw[h1,h2,Bool.true_and,Bool.true_and]at hright
  have call:∀(l:List Int),((∀ x∈l,i64R x)∧l.length≤9223372036854775807)→∀{Q:AEnd→Store→Prop} {K:AV→Store→Prop},K (aB (!l.all c.gr.lit)) S6→callF Pg 132 [aL aI l,.f (.func 128) [] [.p S1.n 0 0]] S6 Q K:=fun l hl Q K k =>
   callF_at (at132 hl.2 (g:=fun x=>!c.gr.lit x) (fun x hx=>at128 hg (hl.1 x hx) g6)) (show K (aB (l.any fun x=>!c.gr.lit x)) S6 by rw[any_not];exact k)
  refine loop85_1 (fun y S'=>S'=S6∧∃ i:Nat,y=aI i∧i≤4∧(1≤i→c.outs.all c.gr.lit=true)∧(2≤i→c.bads.all c.gr.lit=true)∧(3≤i→c.cons.all c.gr.lit=true)∧(4≤i→c.fair.all c.gr.lit=true))
   (fun y _=>4 - ((intA y).getD 0).toNat) ⟨rfl,0,rfl,Nat.zero_le _,fun h=>by omega,fun h=>by omega,fun h=>by omega,fun h=>by omega⟩ ?_
  rintro _ S6 ⟨rfl,i,rfl,hi,a1,a2,a3,a4⟩ KE1 hKE1
  unfold b85_1
  rw[bin_lss,onB_v]
  refine gd_of (fun hlt=>?_) (fun hge=>?_)
  ·have hlt:i<4:=by have:=of_decide_eq_true hlt;exact Int.ofNat_lt.1 this
   have hadd:∀ K:AV→Store→Prop,∀ S,bin .add 0 (.v (.int .i64 (i:Int))) (.v (.int .i64 1)) S K=K (aI (i+1:Nat)) S:=fun K S=>bin_add (by omega) (by omega) 0
   match i,hlt with
   |0,_ =>
    refine⟨0,rfl,⟨by decide,by decide⟩,_,rfl,?_⟩
    show ld1 _ _ _
    rw[ld1_p o6 rfl rfl]
    refine call _ hc.outs ?_
    rw[onB_v]
    refine gd_of (fun h=>⟨?_,k6⟩) (fun h=>?_)
    ·rw[Bool.not_eq_true']at h
     rw[hright,h];rfl
    ·rw[hadd]
     exact hKE1 _ _ ⟨rfl,1,rfl,by decide,fun _=>by simpa using h,fun h=>by omega,fun h=>by omega,fun h=>by omega⟩ (by simp[intA])
   |1,_ =>
    have a1:=a1 (by decide)
    refine⟨1,rfl,⟨by decide,by decide⟩,_,rfl,?_⟩
    show ld1 _ _ _
    rw[ld1_p o6 rfl rfl]
    refine call _ hc.bads ?_
    rw[onB_v]
    refine gd_of (fun h=>⟨?_,k6⟩) (fun h=>?_)
    ·rw[Bool.not_eq_true']at h
     rw[hright,a1,h];rfl
    ·rw[hadd]
     exact hKE1 _ _ ⟨rfl,2,rfl,by decide,fun _=>a1,fun _=>by simpa using h,fun h=>by omega,fun h=>by omega⟩ (by simp[intA])
   |2,_ =>
    have a1:=a1 (by decide)
    have a2:=a2 (by decide)
    refine⟨2,rfl,⟨by decide,by decide⟩,_,rfl,?_⟩
    show ld1 _ _ _
    rw[ld1_p o6 rfl rfl]
    refine call _ hc.cons ?_
    rw[onB_v]
    refine gd_of (fun h=>⟨?_,k6⟩) (fun h=>?_)
    ·rw[Bool.not_eq_true']at h
     rw[hright,a1,a2,h];rfl
    ·rw[hadd]
     exact hKE1 _ _ ⟨rfl,3,rfl,by decide,fun _=>a1,fun _=>a2,fun _=>by simpa using h,fun h=>by omega⟩ (by simp[intA])
   |3,_ =>
    have a1:=a1 (by decide)
    have a2:=a2 (by decide)
    have a3:=a3 (by decide)
    refine⟨3,rfl,⟨by decide,by decide⟩,_,rfl,?_⟩
    show ld1 _ _ _
    rw[ld1_p o6 rfl rfl]
    refine call _ hc.fair ?_
    rw[onB_v]
    refine gd_of (fun h=>⟨?_,k6⟩) (fun h=>?_)
    ·rw[Bool.not_eq_true']at h
     rw[hright,a1,a2,a3,h];rfl
    ·rw[hadd]
     exact hKE1 _ _ ⟨rfl,4,rfl,by decide,fun _=>a1,fun _=>a2,fun _=>a3,fun _=>by simpa using h⟩ (by simp[intA])
  ·have hge:i=4:=by
     have:¬ ((i:Int)<4):=of_decide_eq_false hge
     omega
   subst hge
   rw[ldN_p (n:=8) p6 rfl]
   refine callF_ans (ans133 hc) ⟨?_,k6⟩
   rw[hright,a1 (by decide),a2 (by decide),a3 (by decide),a4 (by decide)];rfl
theorem right_c{c:Ci}:c.right=true↔(0≤c.inputs∧c.inputs≤2000)∧c.latches.length≤2000∧c.outs.length≤2000∧c.bads.length≤2000∧c.cons.length≤2000∧c.fair.length≤2000∧
    c.gr.right=true∧c.latches.all (latOk c.gr)=true∧c.outs.all c.gr.lit=true∧c.bads.all c.gr.lit=true∧c.cons.all c.gr.lit=true∧c.fair.all c.gr.lit=true∧namesB c=true:=by
 have e:∀ n:Nat,(decide (0≤(n:Int)) && decide ((n:Int)≤2000))=decide (n≤2000):=fun n=>by
  rw[decide_eq_true (by omega:0≤(n:Int)),Bool.true_and]
  exact decide_eq_decide.2 (by omega)
 simp only[Ci.right,Ci.manyL,List.all_cons,List.all_nil,e,Bool.and_eq_true,decide_eq_true_eq,Bool.and_true]
 constructor
 ·rintro⟨⟨a,b1,b2,b3,b4,b5⟩,c1,c2,c3,c4,c5,c6,c7⟩
  exact⟨a,b1,b2,b3,b4,b5,c1,c2,c3,c4,c5,c6,c7⟩
 ·rintro⟨a,b1,b2,b3,b4,b5,c1,c2,c3,c4,c5,c6,c7⟩
  exact⟨⟨a,b1,b2,b3,b4,b5⟩,c1,c2,c3,c4,c5,c6,c7⟩
theorem gd_fo{b:Bool}{A B:Prop}(h2:b=false→B)(h1:b=true→A):gd b A B:=gd_of h1 h2
theorem right_no{c:Ci}(h:¬ c.right=true):c.right=false:=by simpa using h
theorem ans65{c:Ci}(hc:c.ok):Ans Pg 65 [c.av] (aB c.right):=by
 intro S
 refine ACalls.ans_v (calls65 ?_)
 have hg:=hc.gr
 have hll:=hc.llen
 unfold m65
 refine boxA_of rfl fun S1 k1 n1 o1=>?_
 rw[ldN_p (n:=8) o1 rfl]
 refine callF_ans (ans41 c) ?_
 refine boxA_of rfl fun S2 k2 n2 o2=>?_
 refine stA_of o2 rfl rfl fun S3 n3 o3 f3=>?_
 have k3:Keep S S3:=(k1.trans k2).st (by omega) n3 f3
 have p3:S3.obj S.n=_:=(f3 _ (by omega)).trans ((k2.2 _ (by omega)).trans o1)
 rw[shift_p,ld1_p p3 rfl rfl,bin_lss,onB_v]
 refine gd_of (fun h1=>⟨?_,k3⟩) (fun h1=>?_)
 ·rw[right_no fun h=>by have:=(right_c.1 h).1;have:=of_decide_eq_true h1;omega]
 rw[shift_p,ld1_p p3 rfl rfl,bin_gtr,onB_v]
 refine gd_of (fun h2=>⟨?_,k3⟩) (fun h2=>?_)
 ·rw[right_no fun h=>by have:=(right_c.1 h).1;have:=of_decide_eq_true h2;omega]
 rw[shift_p,ld1_p p3 rfl rfl,lenS_pL,bin_gtr,onB_v]
 refine gd_of (fun h3=>⟨?_,k3⟩) (fun h3=>?_)
 ·rw[right_no fun h=>by have:=(right_c.1 h).2.1;have:=of_decide_eq_true h3;omega]
 have h1:=of_decide_eq_false h1
 have h2:=of_decide_eq_false h2
 have h3:=of_decide_eq_false h3
 rw[ldN_p (n:=2) o3 rfl]
 refine callF_ans (ans111 hg) ?_
 rw[un_not,onB_v]
 refine gd_of (fun h4=>⟨?_,k3⟩) (fun h4=>?_)
 ·rw[right_no fun h=>by rw[(right_c.1 h).2.2.2.2.2.2.1]at h4;cases h4]
 have h4:c.gr.right=true:=by simpa using h4
 refine loop65_0 (fun y S'=>S'=S3∧∃ i:Nat,y=aI i∧i≤c.latches.length∧∀ j (h:j<c.latches.length),j<i→latOk c.gr c.latches[j]=true)
  (fun y _=>c.latches.length - ((intA y).getD 0).toNat) ⟨rfl,0,rfl,Nat.zero_le _,fun j _ hj=>(Nat.not_lt_zero _ hj).elim⟩ ?_
 rintro _ S3 ⟨rfl,i,rfl,hi,hok⟩ KE hKE
 unfold b65_0
 rw[shift_p,ld1_p p3 rfl rfl,lenS_pL,bin_lss,onB_v]
 refine gd_of (fun hlt=>?_) (fun hge=>?_)
 ·have hlt:i<c.latches.length:=by simpa using hlt
  have hm:=List.getElem_mem hlt
  have hno:latOk c.gr c.latches[i]=false→c.right=false:=fun h=>right_no fun h'=>by
   have:=List.all_eq_true.1 (right_c.1 h').2.2.2.2.2.2.2.1 _ hm
   rw[h]at this;cases this
  have hix:∀ K:AV→Store→Prop,ixS 66 2 (pL c.latches) (aI i) S3 K=K (.q [aI c.latches[i].1,aI c.latches[i].2] 0) S3:=fun K=>ixS_pL hlt
  have hl:=(hc.lats _ hm).1
  have hnext:latOk c.gr c.latches[i]=true→KE _ (env65_0 (.p S.n 0 0) (.p S1.n 0 0) (aI (i+1:Nat))) S3:=fun h=>hKE _ _ ⟨rfl,i+1,rfl,hlt,fun j hj hj'=>by
   rcases Nat.lt_or_ge j i with h'|h'
   ·exact hok j hj h'
   ·have:j=i:=by omega
    subst this
    exact h⟩ (by simp[intA];omega)
  generalize c.latches[i]=x at *
  show ∃ q28:AV,_
  refine⟨_,by rw[ldN_p (n:=2) o3 rfl];exact⟨rfl,rfl⟩,?_⟩
  refine⟨_,by rw[shift_p];exact⟨rfl,rfl⟩,?_⟩
  refine⟨_,by rw[ld1_p p3 rfl rfl];exact⟨rfl,rfl⟩,?_⟩
  refine⟨_,by rw[hix];exact⟨rfl,rfl⟩,?_⟩
  refine⟨_,by rw[shift_q];exact⟨rfl,rfl⟩,?_⟩
  refine⟨_,by rw[ld1_qj (u:=aI x.1) rfl];exact⟨rfl,rfl⟩,?_⟩
  refine⟨_,callF_ans (ans112 hg hl) ⟨rfl,rfl⟩,?_⟩
  refine⟨_,by rw[un_not];exact⟨rfl,rfl⟩,?_⟩
  rw[onB_v]
  refine gd_of (fun h5=>?_) (fun h5=>?_)
  ·refine⟨_,⟨rfl,rfl⟩,?_⟩
   rw[onB_v,gd_true]
   refine⟨_,⟨rfl,rfl⟩,?_⟩
   rw[onB_v,gd_true]
   refine⟨?_,k3⟩
   rw[Bool.not_eq_true']at h5
   rw[hno (by simp[latOk,h5])]
  have h5:c.gr.lit x.1=true:=by simpa using h5
  refine⟨_,by rw[shift_p];exact⟨rfl,rfl⟩,?_⟩
  refine⟨_,by rw[ld1_p p3 rfl rfl];exact⟨rfl,rfl⟩,?_⟩
  refine⟨_,by rw[hix];exact⟨rfl,rfl⟩,?_⟩
  refine⟨_,by rw[shift_q];exact⟨rfl,rfl⟩,?_⟩
  refine⟨_,by rw[ld1_qj (u:=aI x.2) rfl];exact⟨rfl,rfl⟩,?_⟩
  refine⟨_,by rw[bin_lss];exact⟨rfl,rfl⟩,?_⟩
  refine⟨_,⟨rfl,rfl⟩,?_⟩
  rw[onB_v]
  refine gd_of (fun h6=>?_) (fun h6=>?_)
  ·refine⟨_,⟨rfl,rfl⟩,?_⟩
   rw[onB_v,gd_true]
   refine⟨?_,k3⟩
   have h6:=of_decide_eq_true h6
   rw[hno (by simp[latOk,show ¬ 0≤x.2 by omega])]
  refine⟨_,by rw[shift_p];exact⟨rfl,rfl⟩,?_⟩
  refine⟨_,by rw[ld1_p p3 rfl rfl];exact⟨rfl,rfl⟩,?_⟩
  refine⟨_,by rw[hix];exact⟨rfl,rfl⟩,?_⟩
  refine⟨_,by rw[shift_q];exact⟨rfl,rfl⟩,?_⟩
  refine⟨_,by rw[ld1_qj (u:=aI x.2) rfl];exact⟨rfl,rfl⟩,?_⟩
  refine⟨_,by rw[bin_gtr];exact⟨rfl,rfl⟩,?_⟩
  refine⟨_,⟨rfl,rfl⟩,?_⟩
  rw[onB_v]
  refine gd_of (fun h7=>⟨?_,k3⟩) (fun h7=>?_)
  ·have h7:=of_decide_eq_true h7
   rw[hno (by simp[latOk,show ¬ x.2≤2 by omega])]
  ·have hadd:∀ K:AV→Store→Prop,∀ S,bin .add 0 (.v (.int .i64 (i:Int))) (.v (.int .i64 1)) S K=K (aI (i+1:Nat)) S:=fun K S=>bin_add (by omega) (by omega) 0
   rw[hadd]
   have h6:=of_decide_eq_false h6
   have h7:=of_decide_eq_false h7
   exact hnext (by simp[latOk,h5,show 0≤x.2 by omega,show x.2≤2 by omega])
 ·have hge:i=c.latches.length:=by simp at hge;omega
  subst hge
  have h5:c.latches.all (latOk c.gr)=true:=by
   rw[List.all_eq_true]
   intro x hx
   obtain⟨j,hj,rfl⟩:=List.getElem_of_mem hx
   exact hok j hj hj
  rw[ldN_p (n:=2) o3 rfl,shift_p,ld1_p p3 rfl rfl]
  refine callF_ans (ans113 hg hc.outs.1 hc.outs.2) ?_
  rw[onB_v]
  refine gd_fo (fun a1=>⟨?_,k3⟩) (fun a1=>?_)
  ·rw[right_no fun h=>by simp[(right_c.1 h).2.2.2.2.2.2.2.2.1,(right_c.1 h).2.2.1]at a1]
  rw[ldN_p (n:=2) o3 rfl,shift_p,ld1_p p3 rfl rfl]
  refine callF_ans (ans113 hg hc.bads.1 hc.bads.2) ?_
  rw[onB_v]
  refine gd_fo (fun a2=>⟨?_,k3⟩) (fun a2=>?_)
  ·rw[right_no fun h=>by simp[(right_c.1 h).2.2.2.2.2.2.2.2.2.1,(right_c.1 h).2.2.2.1]at a2]
  rw[ldN_p (n:=2) o3 rfl,shift_p,ld1_p p3 rfl rfl]
  refine callF_ans (ans113 hg hc.cons.1 hc.cons.2) ?_
  rw[onB_v]
  refine gd_fo (fun a3=>⟨?_,k3⟩) (fun a3=>?_)
  ·rw[right_no fun h=>by simp[(right_c.1 h).2.2.2.2.2.2.2.2.2.2.1,(right_c.1 h).2.2.2.2.1]at a3]
  rw[ldN_p (n:=2) o3 rfl,shift_p,ld1_p p3 rfl rfl]
  refine callF_ans (ans113 hg hc.fair.1 hc.fair.2) ?_
  rw[onB_v]
  refine gd_fo (fun a4=>⟨?_,k3⟩) (fun a4=>?_)
  ·rw[right_no fun h=>by simp[(right_c.1 h).2.2.2.2.2.2.2.2.2.2.2.1,(right_c.1 h).2.2.2.2.2.1]at a4]
  rw[ldN_p (n:=8) p3 rfl]
  refine callF_ans (ans114 hc) ⟨?_,k3⟩
  rw[Bool.and_eq_true,decide_eq_true_eq]at a1 a2 a3 a4
  congr 3
  rw[Bool.eq_iff_iff]
  exact⟨fun h=>right_c.2 ⟨⟨by omega,by omega⟩,by omega,a1.2,a2.2,a3.2,a4.2,h4,h5,a1.1,a2.1,a3.1,a4.1,h⟩,fun h=>(right_c.1 h).2.2.2.2.2.2.2.2.2.2.2.2⟩
def litB(v:List Bool)(l:Int):Bool:=v.getD (l.tdiv 2).toNat false != decide (l.tmod 2=1)
def allTo(g:Gr)(ins:List Bool):Nat→List Bool
 |0=>false :: ins
 |i+1=>allTo g ins i ++ [litB (allTo g ins i) (g.ands.getD i (0,0)).1 && litB (allTo g ins i) (g.ands.getD i (0,0)).2]
@[simp] theorem allTo_len(g:Gr)(ins:List Bool):∀ i,(allTo g ins i).length=ins.length+1+i
 |0=>rfl
 |i+1=>by simp[allTo,allTo_len g ins i];omega
def allB(g:Gr)(ins:List Bool):List Bool:=if(g.right && decide ((ins.length:Int)=g.inputs))=true then allTo g ins g.ands.length else[]
theorem bitL_at{S:Store}{x:AV}{l:Int}{b:Bool}(hl:i64R l)(hx:∀ K:AV→Store→Prop,K (aB b) S→ixS 4 1 x (aI (l.tdiv 2)) S fun v S=>ld1 v S K):AnsAt Pg 153 [x,aI l] S (aB (b != decide (l.tmod 2=1))):=by
 refine calls153 ?_
 unfold m153
 rw[bin_half hl]
 refine hx _ ?_
 rw[bin_rem (by decide),bin_eql,bin_neqB]
 exact⟨rfl,rfl⟩
theorem may_at{g:Gr}(h:g.right=true){i:Nat}(hi:i<g.ands.length):2≤g.ands[i].2∧g.ands[i].2.tdiv 2<g.ands[i].1.tdiv 2∧g.ands[i].1.tdiv 2<g.inputs+1+i∧0≤g.ands[i].2.tdiv 2:=by
 have:=(right_iff.1 h).2.2.2.2.1 i hi
 rw[show g.ands.getD i (0,0)=g.ands[i]by simp[List.getD_eq_getElem?_getD,hi]]at this
 simp only[may,Bool.and_eq_true,decide_eq_true_eq]at this
 exact⟨this.1,this.2.1,this.2.2,Int.tdiv_nonneg (by omega) (by decide)⟩
theorem ix_own{n:Nat}{S:Store}{x:AV}{v:List Bool}(h:Own n S x 4 (v.map fun b=>[aB b])){z:Int}(h0:0≤z)(h1:z<v.length)(K:AV→Store→Prop)(k:K (aB (v.getD z.toNat false)) S):ixS 4 1 x (aI z) S fun v S=>ld1 v S K:=by
 obtain⟨i,rfl⟩:=Int.eq_ofNat_of_zero_le h0
 have hi:i<v.length:=by omega
 obtain⟨id,rfl,h2,h3,h4⟩:=h.ix (i:=i) (by simpa using hi)
 rw[ixS_s (by simpa using hi) h4,ld1_p h4 (by rw[Nat.zero_add,List.getElem?_map,List.getElem?_eq_getElem hi];rfl) rfl]
 rw[show(v.getD (Int.toNat i) false)=v[i]by simp[List.getD_eq_getElem?_getD,hi]]at k
 exact k
theorem ix_tree{S:Store}{v:List Bool}{z:Int}(h0:0≤z)(h1:z<v.length)(K:AV→Store→Prop)(k:K (aB (v.getD z.toNat false)) S):ixS 4 1 (aL aB v) (aI z) S fun v S=>ld1 v S K:=by
 obtain⟨i,rfl⟩:=Int.eq_ofNat_of_zero_le h0
 have hi:i<v.length:=by omega
 rw[ixS_aL hi,ld1_q]
 rw[show(v.getD (Int.toNat i) false)=v[i]by simp[List.getD_eq_getElem?_getD,hi]]at k
 exact k
def OwnL(f:FuncId)(args:List AV)(l:List Bool):Prop:=
 ∀ S,ACalls Pg f args S (fun r S'=>∃ x,r = .ret x∧Keep S S'∧Own S.n S' x 4 (l.map fun b=>[aB b]))
theorem OwnL.ans{f:FuncId}{args:List AV}{l:List Bool}(h:OwnL f args l):Ans Pg f args (aL aB l):=ACalls.ans_own (f:=fun b=>.bool b) (e:=4) h
theorem src_aL(S:Store)(l:List Bool):srcE S (aL aB l)=some (l.map fun b=>[aB b]):=rfl
theorem own152{g:Gr}(hg:g.ok){ins:List Bool}(hin:ins.length≤1000000):OwnL 152 [g.av,aL aB ins] (allB g ins):=by
 intro S
 refine calls152 ?_
 have hlen:=hg.len
 unfold m152
 refine boxA_of rfl fun S1 k1 n1 o1=>?_
 rw[ldN_p (n:=2) o1 rfl]
 refine callF_ans (ans111 hg) ?_
 rw[un_not,onB_v]
 refine gd_of (fun h1=>⟨_,rfl,k1,?_⟩) (fun h1=>?_)
 ·rw[Bool.not_eq_true']at h1
  rw[allB,h1]
  exact Own.nl _ _ _
 have h1:g.right=true:=by simpa using h1
 rw[lenS_aL,shift_p,ld1_p o1 rfl rfl,bin_neq,onB_v]
 refine gd_of (fun h2=>⟨_,rfl,k1,?_⟩) (fun h2=>?_)
 ·rw[Bool.not_eq_true']at h2
  rw[allB,h2,Bool.and_false]
  exact Own.nl _ _ _
 have h2:decide ((ins.length:Int)=g.inputs)=true:=by simpa using h2
 have h2':=of_decide_eq_true h2
 have hres:allB g ins=allTo g ins g.ands.length:=by rw[allB,h1,h2];rfl
 have hb:∀(b:Bool) {S:Store} {K:AV→Store→Prop},K (.l [[aB b]]) S→bslN 4 1 1 [.v (.bool false)] [(0,aB b)] S K:=fun b S K k=>bsl1 rfl (fun _ h=>by cases h) k
 refine⟨[aB false],by simp[fillA,cellsOf,AV.one,Value.oneCell',spl],.inl ?_⟩
 have w2:Own S1.n (S1.new (.cells 4 (chunks 1 1 [aB false]) true)) (.s S1.n 0 1) 4 [[aB false]]:=.inr ⟨S1.n,rfl,Nat.le_refl _,by simp,by rw[new_self];rfl⟩
 have k2:Keep S1 (S1.new (.cells 4 (chunks 1 1 [aB false]) true)):=(Keep.refl _).new _
 generalize S1.new (.cells 4 (chunks 1 1 [aB false]) true)=S2 at *
 refine Own.appL w2 k2.1 (ys:=ins.map fun b=>[aB b]) (fun c hc=>by obtain⟨p,_,rfl⟩:=List.mem_map.1 hc;rfl) (by simp;omega) (fun z1 S3 w3 b3 hz3=>?_) (src_aL _ _)
 have k3:Keep S1 S3:=w2.keep (Nat.le_refl _) b3 k2
 have k3':=k1.trans k3
 refine loop152_0 (fun y z S'=>Keep S1 S'∧∃ i:Nat,z=aI i∧i≤g.ands.length∧Own S1.n S' y 4 ((allTo g ins i).map fun b=>[aB b]))
  (fun _ z _=>g.ands.length - ((intA z).getD 0).toNat) ⟨k3,0,rfl,Nat.zero_le _,w3⟩ ?_
 rintro y _ S4 ⟨k4,i,rfl,hi,w4⟩ KE hKE
 have o4:=(k4.2 S.n (by omega)).trans o1
 unfold b152_0
 rw[shift_p,ld1_p o4 rfl rfl,lenS_pL,bin_lss,onB_v]
 refine gd_of (fun hlt=>?_) (fun hge=>?_)
 ·have hlt:i<g.ands.length:=by simpa using hlt
  obtain⟨q1,q2,q3,q4⟩:=may_at h1 hlt
  have hp:=hg.pairs _ (List.getElem_mem hlt)
  have hget:g.ands.getD i (0,0)=g.ands[i]:=by simp[List.getD_eq_getElem?_getD,hlt]
  have e1:∀(c:List AV) (K:AV→Store→Prop),ixA 2 1 (.q c 0) (.v (.int .i64 1)) S4 K=K (.q c 1) S4:=fun c K=>ixA_q (z:=1) (by decide)
  have e0:∀(c:List AV) (K:AV→Store→Prop),ixA 2 1 (.q c 0) (.v (.int .i64 0)) S4 K=K (.q c 0) S4:=fun c K=>ixA_q (z:=0) (by decide)
  have hadd:∀ K:AV→Store→Prop,∀ S,bin .add 0 (.v (.int .i64 (i:Int))) (.v (.int .i64 1)) S K=K (aI (i+1:Nat)) S:=fun K S=>bin_add (by omega) (by omega) 0
  have hl4:(allTo g ins i).length=ins.length+1+i:=allTo_len g ins i
  have step:∀ b,allTo g ins (i+1)=allTo g ins i ++ [b]→appS 4 1 1 y (.l [[aB b]]) S4 fun v T=>bin .add 0 (aI i) (.v (.int .i64 1)) T fun v' T=>KE 49 (env152_0 (.p S.n 0 0) v v') T:=fun b hb=>by
   refine w4.app k4.1 (c:=[aB b]) rfl (by simp;omega) (fun z5 S5 w5 b5 hz5=>?_) rfl
   rw[hadd]
   refine hKE _ _ _ ⟨w4.keep (Nat.le_refl _) b5 k4,i+1,rfl,hlt,?_⟩ (by simp[intA];omega)
   rw[hb,List.map_append]
   exact w5
  rw[shift_p,ld1_p o4 rfl rfl,ixS_pL hlt,e0,ld1_q0]
  refine callF_at (bitL_at hp.1 (fun K k=>ix_own w4 (by omega) (by rw[hl4];omega) K k)) ?_
  rw[onB_v]
  refine gd_of (fun h3=>?_) (fun h3=>?_)
  ·rw[shift_p,ld1_p o4 rfl rfl,ixS_pL hlt,e1,ld1_q1]
   refine callF_at (bitL_at hp.2 (fun K k=>ix_own w4 (by omega) (by rw[hl4];omega) K k)) ?_
   refine hb _ (step _ ?_)
   simp only[allTo,hget,litB]
   rw[h3,Bool.true_and]
  ·refine hb _ (step _ ?_)
   simp only[allTo,hget,litB]
   rw[h3,Bool.false_and]
 ·have hge:i=g.ands.length:=by simp at hge;omega
  subst hge
  rw[hres]
  exact⟨_,rfl,k1.trans k4,w4.low (by omega)⟩
theorem allB_len{g:Gr}{ins:List Bool}:(allB g ins).length=if(g.right && decide ((ins.length:Int)=g.inputs))=true then(g.vars).toNat else 0:=by
 unfold allB
 split
 ·rename_i h
  simp only[Bool.and_eq_true,decide_eq_true_eq]at h
  rw[allTo_len]
  simp only[Gr.vars,←h.2]
  omega
 ·rfl
def Gr.eval(g:Gr)(l:Int)(ins:List Bool):Bool:=decide (0<(allB g ins).length) && (g.lit l && litB (allB g ins) l)
theorem ans115{g:Gr}(hg:g.ok){l:Int}(hl:i64R l){ins:List Bool}(hin:ins.length≤1000000):Ans Pg 115 [g.av,aI l,aL aB ins] (aB (g.eval l ins)):=by
 intro S
 refine ACalls.ans_v (calls115 ?_)
 unfold m115
 refine boxA_of rfl fun S1 k1 n1 o1=>?_
 rw[ldN_p (n:=2) o1 rfl]
 refine callF_ans (own152 hg hin).ans ?_
 rw[lenS_aL,bin_gtr,onB_v]
 refine gd_fo (fun h1=>⟨?_,k1⟩) (fun h1=>?_)
 ·have h1:=of_decide_eq_false h1
  simp[Gr.eval,show ¬ 0<(allB g ins).length by omega]
 have h1:0<(allB g ins).length:=by have:=of_decide_eq_true h1;omega
 rw[ldN_p (n:=2) o1 rfl]
 refine callF_ans (ans112 hg hl) ?_
 rw[onB_v]
 refine gd_fo (fun h2=>⟨?_,k1⟩) (fun h2=>?_)
 ·simp[Gr.eval,h2]
 have h3:0≤l.tdiv 2∧l.tdiv 2<(allB g ins).length:=by
  have h4:=h2
  simp only[Gr.lit,Bool.and_eq_true,decide_eq_true_eq]at h4
  have:=allB_len (g:=g) (ins:=ins)
  split at this
  ·exact⟨Int.tdiv_nonneg (by omega) (by decide),by omega⟩
  ·omega
 refine callF_at (bitL_at hl (fun K k=>ix_tree h3.1 h3.2 K k)) ⟨?_,k1⟩
 simp only[Gr.eval,h1,h2,decide_true,Bool.true_and]
 rfl
end
end Go.Proofs.YtolgpokppnajdaaGreat.G

/- Witness -/
import Derived.WalkMore
import Derived.Defers
import Derived.Laws.LoneSync
import Derived.Below
import Derived.WalkKit
import Derived.ProofKit
import Derived.Test.YteooinddnfbglaaGreatDoorWqT1
set_option linter.unusedVariables false
set_option linter.unusedSimpArgs false
namespace Go.Ab
open Go Go.RowKit
variable {D:List Deferred}
def BC(x:AV)(want:Bool):Option Bool:=
 match x with
 |.v (.bool b)=>some (b == want)
 |.v (.tuple _)=>some false
 |_=>none
def j2(P:Program)(op:Op)(env:Env)(S:Aa)(v:AV):Prop:=
 match sO op env with
 |some x=>v=x
 |none=>Cz P op env S (fun u S'=>u=v∧S'=S) (fun _ _=>False)
theorem Uk{P:Program}{op:Op}{env:Env}{S:Aa}{v:AV}(h:j2 P op env S v):Cz P op env S (fun u S'=>u=v∧S'=S) (fun _ _=>False):=by
 unfold j2 at h
 split at h
 ·rename_i x hx
  subst h
  exact KF hx
 ·exact h
def guJ(ops:Array Oper)(o:Oper)(env:Env)(run:Prop)(K:Bool→Prop):Prop:=
 match o.guard with
 |none=>run
 |some (j,want)=>match(ops[j]?).bind (·.dst)with
  |none=>False
  |some d=>match Nat.blt d env.n with
   |false=>False
   |true=>∃ t,BC (env.f d) want=some t∧K t
theorem Rx{ops:Array Oper}{o:Oper}{env:Env}{run:Prop}{K:Bool→Prop}(h:guJ ops o env run K):(Ck ops env o=some true∧run)∨∃ t,Ck ops env o=some t∧K t:=by
 unfold guJ at h
 unfold Ck
 split at h
 ·rename_i hg
  rw[hg]
  exact .inl ⟨rfl,h⟩
 ·rename_i j want hg
  rw[hg]
  dsimp only
  split at h
  ·exact h.elim
  ·rename_i d hd
   rw[hd]
   dsimp only
   split at h
   ·exact h.elim
   ·rename_i hb
    rw[hb]
    dsimp only
    obtain⟨t,ht,hK⟩:=h
    refine .inr ⟨t,?_,hK⟩
    unfold BC at ht
    split at ht<;>simp_all
def Uv:Op→Bool
 |.store _ _ _|.alloc _|.box _ _|.makeSlice _ _ _|.makeMap _ _|.mapUpdate _ _ _ _|.insert _ _ _ _|.mapEntry _ _ _|.entryStore _ _ _ _|.range _ _|.next _ _|.panic _|.call { callee:=.builtin .append,.. }|.call { callee:=.builtin .copy,.. }|.call { callee:=.builtin .unsafeString,.. }=>false
 |_=>true
def rZ(P:Program)(ops:Array Oper):List Oper→Env→Aa→(Env→Aa→Prop)→(AV→Env→Aa→Prop)→Prop
 |[],env,S,K,_=>K env S
 |o :: rest,env,S,K,X =>
  guJ ops o env (match Uv o.op with
      |true=>match sO o.op env with
       |some v=>rZ P ops rest (Bt env o.dst v) S K X
       |none=>∃ v,Cz P o.op env S (fun u S'=>u=v∧S'=S) (fun _ _=>False)∧rZ P ops rest (Bt env o.dst v) S K X
      |false=>Cz P o.op env S (fun v S'=>rZ P ops rest (Bt env o.dst v) S' K X) (fun u S'=>X u env S'))
   (fun t=>∃ v,gd t (j2 P o.op env S v) (v = .v undef)∧rZ P ops rest (Bt env o.dst v) S K X)
theorem HW{P:Program}{ops:Array Oper}{Q:AX→Env→Aa→Prop}{w0:World}{g0:Gh}:∀(l:List Oper) (env:Env) (S:Aa) (w:World) (g:Gh) (a:Act),Ba P w g S→BX D w g env a→Mv w0 g0 w g→
    rZ P ops l env S (Q .normal) (fun u env' S'=>Q (.pan u) env' S')→wpList P ops (LB P D w0 g0 Q) l a w
 |[],env,S,w,g,a,hh,he,m,h=>⟨.normal,env,S,g,hh,he,m,trivial,h⟩
 |o :: rest,env,S,w,g,a,hh,he,m,h=>by
  unfold wpList
  have quiet:∀ v,Cz P o.op env S (fun u S'=>u=v∧S'=S) (fun _ _=>False)→rZ P ops rest (Bt env o.dst v) S (Q .normal) (fun u env' S'=>Q (.pan u) env' S')→
      o.wp P a w (fun a w=>wpList P ops (LB P D w0 g0 Q) rest a w) (LB P D w0 g0 Q):=fun v h1 h2 =>
   CL h1 D w g a _ _ hh he (fun u S' w' g' y k1 k2 k3 k4=>by
    obtain⟨rfl,rfl⟩:=k4
    exact HW rest _ _ w' g' _ k1 ((he.mv k2).put o.dst k3) (m.trans k2) h2) (fun u S' w' g' y k1 k2 k3 k4=>k4.elim)
  simp only[rZ]at h
  rcases Rx h with⟨ht,h'⟩|⟨t,ht,v,h1,h2⟩
  ·rw[if_pos (B3 he ht)]
   split at h'
   ·split at h'
    ·rename_i v hv
     exact .inl (quiet v (KF hv) h')
    ·obtain⟨v,h1,h2⟩:=h'
     exact .inl (quiet v h1 h2)
   ·exact .inl (CL h' D w g a _ _ hh he (fun v S' w' g' y k1 k2 k3 k4=>HW rest _ _ w' g' _ k1 ((he.mv k2).put o.dst k3) (m.trans k2) k4)
      (fun u S' w' g' y k1 k2 k3 k4=>⟨.pan u,env,S',g',k1,he.mv k2,m.trans k2,⟨y,rfl,k3⟩,k4⟩))
  ·rcases Dc h1 with⟨rfl,h1⟩|⟨rfl,rfl⟩
   ·rw[if_pos (B3 he ht)]
    exact .inl (quiet v (Uk h1) h2)
   ·rw[if_neg (by rw[B3 he ht];simp)]
    exact HW rest _ _ w g _ hh (he.put o.dst (.v _)) m h2
def Qo(P:Program)(ops:Array Oper)(S:Aa):List Oper→Env→(Env→Prop)→Prop
 |[],env,K=>K env
 |o :: rest,env,K =>
  guJ ops o env (match sO o.op env with
      |some v=>Qo P ops S rest (Bt env o.dst v) K
      |none=>∃ v,Cz P o.op env S (fun u S'=>u=v∧S'=S) (fun _ _=>False)∧Qo P ops S rest (Bt env o.dst v) K)
   (fun t=>∃ v,gd t (j2 P o.op env S v) (v = .v undef)∧Qo P ops S rest (Bt env o.dst v) K)
theorem OA{P:Program}{ops:Array Oper}{S:Aa}{K:Env→Prop}:∀(l:List Oper) (k:Nat) (listed:Array Bool) (env:Env),(∀ j:Nat,l[j]? = ops[k+j]?)→
    Region.lexFrom .any ops l.length k listed=true→Qo P ops S l env K→Ua P ops S K l.length listed env
 |[],_,_,_,_,hB,h=>⟨by simpa[Region.lexFrom]using hB,h⟩
 |o :: l,k,listed,env,hl,hB,h=>by
  have h0:ops[k]? = some o:=by simpa using(hl 0).symm
  simp only[List.length_cons,Region.lexFrom,Bool.and_eq_true]at hB
  obtain⟨⟨hr,hf⟩,hB'⟩:=hB
  have hrest:=fun env'=>OA (P:=P) (S:=S) (K:=K) l (k+1) (listed.setIfInBounds k true) env' (fun j=>by have:=hl (j+1);simpa[Nat.add_assoc,Nat.add_comm 1 j]using this) hB'
  simp only[Qo]at h
  have fin:∀ v,Yd P ops S o v env→Qo P ops S l (Bt env o.dst v) K→Ua P ops S K (l.length+1) listed env:=fun v h1 h2 =>
   Jd h0 l.length listed env (Region.free_spec h0 hf) (by simpa using hr) h1 (hrest _ h2)
  rcases Rx h with⟨ht,h'⟩|⟨t,ht,v,h1,h2⟩
  ·split at h'
   ·rename_i v hv
    exact fin v ⟨true,ht,KF hv⟩ h'
   ·obtain⟨v,h1,h2⟩:=h'
    exact fin v ⟨true,ht,h1⟩ h2
  ·refine fin v ⟨t,ht,?_⟩ h2
   rcases Dc h1 with⟨rfl,h1⟩|⟨rfl,rfl⟩
   ·exact Uk h1
   ·rfl
theorem RC{P:Program}(hm:P.follows .mixedOrders=true){id:Nat}{ops:Array Oper}(hB:Region.lexB .any ops=true){env:Env}{S:Aa}{K:AX→Env→Aa→Prop}
    (h:Qo P ops S ops.toList env (fun env'=>K .normal env' S)):U9 P id ops env S K:=by
 intro D w g a hh he
 simp only[Region.lexB,Bool.and_eq_true]at hB
 refine wp_region_any hm ?_
 have h1:=OA (P:=P) (S:=S) ops.toList 0 (Array.replicate ops.size false) env (by simp) (by simpa using hB.2) h
 have h2:=Md (w0:=w) (g0:=g) ops.toList.length (Array.replicate ops.size false) env w.drew g a hh.drew (he.mv (D3 w g)) (D3 w g) h1
 simpa using h2
inductive St where
 |e
 |q (i:Nat) (r:St)
 |l (i D:Nat) (r:St)
 |k (i:Nat) (r:St)
 |n (is:List Nat) (r:St)
 |s (i j:Nat) (r:St)
 |c (i j:Nat) (A B:St)
def newObj(P:Program)(op:Op)(env:Env):Option Bw:=
 match op with
 |.alloc t=>match zT P t,Fa P t with
  |some z,some n=>match cellsOf (Kk z)with
   |some cs=>match decide (cs.length=n)with|true=>some (.cells t [cs] true)|false=>none
   |none=>none
  |_,_=>none
 |.box t x=>match Fa P t with
  |some n=>match cellsOf (ev env x)with
   |some cs=>match decide (cs.length=n)with|true=>some (.cells t [cs] true)|false=>none
   |none=>none
  |none=>none
 |_=>none
theorem KD{P:Program}{op:Op}{env:Env}{o:Bw}(h:newObj P op env=some o){S:Aa}{K X:AV→Aa→Prop}(hK:K (.p S.n 0 0) (S.new o)):Cz P op env S K X:=by
 unfold newObj at h
 split at h
 ·split at h
  ·rename_i z n hz hn
   split at h
   ·rename_i cs hcs
    split at h
    ·rename_i hd
     cases h
     simp only[Cz,alloc,hz,box,hn]
     exact⟨cs,hcs,of_decide_eq_true hd,hK⟩
    ·cases h
   ·cases h
  ·cases h
 ·split at h
  ·rename_i n hn
   split at h
   ·rename_i cs hcs
    split at h
    ·rename_i hd
     cases h
     simp only[Cz,box,hn]
     exact⟨cs,hcs,of_decide_eq_true hd,hK⟩
    ·cases h
   ·cases h
  ·cases h
 ·cases h
def MC:Op→Bool
 |.alloc _|.box _ _=>true
 |_=>false
theorem NM{P:Program}{op:Op}{env:Env}(hn:MC op=true){S:Aa}{K X:AV→Aa→Prop}(h:Cz P op env S K X):∃ o,newObj P op env=some o∧K (.p S.n 0 0) (S.new o):=by
 cases op<;>simp[MC]at hn
 ·simp only[Cz,alloc]at h
  split at h
  ·rename_i z hz
   obtain⟨cs,h1,h2,h3⟩:=Kc h
   exact⟨_,by simp[newObj,hz,h2,h1],h3⟩
  ·exact h.elim
 ·simp only[Cz]at h
  obtain⟨cs,h1,h2,h3⟩:=Kc h
  exact⟨_,by simp[newObj,h2,h1],h3⟩
theorem Jp{P:Program}{op:Op}{env env':Env}(h:∀ x,x∈op.operands→ev env x=ev env' x):newObj P op env=newObj P op env':=by
 cases op<;>simp only[Op.operands]at h<;>try rfl
 case box t x=>simp only[newObj,h x (by simp)]
structure Vy (S:Aa) (os:List Bw) (ids:List Nat) (S':Aa):Prop where
 n:S'.n=S.n+os.length
 Eh:∀ i,i<S.n→S'.obj i=S.obj i
 len:ids.length=os.length
 nodup:ids.Nodup
 lo:∀ id∈ids,S.n≤id
 hi:∀ id∈ids,id<S'.n
 new:∀(k id:Nat) (o:Bw),ids[k]? = some id→os[k]? = some o→S'.obj id=some o
theorem Vy.AR{S S':Aa}{os:List Bw}{ids:List Nat}(h:Vy S os ids S'):Am S S':=⟨by rw[h.n];omega,h.Eh⟩
def Fl(P:Program)(ops:Array Oper)(env:Env):List Nat→Option (List Bw)
 |[]=>some []
 |i :: is=>match ops[i]? with
  |some o=>match newObj P o.op env with
   |some x=>match Fl P ops env is with
    |some xs=>some (x :: xs)
    |none=>none
   |none=>none
  |none=>none
def OW(P:Program)(op:Op)(env:Env)(K:Bw→Prop):Prop:=
 match op with
 |.alloc t=>match newObj P (.alloc t) env with
  |some o=>K o
  |none=>False
 |.box t x=>match Fa P t with
  |some n=>BK (cellsOf (ev env x)) fun cs=>cs.length=n∧K (.cells t [cs] true)
  |none=>False
 |_=>False
theorem OV{P:Program}{op:Op}{env:Env}{K:Bw→Prop}(h:OW P op env K):∃ o,newObj P op env=some o∧K o:=by
 unfold OW at h
 split at h
 ·split at h
  ·rename_i o ho
   exact⟨o,ho,h⟩
  ·exact h.elim
 ·split at h
  ·rename_i n hn
   obtain⟨cs,h1,h2,h3⟩:=h
   exact⟨_,by simp[newObj,hn,h1,h2],h3⟩
  ·exact h.elim
 ·exact h.elim
def Jo(P:Program)(ops:Array Oper)(env:Env):List Nat→(List Bw→Prop)→Prop
 |[],K=>K []
 |i :: is,K=>match ops[i]? with
  |some o=>OW P o.op env fun x=>Jo P ops env is fun xs=>K (x :: xs)
  |none=>False
theorem II{P:Program}{ops:Array Oper}{env:Env}:∀{is:List Nat} {K:List Bw→Prop},Jo P ops env is K→∃ os,Fl P ops env is=some os∧K os
 |[],K,h=>⟨[],rfl,h⟩
 |i :: is,K,h=>by
  simp only[Jo]at h
  split at h
  ·rename_i o ho
   obtain⟨x,hx,h⟩:=OV h
   obtain⟨xs,hxs,h⟩:=II h
   exact⟨x :: xs,by simp[Fl,ho,hx,hxs],h⟩
  ·exact h.elim
def UA(os:List Bw)(S:Aa)(K:List Nat→Aa→Prop):Prop:=∀ ids S',Vy S os ids S'→K ids S'
def Mr:List (Option Tmp)→List Nat→Env→Env
 |[],_,env=>env
 |d :: ds,ids,env=>Mr ds ids.tail (Bt env d (.p (ids.headD 0) 0 0))
def skN:List (Option Tmp)→(Nat→Bool)→(Nat→Bool)
 |[],sk=>sk
 |d :: ds,sk=>skN ds (CA sk d false)
def J7(ops:Array Oper)(i:Nat):Option Tmp:=(ops[i]?).bind (·.dst)
def B5:List Nat→Array Bool→Array Bool
 |[],l=>l
 |i :: is,l=>B5 is (l.setIfInBounds i true)
def OF(P:Program)(op:Op)(env:Env)(v:AV)(S:Aa):Prop:=∀ T,Am S T→Cz P op env T (fun u T'=>u=v∧T'=T) (fun _ _=>False)
def P2(n:Nat):Env:=⟨n,fun _=>.j,fun _ _=>rfl⟩
def Nx(P:Program)(ops:Array Oper)(X:AV→Aa→Prop):St→(Nat→Bool)→Env→Aa→(Nat→Aa→Prop→Prop)→(Env→Aa→Prop)→Prop
 |.e,_,env,S,_,K=>K env S
 |.q i rest,sk,env,S,Φ,K=>match ops[i]? with
  |none=>False
  |some o=>gu sk ops o env (fun env=>match sO o.op env with
     |some v=>Nx P ops X rest (CA sk o.dst false) (Bt env o.dst v) S Φ K
     |none=>∃ v,(∀ T,Am S T→Cz P o.op env T (fun u T'=>u=v∧T'=T) (fun _ _=>False))∧Nx P ops X rest (CA sk o.dst false) (Bt env o.dst v) S Φ K)
   (fun env=>Nx P ops X rest (CA sk o.dst true) (Bt env o.dst (.v undef)) S Φ K)
 |.l i D rest,sk,env,S,Φ,K=>match ops[i]? with
  |none=>False
  |some o=>match o.guard,sO o.op env with
   |none,some v=>Nx P ops X rest (CA sk o.dst false) (Bt env o.dst v) S Φ K
   |none,none=>∃ v,(∀ T,Am S T→Cz P o.op env T (fun u T'=>u=v∧T'=T) (fun _ _=>False))∧Nx P ops X rest (CA sk o.dst false) (Bt env o.dst v) S (fun j S' p=>match D.testBit j with|true=>(∀ T,Am S' T→Cz P o.op env T (fun u T'=>u=v∧T'=T) (fun _ _=>False))∧Φ j S' p|false=>Φ j S' p) K
   |_,_=>False
 |.k i rest,sk,env,S,Φ,K=>match ops[i]? with
  |none=>False
  |some o=>gu sk ops o env (fun env=>Cz P o.op env S (fun v S'=>Φ i S' (Nx P ops X rest (CA sk o.dst false) (Bt env o.dst v) S' Φ K)) X)
   (fun env=>Nx P ops X rest (CA sk o.dst true) (Bt env o.dst (.v undef)) S Φ K)
 |.n is rest,sk,env,S,Φ,K=>Jo P ops env is fun os=>UA os S fun ids S'=>Nx P ops X rest (skN (is.map (J7 ops)) sk) (Mr (is.map (J7 ops)) ids env) S' Φ K
 |.s i j rest,sk,env,S,Φ,K=>match ops[i]? with
  |none=>False
  |some oi=>match ops[j]? with
   |none=>False
   |some oj=>Cz P oi.op env S (fun _ S'=>Φ i S' (Cz P oj.op env S' (fun _ S'=>Φ j S' (Nx P ops X rest sk env S' Φ K)) X)) X∧
    Cz P oj.op env S (fun _ S'=>Φ j S' (Cz P oi.op env S' (fun _ S'=>Φ i S' (Nx P ops X rest sk env S' Φ K)) X)) X
 |.c i j A B,sk,env,S,Φ,K=>match ops[i]? with
  |none=>False
  |some oi=>match ops[j]? with
   |none=>False
   |some oj=>Cz P oi.op env S (fun v S'=>Φ i S' (Nx P ops X A (CA sk oi.dst false) (Bt env oi.dst v) S' Φ K)) X∧
    Cz P oj.op env S (fun v S'=>Nx P ops X B (CA sk oj.dst false) (Bt env oj.dst v) S' Φ K) X
def early(ops:Array Oper)(qs:List Nat)(j:Nat):Bool:=qs.contains j || match ops[j]? with|some o=>MC o.op && o.guard.isNone|none=>false
def HS(o:Oper):Nat:=o.after.toList.foldl (fun m e=>match Region.binds .any e with|true=>m ||| (1 <<< e.on)|false=>m) 0
def UG:List Bool→Nat→Nat→Nat
 |[],_,D=>D
 |b :: bs,k,D=>UG bs (k+1) (match b with|true=>D ||| (1 <<< k)|false=>D)
def Mt(i:Nat):List Nat→Nat→Nat→Nat
 |[],_,D=>D
 |a :: as,k,D=>Mt i as (k+1) (match Nat.beq k i with|true=>D|false=>match Nat.beq (a &&& D) a with|true=>D ||| (1 <<< k)|false=>D)
def mO(ops:Array Oper)(qs:List Nat)(i:Nat)(listed:Array Bool)(D:Nat):List Nat→Nat→Bool
 |[],_=>true
 |a :: as,k=>(!listed.getD k false || D.testBit k) && ((Nat.beq k i || (D.testBit k || !Nat.beq (a &&& D) a)) && ((!D.testBit k || (listed.getD k true || early ops qs k)) && mO ops qs i listed D as (k+1)))
def calm(ops:Array Oper)(am:List Nat)(qs:List Nat)(i:Nat)(listed:Array Bool):Bool:=
 let D:=Mt i am 0 (Mt i am 0 (UG listed.toList 0 0))
 !D.testBit i && mO ops qs i listed D am 0
def aY(i:Nat)(listed:Array Bool)(D:Nat):List Nat→Nat→Bool
 |[],_=>true
 |a :: as,k=>(!listed.getD k false || D.testBit k) && ((Nat.beq k i || (D.testBit k || !Nat.beq (a &&& D) a)) && aY i listed D as (k+1))
def P5(ops:Array Oper)(i:Nat):Bool:=match ops[i]? with|some o=>o.guard.isNone && o.dst.isNone|none=>false
def U4(ops:Array Oper)(i:Nat):Bool:=match ops[i]? with|some o=>MC o.op && o.guard.isNone|none=>false
def sK(ops:Array Oper)(i:Nat):Bool:=match ops[i]? with|some o=>o.guard.isNone|none=>false
def DV:St→Nat
 |.e=>0
 |.n is r=>is.length+DV r
 |.s _ _ r=>DV r+2
 |.q _ r=>DV r+1
 |.l _ _ r=>DV r+1
 |.k _ r=>DV r+1
 |.c _ _ A _=>DV A+1
def CM(ops:Array Oper)(am:List Nat)(qs:List Nat):St→Array Bool→Bool
 |.c i j A B,listed=>Region.ready .any ops listed == [i,j] && (!qs.contains i && (!qs.contains j && (sK ops i && (U4 ops j && (Nat.beq (DV A) (DV B) && (CM ops am qs A (listed.setIfInBounds i true) && CM ops am qs B (listed.setIfInBounds j true)))))))
 |.e,listed=>(Region.ready .any ops listed).isEmpty
 |.q i rest,listed=>(Region.ready .any ops listed).contains i && (Region.free .any ops listed i && (qs.contains i && (calm ops am qs i listed && CM ops am qs rest (listed.setIfInBounds i true))))
 |.l i D rest,listed=>(Region.ready .any ops listed).contains i && (Region.free .any ops listed i && (qs.contains i && (aY i listed D am 0 && CM ops am qs rest (listed.setIfInBounds i true))))
 |.k i rest,listed=>Region.ready .any ops listed == [i] && (!qs.contains i && CM ops am qs rest (listed.setIfInBounds i true))
 |.n is rest,listed=>is.all (fun i=>(Region.ready .any ops listed).contains i && (!qs.contains i && (match ops[i]? with|some o=>MC o.op && o.guard.isNone|none=>false))) &&
    (is.all (fun j=>(Region.ready .any ops (B5 (is.erase j) listed)).all (· == j)) && (decide is.Nodup &&
    (is.all (fun i=>is.all fun j=>i == j || (match ops[i]?,ops[j]? with|some oi,some oj=>oi.apart ops oj|_,_=>false)) && CM ops am qs rest (B5 is listed))))
 |.s i j rest,listed=>Region.ready .any ops listed == [i,j] && (!qs.contains i && (!qs.contains j && (Region.ready .any ops (listed.setIfInBounds i true) == [j] && (Region.ready .any ops (listed.setIfInBounds j true) == [i] &&
    (P5 ops i && (P5 ops j && CM ops am qs rest ((listed.setIfInBounds i true).setIfInBounds j true)))))))
def Ev(ops:Array Oper)(am:List Nat)(qs:List Nat)(wr:List Nat):Nat→Array Bool→St
 |0,_=>.e
 |n+1,listed =>
  let r:=Region.ready .any ops listed
  match r.filter (fun i=>!wr.contains i)with
  |i :: _=>match calm ops am qs i listed with
   |true=>.q i (Ev ops am qs wr n (listed.setIfInBounds i true))
   |false=>.l i (Mt i am 0 (Mt i am 0 (UG listed.toList 0 0))) (Ev ops am qs wr n (listed.setIfInBounds i true))
  |[]=>match r with
   |[]=>.e
   |[i]=>.k i (Ev ops am qs wr n (listed.setIfInBounds i true))
   |[i,j]=>match P5 ops i with
    |true=>.s i j (Ev ops am qs wr n ((listed.setIfInBounds i true).setIfInBounds j true))
    |false=>match U4 ops i,U4 ops j with
     |false,true=>.c i j (Ev ops am qs wr n (listed.setIfInBounds i true)) (Ev ops am qs wr n (listed.setIfInBounds j true))
     |true,false=>.n [i,j] .e
     |_,_=>.n [i,j] (Ev ops am qs wr n (B5 [i,j] listed))
   |is=>.n is (Ev ops am qs wr n (B5 is listed))
def xV(hs:List Nat):Op→Bool
 |.call { callee:=.value (.func f),.. }=>hs.contains f
 |.call { callee:=.value _,.. }=>hs.contains 0
 |.buildSlice _ _ _=>hs.contains 1
 |_=>false
def XQ(hs:List Nat)(op:Op):Bool:=Uv op && !xV hs op
def VD(hs:List Nat)(ops:Array Oper):List Nat:=(List.range ops.size).filter fun i=>match ops[i]? with|some o=>!XQ hs o.op|none=>false
def NC:St→List Nat
 |.e=>[]
 |.q i r=>i :: NC r
 |.l i _ r=>i :: NC r
 |.k _ r=>NC r
 |.n _ r=>NC r
 |.s _ _ r=>NC r
 |.c _ _ A B=>NC A++NC B
def OO(hs:List Nat)(ops:Array Oper):Option (St):=
 let wr:=VD hs ops
 let pl:=Ev ops (ops.toList.map HS) ((List.range ops.size).filter fun i=>!wr.contains i) wr ops.size (Array.replicate ops.size false)
 match DV pl == ops.size && CM ops (ops.toList.map HS) (NC pl) pl (Array.replicate ops.size false)with
 |true=>some pl
 |false=>none
def Ag8(P:Program)(ops:Array Oper)(X:AV→Aa→Prop)(o:Oper)(env:Env)(S:Aa)(k:AV→Aa→Prop):Prop:=
 ∃ t,Ck ops env o=some t∧gd t (∃ k',Cz P o.op env S k' X∧∀ v S',k' v S'→k v S') (k (.v undef) S)
def aW(P:Program)(ops:Array Oper)(X:AV→Aa→Prop)(qs:List Nat)(Φ:Nat→Aa→Prop)(K:Env→Aa→Prop):Nat→Array Bool→Env→Aa→Prop
 |0,listed,env,S=>Region.ready .any ops listed = []∧K env S
 |n+1,listed,env,S=>(Region.ready .any ops listed = []→K env S)∧∀ i,i∈Region.ready .any ops listed→∃ o,ops[i]? = some o∧
   gd (qs.contains i) (∃ v,Yd P ops S o v env∧aW P ops X qs Φ K n (listed.setIfInBounds i true) (Bt env o.dst v) S)
    (Ag8 P ops X o env S fun v S'=>(Am S S'∨Φ i S')∧aW P ops X qs Φ K n (listed.setIfInBounds i true) (Bt env o.dst v) S')
theorem Aa0{P:Program}{o:Oper}{env:Env}{S:Aa}{K X:AV→Aa→Prop}{w:World}{g:Gh}{a:Act}(h:Cz P o.op env S K X)(hh:Ba P w g S)(he:BX D w g env a){next:Act→World→Prop}{Q:Exit→Act→World→Prop}
    (hn:∀ v S' w' g' y,Ba P w' g' S'→Mv w g w' g'→R w' g' v y→K v S'→next (a.put o.dst y) w') (hx:∀ u S' w' g' y,Ba P w' g' S'→Mv w g w' g'→R w' g' u y→X u S'→Q (.panic [{ v:=y,recovered:=false }]) a w'):o.wp P a w next Q:=
 CL h D w g a next Q hh he hn hx
theorem R1{P:Program}{ops:Array Oper}{qs:List Nat}{Q:AX→Env→Aa→Prop}{w0:World}{g0:Gh}{N:Nat}:∀(n:Nat) (listed:Array Bool) (env:Env) (S:Aa) (w:World) (g:Gh) (a:Act),Ba P w g S→BX D w g env a→Mv w0 g0 w g→env.n=N→
    aW P ops (fun u S'=>Q (.pan u) (P2 N) S') qs (fun _ _=>True) (fun env' S'=>Q .normal env' S') n listed env S→wpAny P .any ops (LB P D w0 g0 Q) n listed a w
 |0,_,env,S,w,g,a,hh,he,m,hN,h=>⟨h.1,.normal,env,S,g,hh,he,m,trivial,h.2⟩
 |n+1,listed,env,S,w,g,a,hh,he,m,hN,h=>by
  refine⟨fun h0=>⟨.normal,env,S,g,hh,he,m,trivial,h.1 h0⟩,fun i hi=>?_⟩
  obtain⟨o,ho,hg⟩:=h.2 i hi
  unfold wpOp
  simp only[ho]
  rcases Dc hg with⟨_,v,⟨t,ht,hy⟩,hn⟩|⟨_,t,ht,hy⟩
  ·have hw:=B3 he ht
   rcases Dc hy with⟨rfl,hy'⟩|⟨rfl,hy'⟩
   ·rw[if_pos hw]
    refine .inl (CL hy' D w g a _ _ hh he (fun u S' w' g' y h1 h2 h3 h4=>?_) (fun u S' w' g' y h1 h2 h3 h4=>h4.elim))
    obtain⟨rfl,rfl⟩:=h4
    exact R1 n _ _ _ w' g' _ h1 ((he.mv h2).put o.dst h3) (m.trans h2) ((Mf _ _ _).trans hN) hn
   ·rw[if_neg (by rw[hw];simp)]
    subst hy'
    exact R1 n _ _ _ w g _ hh (he.put o.dst (.v _)) m ((Mf _ _ _).trans hN) hn
  ·have hw:=B3 he ht
   rcases Dc hy with⟨rfl,hy'⟩|⟨rfl,hy'⟩
   ·rw[if_pos hw]
    obtain⟨k',hy',hk'⟩:=hy'
    exact .inl (CL hy' D w g a _ _ hh he (fun u S' w' g' y h1 h2 h3 h4=>R1 n _ _ _ w' g' _ h1 ((he.mv h2).put o.dst h3) (m.trans h2) ((Mf _ _ _).trans hN) (hk' _ _ h4).2) (fun u S' w' g' y h1 h2 h3 h4=>⟨.pan u,P2 N,S',g',h1,⟨hN ▸ he.size,fun k=>.j _,he.defers⟩,m.trans h2,⟨y,rfl,h3⟩,h4⟩))
   ·rw[if_neg (by rw[hw];simp)]
    exact R1 n _ _ _ w g _ hh (he.put o.dst (.v _)) m ((Mf _ _ _).trans hN) hy'.2
structure Calm (ops:Array Oper) (qs:List Nat) (i:Nat) (listed D:Array Bool):Prop where
 size:D.size=listed.size
 sub:∀ k,listed.getD k false=true→D.getD k false=true
 end_:∀ k,k∈Region.ready .any ops D→k=i
 ear:∀ k,k<ops.size→D.getD k false=true→listed.getD k true=true∨early ops qs k=true
theorem LN{l:Array Bool}{k:Nat}(h:k<l.size)(a b:Bool):l.getD k a=l.getD k b:=by simp[Array.getD_eq_getD_getElem?,h]
theorem Calm.ready{ops:Array Oper}{qs:List Nat}{i:Nat}{listed D:Array Bool}(c:Calm ops qs i listed D)(hs:listed.size=ops.size){j:Nat}(hj:j∈Region.ready .any ops listed)(hne:j≠i):
    early ops qs j=true∧Calm ops qs i (listed.setIfInBounds j true) D:=by
 obtain⟨hjun,oj,hoj,hall⟩:=mem_ready.1 hj
 have hlt:j<ops.size:=(Array.getElem?_eq_some_iff.1 hoj).1
 have hD:D.getD j false=true:=by
  cases hb:D.getD j false with
  |true=>rfl
  |false =>
   exact absurd (c.end_ j (mem_ready.2 ⟨by rw[LN (by rw[c.size,hs];exact hlt) true false];exact hb,oj,hoj,fun e he hb=>c.sub _ (hall e he hb)⟩)) hne
 have he:early ops qs j=true:=by
  rcases c.ear j hlt hD with h|h
  ·rw[hjun]at h;cases h
  ·exact h
 refine⟨he,⟨by simpa using c.size,fun k hk=>?_,c.end_,fun k hk hd=>?_⟩⟩
 ·by_cases e:j=k
  ·subst e;exact hD
  ·rw[getD_set_ne false e]at hk
   exact c.sub k hk
 ·by_cases e:j=k
  ·subst e;exact .inr he
  ·rw[getD_set_ne true e]
   exact c.ear k hk hd
theorem Kl{P:Program}{X:AV→Aa→Prop}{ops:Array Oper}{qs:List Nat}{Φ Ψ:Nat→Aa→Prop}{K:Env→Aa→Prop}(hΦ:∀ i S,Φ i S→Ψ i S):∀(n:Nat) (listed:Array Bool) (env:Env) (S:Aa),aW P ops X qs Φ K n listed env S→aW P ops X qs Ψ K n listed env S
 |0,_,_,_,h=>h
 |n+1,listed,env,S,h=>by
  refine⟨h.1,fun i hi=>?_⟩
  obtain⟨o,ho,hg⟩:=h.2 i hi
  refine⟨o,ho,?_⟩
  cases hq:qs.contains i with
  |true =>
   rw[hq]at hg
   obtain⟨v,h1,h2⟩:=hg
   exact⟨v,h1,Kl hΦ n _ _ _ h2⟩
  |false =>
   rw[hq]at hg
   obtain⟨t,ht,hy⟩:=hg
   refine⟨t,ht,?_⟩
   cases t with
   |true =>
    rw[Bf]at hy ⊢
    obtain⟨k',h1,h2⟩:=hy
    exact⟨k',h1,fun v S' hv=>⟨(h2 v S' hv).1.imp id (hΦ _ _),Kl hΦ n _ _ _ (h2 v S' hv).2⟩⟩
   |false =>
    rw[A2]at hy ⊢
    exact⟨hy.1.imp id (hΦ _ _),Kl hΦ n _ _ _ hy.2⟩
theorem R3{P:Program}{X:AV→Aa→Prop}{ops:Array Oper}{qs:List Nat}{Φ:Nat→Aa→Prop}{K:Env→Aa→Prop}{i:Nat}{oi:Oper}{v:AV}(hi:ops[i]? = some oi)(hq:qs.contains i=true){D:Array Bool}:∀(n:Nat) (listed:Array Bool) (env:Env) (S:Aa),
    listed.size=ops.size→Calm ops qs i listed D→
    (∀ j oj,ops[j]? = some oj→j≠i→listed.getD j true=false→(∀ e∈oj.after,Region.binds .any e=true→e.on≠i)→oi.apart ops oj=true)→
    i∈Region.ready .any ops listed→(∀ T,Am S T→Yd P ops T oi v env)→aW P ops X qs Φ K n (listed.setIfInBounds i true) (Bt env oi.dst v) S→aW P ops X qs Φ K (n+1) listed env S:=by
 intro n
 induction n with
 |zero =>
  intro listed env S hs hc hfree hr hy H
  refine⟨fun h=>(by rw[h]at hr;cases hr),fun j hj=>?_⟩
  by_cases hji:j=i
  ·subst hji
   exact⟨oi,hi,by rw[hq];exact⟨v,hy S (Am.refl S),H⟩⟩
  ·have:=ready_mono hj hji
   rw[H.1]at this
   cases this
 |succ n ih =>
  intro listed env S hs hc hfree hr hy H
  refine⟨fun h=>(by rw[h]at hr;cases hr),fun j hj=>?_⟩
  by_cases hji:j=i
  ·subst hji
   exact⟨oi,hi,by rw[hq];exact⟨v,hy S (Am.refl S),H⟩⟩
  ·obtain⟨oj,hoj,Hj⟩:=H.2 j (ready_mono hj hji)
   obtain⟨hjun,oj',hoj',hall⟩:=mem_ready.1 hj
   rw[hoj]at hoj'
   cases hoj'
   have hnot:∀ e∈oj.after,Region.binds .any e=true→e.on≠i:=fun e he hb heq=>by
    have h1:=hall e he hb
    have h0:=(mem_ready.1 hr).1
    rw[heq]at h1
    rcases Nat.lt_or_ge i listed.size with h'|h'
    ·simp[h']at h0 h1;rw[h0]at h1;cases h1
    ·simp[Array.getElem?_eq_none h']at h1
   obtain⟨h1,h2,h3⟩:=Oper.apart_spec (hfree j oj hoj hji hjun hnot)
   obtain⟨hej,hcj⟩:=hc.ready hs hj hji
   have hfree':∀ k ok,ops[k]? = some ok→k≠i→(listed.setIfInBounds j true).getD k true=false→(∀ e∈ok.after,Region.binds .any e=true→e.on≠i)→oi.apart ops ok=true:=fun k ok hk hki hun hno=>by
    refine hfree k ok hk hki ?_ hno
    by_cases hjk:j=k
    ·subst hjk;exact hjun
    ·rw[getD_set_ne true hjk]at hun;exact hun
   refine⟨oj,hoj,?_⟩
   have hgo:∀(u:AV) (S':Aa),Am S S'→aW P ops X qs Φ K n ((listed.setIfInBounds i true).setIfInBounds j true) (Bt (Bt env oi.dst v) oj.dst u) S'→aW P ops X qs Φ K (n+1) (listed.setIfInBounds j true) (Bt env oj.dst u) S':=fun u S' hk hA=>by
    refine ih _ _ S' (by simpa using hs) hcj hfree' (ready_mono hr (Ne.symm hji)) (fun T hT=>(Yd.Bt h3).2 (hy T (hk.trans hT))) ?_
    rw[Array.setIfInBounds_comm _ _ hji,←H0 v u h2]
    exact hA
   cases hqj:qs.contains j with
   |true =>
    rw[hqj]at Hj
    obtain⟨u,hyj,Hj⟩:=Hj
    exact⟨u,(Yd.Bt h1).1 hyj,hgo u S (Am.refl S) Hj⟩
   |false =>
    rw[hqj]at Hj
    have hnew:MC oj.op=true∧oj.guard=none:=by
     simp only[early,hqj,hoj,Bool.false_or,Bool.and_eq_true,Option.isNone_iff_eq_none]at hej
     exact hej
    obtain⟨t,ht,hs'⟩:=Hj
    rw[IW h1]at ht
    have htt:t=true:=by
     have:Ck ops env oj=some true:=by simp[Ck,hnew.2]
     rw[this]at ht;cases ht;rfl
    subst htt
    rw[Bf]at hs'
    obtain⟨k',hs',hk'⟩:=hs'
    obtain⟨x,hx1,hx2⟩:=NM hnew.1 hs'
    have hx2:=(hk' _ _ hx2).2
    rw[Jp (EO h1)]at hx1
    refine⟨true,ht,?_⟩
    rw[Bf]
    exact⟨_,KD (K:=fun v S'=>(Am S S'∨Φ j S')∧aW P ops X qs Φ K (n+1) (listed.setIfInBounds j true) (Bt env oj.dst v) S') hx1 ⟨.inl ((Am.refl S).new _),hgo _ _ ((Am.refl S).new _) hx2⟩,fun _ _ h=>h⟩
structure R5 (ops:Array Oper) (i:Nat) (listed:Array Bool) (D:Nat):Prop where
 sub:∀ k,listed.getD k false=true→D.testBit k=true
 shut:∀ k o,ops[k]? = some o→k≠i→(∀ e∈o.after,Region.binds .any e=true→D.testBit e.on=true)→D.testBit k=true
theorem R5.ready{ops:Array Oper}{i:Nat}{listed:Array Bool}{D:Nat}(c:R5 ops i listed D){j:Nat}(hj:j∈Region.ready .any ops listed)(hne:j≠i):D.testBit j=true∧R5 ops i (listed.setIfInBounds j true) D:=by
 obtain⟨hjun,oj,hoj,hall⟩:=mem_ready.1 hj
 have hD:=c.shut j oj hoj hne fun e he hb=>c.sub _ (hall e he hb)
 refine⟨hD,fun k hk=>?_,c.shut⟩
 by_cases e:j=k
 ·subst e;exact hD
 ·rw[getD_set_ne false e]at hk
  exact c.sub k hk
theorem Vw{P:Program}{X:AV→Aa→Prop}{ops:Array Oper}{qs:List Nat}{Φ:Nat→Aa→Prop}{K:Env→Aa→Prop}{i:Nat}{oi:Oper}{v:AV}{E:Env}{D:Nat}(hi:ops[i]? = some oi)(hq:qs.contains i=true)(hg:oi.guard=none):∀(n:Nat) (listed:Array Bool) (env:Env) (S:Aa),R5 ops i listed D→
    (∀ x,x∈oi.op.operands→ev env x=ev E x)→
    (∀ j oj,ops[j]? = some oj→j≠i→listed.getD j true=false→(∀ e∈oj.after,Region.binds .any e=true→e.on≠i)→oi.apart ops oj=true)→
    i∈Region.ready .any ops listed→(∀ T,Am S T→Yd P ops T oi v env)→aW P ops X qs (fun j S=>Φ j S∧(D.testBit j=true→OF P oi.op E v S)) K n (listed.setIfInBounds i true) (Bt env oi.dst v) S→aW P ops X qs Φ K (n+1) listed env S:=by
 intro n
 induction n with
 |zero =>
  intro listed env S hD hE hfree hr hy H
  refine⟨fun h=>(by rw[h]at hr;cases hr),fun j hj=>?_⟩
  by_cases hji:j=i
  ·subst hji
   exact⟨oi,hi,by rw[hq];exact⟨v,hy S (Am.refl S),H⟩⟩
  ·have:=ready_mono hj hji
   rw[H.1]at this
   cases this
 |succ n ih =>
  intro listed env S hD hE hfree hr hy H
  refine⟨fun h=>(by rw[h]at hr;cases hr),fun j hj=>?_⟩
  by_cases hji:j=i
  ·subst hji
   exact⟨oi,hi,by rw[hq];exact⟨v,hy S (Am.refl S),Kl (fun _ _ h=>h.1) _ _ _ _ H⟩⟩
  ·obtain⟨oj,hoj,Hj⟩:=H.2 j (ready_mono hj hji)
   obtain⟨hjun,oj',hoj',hall⟩:=mem_ready.1 hj
   rw[hoj]at hoj'
   cases hoj'
   have hnot:∀ e∈oj.after,Region.binds .any e=true→e.on≠i:=fun e he hb heq=>by
    have h1:=hall e he hb
    have h0:=(mem_ready.1 hr).1
    rw[heq]at h1
    rcases Nat.lt_or_ge i listed.size with h'|h'
    ·simp[h']at h0 h1;rw[h0]at h1;cases h1
    ·simp[Array.getElem?_eq_none h']at h1
   obtain⟨h1,h2,h3⟩:=Oper.apart_spec (hfree j oj hoj hji hjun hnot)
   have hfree':∀ k ok,ops[k]? = some ok→k≠i→(listed.setIfInBounds j true).getD k true=false→(∀ e∈ok.after,Region.binds .any e=true→e.on≠i)→oi.apart ops ok=true:=fun k ok hk hki hun hno=>by
    refine hfree k ok hk hki ?_ hno
    by_cases hjk:j=k
    ·subst hjk;exact hjun
    ·rw[getD_set_ne true hjk]at hun;exact hun
   refine⟨oj,hoj,?_⟩
   have hgo:∀(u:AV) (S':Aa),(∀ T,Am S' T→Yd P ops T oi v env)→aW P ops X qs (fun j S=>Φ j S∧(D.testBit j=true→OF P oi.op E v S)) K n ((listed.setIfInBounds i true).setIfInBounds j true) (Bt (Bt env oi.dst v) oj.dst u) S'→aW P ops X qs Φ K (n+1) (listed.setIfInBounds j true) (Bt env oj.dst u) S':=fun u S' hk hA=>by
    refine ih _ _ S' (hD.ready hj hji).2 (fun x hx=>(EO h3 x hx).trans (hE x hx)) hfree' (ready_mono hr (Ne.symm hji)) (fun T hT=>(Yd.Bt h3).2 (hk T hT)) ?_
    rw[Array.setIfInBounds_comm _ _ hji,←H0 v u h2]
    exact hA
   cases hqj:qs.contains j with
   |true =>
    rw[hqj]at Hj
    obtain⟨u,hyj,Hj⟩:=Hj
    exact⟨u,(Yd.Bt h1).1 hyj,hgo u S hy Hj⟩
   |false =>
    rw[hqj]at Hj
    obtain⟨t,ht,hs'⟩:=Hj
    rw[IW h1]at ht
    have hall':∀(u:AV) (S':Aa),((Am S S'∨(Φ j S'∧(D.testBit j=true→OF P oi.op E v S')))∧aW P ops X qs (fun j S=>Φ j S∧(D.testBit j=true→OF P oi.op E v S)) K n ((listed.setIfInBounds i true).setIfInBounds j true) (Bt (Bt env oi.dst v) oj.dst u) S')→
        (Am S S'∨Φ j S')∧aW P ops X qs Φ K (n+1) (listed.setIfInBounds j true) (Bt env oj.dst u) S':=fun u S' ⟨h4,h5⟩=>by
     refine⟨h4.imp id (·.1),hgo u S' (fun T hT=>?_) h5⟩
     rcases h4 with h4|h4
     ·exact hy T (h4.trans hT)
     ·refine⟨true,by simp[Ck,hg],?_⟩
      rw[Bf,IX hE]
      exact h4.2 (hD.ready hj hji).1 T hT
    refine⟨t,ht,?_⟩
    cases t with
    |true =>
     rw[Bf]at hs' ⊢
     obtain⟨k',hs',hk'⟩:=hs'
     rw[IX (EO h1)]at hs'
     exact⟨k',hs',fun u S' hu=>hall' u S' (hk' u S' hu)⟩
    |false =>
     rw[A2]at hs' ⊢
     exact hall' _ _ hs'
theorem I0{l:Array Bool}:∀{is:List Nat} {k:Nat} {d:Bool},k<l.size→(B5 is l).getD k d=(is.contains k || l.getD k d)
 |[],k,d,h=>by simp[B5]
 |i :: is,k,d,h=>by
  rw[B5,I0 (by simpa using h)]
  by_cases e:i=k
  ·subst e;simp[h]
  ·have e':¬ k=i:=fun q=>e q.symm
   rw[getD_set_ne d e]
   simp[e',List.contains_cons]
theorem Fg:∀{is:List Nat} {l:Array Bool},(B5 is l).size=l.size
 |[],_=>rfl
 |i :: is,l=>by rw[B5,Fg];simp
theorem Aa2{l:Array Bool}:∀{is:List Nat} {k:Nat} {d:Bool},l.size≤k→(B5 is l).getD k d=d
 |is,k,d,h=>by
  have:(B5 is l).size≤k:=by rw[Fg];exact h
  simp[Array.getD_eq_getD_getElem?,Array.getElem?_eq_none this]
theorem Qy:∀{is:List Nat} {l:Array Bool} {i:Nat},B5 is (l.setIfInBounds i true)=(B5 is l).setIfInBounds i true
 |[],l,i=>rfl
 |j :: is,l,i=>by
  rw[B5,B5,←Qy]
  by_cases e:i=j
  ·subst e;rfl
  ·rw[Array.setIfInBounds_comm _ _ e]
theorem Gq:∀{is:List Nat} {l:Array Bool} {i:Nat},i∈is→B5 (is.erase i) (l.setIfInBounds i true)=B5 is l
 |j :: is,l,i,h=>by
  by_cases e:j=i
  ·subst e;simp[B5]
  ·have hi:i∈is:=by
     rcases List.mem_cons.1 h with h|h
     ·exact absurd h.symm e
     ·exact h
   rw[List.erase_cons_tail (by simpa using e),B5,B5,←Gq (l:=l.setIfInBounds j true) hi,Array.setIfInBounds_comm _ _ e]
theorem OL{ops:Array Oper}{l l':Array Bool}{j:Nat}(hs:l.size=ops.size)(hs':l'.size=ops.size)(hsub:∀ k,l.getD k false=true→l'.getD k false=true)(hj:j∈Region.ready .any ops l)(hno:l'.getD j false=false):j∈Region.ready .any ops l':=by
 obtain⟨_,o,ho,hall⟩:=mem_ready.1 hj
 have hlt:j<ops.size:=(Array.getElem?_eq_some_iff.1 ho).1
 exact mem_ready.2 ⟨by rw[LN (by rw[hs'];exact hlt) true false];exact hno,o,ho,fun e he hb=>hsub _ (hall e he hb)⟩
structure Xn (P:Program) (ops:Array Oper) (qs:List Nat) (is:List Nat) (listed:Array Bool):Prop where
 size:listed.size=ops.size
 nodup:is.Nodup
 rdy:∀ i∈is,i∈Region.ready .any ops listed
 last:∀ j∈is,∀ k,k∈Region.ready .any ops (B5 (is.erase j) listed)→k=j
 op:∀ i∈is,qs.contains i=false∧∃ o,ops[i]? = some o∧MC o.op=true∧o.guard=none
 apart:∀ i∈is,∀ j∈is,i≠j→∀ oi oj,ops[i]? = some oi→ops[j]? = some oj→oi.apart ops oj=true
theorem Xn.only{P:Program}{ops:Array Oper}{qs:List Nat}{is:List Nat}{listed:Array Bool}(h:Xn P ops qs is listed)(hne:is≠[]){k:Nat}(hk:k∈Region.ready .any ops listed):k∈is:=by
 obtain⟨j,hj⟩:=List.exists_mem_of_ne_nil is hne
 by_cases hm:k∈is
 ·exact hm
 ·have hkl:k<ops.size:=(by obtain⟨_,o,ho,_⟩:=mem_ready.1 hk;exact(Array.getElem?_eq_some_iff.1 ho).1)
  have h0:=(mem_ready.1 hk).1
  have hne':k∉is.erase j:=fun q=>hm (List.mem_of_mem_erase q)
  have:=h.last j hj k (OL h.size (by rw[Fg];exact h.size) (fun x hx=>by
   rcases Nat.lt_or_ge x listed.size with hx'|hx'
   ·rw[I0 hx',hx];simp
   ·simp[Array.getD_eq_getD_getElem?,Array.getElem?_eq_none hx']at hx) hk (by
    have hks:k<listed.size:=by rw[h.size];exact hkl
    rw[I0 hks,LN hks false true,h0];simpa using hne'))
  subst this
  exact hj
theorem Xn.step{P:Program}{ops:Array Oper}{qs:List Nat}{is:List Nat}{listed:Array Bool}(h:Xn P ops qs is listed){i:Nat}(hi:i∈is):Xn P ops qs (is.erase i) (listed.setIfInBounds i true) where
 size:=by simpa using h.size
 nodup:=h.nodup.erase i
 rdy j hj:=ready_mono (h.rdy j (List.mem_of_mem_erase hj)) (fun e=>by subst e;exact(h.nodup.mem_erase_iff.1 hj).1 rfl)
 last j hj k hk:=by
  have hj':=h.nodup.mem_erase_iff.1 hj
  have hi':i∈is.erase j:=h.nodup.mem_erase_iff.2 ⟨Ne.symm hj'.1,hi⟩
  rw[List.erase_comm,Gq hi']at hk
  exact h.last j hj'.2 k hk
 op j hj:=h.op j (List.mem_of_mem_erase hj)
 apart a ha b hb:=h.apart a (List.mem_of_mem_erase ha) b (List.mem_of_mem_erase hb)
theorem Mq{d:Option Tmp}{x:Nat}:∀(l1:List (Option Tmp)) (l2:List (Option Tmp)) (a b:List Nat) (env:Env),a.length=l1.length→(∀ e∈l1,∀ t,d=some t→e≠some t)→
    Mr (l1++d :: l2) (a++x :: b) env=Mr (l1++l2) (a++b) (Bt env d (.p x 0 0))
 |[],l2,a,b,env,hl,_=>by
  obtain rfl:=List.eq_nil_of_length_eq_zero hl
  rfl
 |d1 :: l1,l2,a,b,env,hl,hd=>by
  match a,hl with
  |a1 :: a,hl =>
   have hne:=hd d1 (by simp)
   show Mr (l1++d :: l2) (a++x :: b) (Bt env d1 (.p a1 0 0))=Mr (l1++l2) (a++b) (Bt (Bt env d (.p x 0 0)) d1 (.p a1 0 0))
   rw[Mq l1 l2 a b _ (by simpa using hl) (fun e he=>hd e (by simp[he]))]
   rw[H0 (x:=d) (y:=d1) (.p x 0 0) (.p a1 0 0) (fun t ht=>hne t ht)]
theorem Le{P:Program}{ops:Array Oper}{env:Env}:∀{is:List Nat} {os:List Bw},Fl P ops env is=some os→os.length=is.length∧∀(k i:Nat),is[k]? = some i→∃ o x,ops[i]? = some o∧newObj P o.op env=some x∧os[k]? = some x
 |[],os,h=>by cases h;exact⟨rfl,fun k i h=>by simp at h⟩
 |i :: is,os,h=>by
  simp only[Fl]at h
  split at h
  ·rename_i o ho
   split at h
   ·rename_i x hx
    split at h
    ·rename_i xs hxs
     cases h
     obtain⟨h1,h2⟩:=Le hxs
     refine⟨by simp[h1],fun k j hj=>?_⟩
     cases k with
     |zero=>cases hj;exact⟨o,x,ho,hx,rfl⟩
     |succ k=>exact h2 k j (by simpa using hj)
    ·cases h
   ·cases h
  ·cases h
theorem MD{P:Program}{ops:Array Oper}{env:Env}:∀{is:List Nat} {os:List Bw},os.length=is.length→(∀(k i:Nat) (x:Bw),is[k]? = some i→os[k]? = some x→∃ o,ops[i]? = some o∧newObj P o.op env=some x)→Fl P ops env is=some os
 |[],os,hl,_=>by obtain rfl:=List.eq_nil_of_length_eq_zero hl;rfl
 |i :: is,os,hl,h=>by
  match os,hl with
  |x :: xs,hl =>
   obtain⟨o,ho,hx⟩:=h 0 i x rfl rfl
   have:=MD (P:=P) (env:=env) (is:=is) (os:=xs) (by simpa using hl) (fun k j y hj hy=>h (k+1) j y (by simpa using hj) (by simpa using hy))
   simp[Fl,ho,hx,this]
theorem rN{P:Program}{X:AV→Aa→Prop}{ops:Array Oper}{qs:List Nat}{Φ:Nat→Aa→Prop}{K:Env→Aa→Prop}(N:Nat):∀(m:Nat) (is:List Nat) (os:List Bw) (listed:Array Bool) (env:Env) (S:Aa),is.length=m→Xn P ops qs is listed→
    Fl P ops env is=some os→(∀ ids S',Vy S os ids S'→aW P ops X qs Φ K N (B5 is listed) (Mr (is.map (J7 ops)) ids env) S')→aW P ops X qs Φ K (N+m) listed env S:=by
 intro m
 induction m with
 |zero =>
  intro is os listed env S hl hr ho H
  obtain rfl:=List.eq_nil_of_length_eq_zero hl
  cases ho
  exact H [] S ⟨rfl,fun _ _=>rfl,rfl,List.nodup_nil,fun _ h=>(by cases h),fun _ h=>(by cases h),fun k id o h=>(by simp at h)⟩
 |succ m ih =>
  intro is os listed env S hl hr ho H
  have hne:is≠[]:=by rintro rfl;simp at hl
  refine⟨fun h0=>?_,fun i hi=>?_⟩
  ·obtain⟨j,hj⟩:=List.exists_mem_of_ne_nil is hne
   have:=hr.rdy j hj
   rw[h0]at this;cases this
  ·have him:=hr.only hne hi
   obtain⟨hqi,oi,hoi,hnew,hgd⟩:=hr.op i him
   refine⟨oi,hoi,?_⟩
   rw[hqi]
   obtain⟨l1,l2,rfl,hn1⟩:=List.eq_append_cons_of_mem him
   have hn2:i∉l2:=by
    have:=(List.nodup_append.1 hr.nodup).2.1
    exact(List.nodup_cons.1 this).1
   have her:(l1++i :: l2).erase i=l1++l2:=by rw[List.erase_append_right _ hn1];simp
   obtain⟨hol,hog⟩:=Le ho
   have hoL:os.length=l1.length+(l2.length+1):=by simpa using hol
   obtain⟨o1,x,ho1,hx1,hx2⟩:=hog l1.length i (by simp)
   rw[hoi]at ho1
   cases ho1
   have hos:os=os.take l1.length++x :: os.drop (l1.length+1):=by
    have hlt:l1.length<os.length:=by omega
    have hx3:os[l1.length]=x:=by rw[List.getElem?_eq_getElem hlt]at hx2;exact Option.some.inj hx2
    rw[←hx3,←List.drop_eq_getElem_cons,List.take_append_drop]
   generalize hA:os.take l1.length=A at hos
   generalize hB:os.drop (l1.length+1)=B at hos
   have hAl:A.length=l1.length:=by rw[←hA];simp;omega
   have hBl:B.length=l2.length:=by rw[←hB];simp;omega
   subst hos
   refine⟨true,by simp[Ck,hgd],?_⟩
   rw[Bf]
   refine⟨_,KD (K:=fun v S'=>(Am S S'∨Φ i S')∧aW P ops X qs Φ K (N+m) (listed.setIfInBounds i true) (Bt env oi.dst v) S') hx1 ⟨.inl ((Am.refl S).new _),?_⟩,fun _ _ h=>h⟩
   have hstep:=hr.step him
   rw[her]at hstep
   have hset:=Gq (l:=listed) him
   rw[her]at hset
   refine ih (l1++l2) (A++B) _ _ _ (by simp at hl ⊢;omega) hstep (MD (by simp[hAl,hBl]) (fun k j y hj hy=>?_)) (fun ids S' hN=>?_)
   ·have hjm:j∈l1++l2:=List.mem_of_getElem? hj
    have hji:j≠i:=fun e=>by subst e;rcases List.mem_append.1 hjm with h|h;exact hn1 h;exact hn2 h
    have hjis:j∈l1++i :: l2:=by rcases List.mem_append.1 hjm with h|h<;>simp[h]
    have hk:∃ k':Nat,(l1++i :: l2)[k']? = some j∧(A++x :: B)[k']? = some y:=by
     by_cases hkl:k<l1.length
     ·refine⟨k,?_,?_⟩
      ·rw[List.getElem?_append_left hkl]at hj ⊢;exact hj
      ·rw[List.getElem?_append_left (by omega)]at hy ⊢;exact hy
     ·refine⟨k+1,?_,?_⟩
      ·rw[List.getElem?_append_right (by omega)]at hj
       rw[List.getElem?_append_right (by omega),show k+1 - l1.length=(k - l1.length)+1 by omega];simpa using hj
      ·rw[List.getElem?_append_right (by omega)]at hy
       rw[List.getElem?_append_right (by omega),show k+1 - A.length=(k - A.length)+1 by omega];simpa using hy
    obtain⟨k',h1,h2⟩:=hk
    obtain⟨o,y',h3,h4,h5⟩:=hog k' j h1
    rw[h2]at h5
    cases h5
    refine⟨o,h3,?_⟩
    have hap:=(Oper.apart_spec (hr.apart i him j hjis (Ne.symm hji) oi o hoi h3)).1
    rw[Jp (EO hap)]
    exact h4
   ·rw[hset]
    have hlen:ids.length=l1.length+l2.length:=by rw[hN.len];simp[hAl,hBl]
    have hids:ids=ids.take l1.length++ids.drop l1.length:=(List.take_append_drop _ _).symm
    generalize hC:ids.take l1.length=C at hids
    generalize hE:ids.drop l1.length=E at hids
    have hCl:C.length=l1.length:=by rw[←hC];simp;omega
    have hEl:E.length=l2.length:=by rw[←hE];simp;omega
    subst hids
    have hdst:(Bt env oi.dst (.p S.n 0 0))=Bt env (J7 ops i) (.p S.n 0 0):=by simp[J7,hoi]
    rw[hdst,List.map_append,←Mq (l1.map (J7 ops)) (l2.map (J7 ops)) C E env (by simp[hCl]) ?_]
    ·have:=H (C++S.n :: E) S' ?_
     ·simpa using this
     ·have hlo:∀ id∈C++E,S.n+1≤id:=fun id h=>by simpa[Aa.new]using hN.lo id h
      refine⟨by rw[hN.n];simp[hAl,hBl,Aa.new];omega,fun q hq=>?_,by simp[hCl,hEl,hAl,hBl],?_,fun id h=>?_,fun id h=>?_,fun k id o h1 h2=>?_⟩
      ·rw[hN.Eh q (by simp[Aa.new];omega)]
       simp only[Aa.new]
       rw[if_neg (by omega)]
      ·have hnd:=hN.nodup
       rw[List.nodup_append]at hnd ⊢
       refine⟨hnd.1,List.nodup_cons.2 ⟨fun h=>?_,hnd.2.1⟩,fun p hp q hq=>?_⟩
       ·have:=hlo _ (List.mem_append_right _ h);omega
       ·rcases List.mem_cons.1 hq with rfl|hq
        ·intro e;subst e;have:=hlo _ (List.mem_append_left _ hp);omega
        ·exact hnd.2.2 p hp q hq
      ·rcases List.mem_append.1 h with h|h
       ·have:=hlo _ (List.mem_append_left _ h);omega
       ·rcases List.mem_cons.1 h with rfl|h
        ·exact Nat.le_refl _
        ·have:=hlo _ (List.mem_append_right _ h);omega
      ·have hSn:S.n<S'.n:=by rw[hN.n];simp[Aa.new];omega
       rcases List.mem_append.1 h with h|h
       ·exact hN.hi _ (List.mem_append_left _ h)
       ·rcases List.mem_cons.1 h with rfl|h
        ·exact hSn
        ·exact hN.hi _ (List.mem_append_right _ h)
      ·rcases Nat.lt_trichotomy k C.length with hk|hk|hk
       ·rw[List.getElem?_append_left hk]at h1
        rw[List.getElem?_append_left (by omega)]at h2
        exact hN.new k id o (by rw[List.getElem?_append_left hk];exact h1) (by rw[List.getElem?_append_left (by omega)];exact h2)
       ·subst hk
        simp at h1
        have:(A++x :: B)[C.length]? = some x:=by rw[hCl,←hAl];simp
        rw[this]at h2
        cases h2
        subst h1
        rw[hN.Eh _ (by simp[Aa.new])]
        simp[Aa.new]
       ·rw[List.getElem?_append_right (by omega),show k - C.length=(k - 1 - C.length)+1 by omega]at h1
        rw[List.getElem?_append_right (by omega),show k - A.length=(k - 1 - A.length)+1 by omega]at h2
        exact hN.new (k - 1) id o (by rw[List.getElem?_append_right (by omega)];simpa using h1) (by rw[List.getElem?_append_right (by omega)];simpa using h2)
    ·intro e he t ht hq
     obtain⟨j,hj,rfl⟩:=List.mem_map.1 he
     have hji:i≠j:=fun q=>by subst q;exact hn1 hj
     obtain⟨_,oj,hoj,_⟩:=hr.op j (by simp[hj])
     have:=(Oper.apart_spec (hr.apart i him j (by simp[hj]) hji oi oj hoi hoj)).2.1
     simp[J7,hoi]at ht
     simp[J7,hoj]at hq
     exact this t ht hq
theorem Sk.Mr:∀{ds:List (Option Tmp)} {ids:List Nat} {sk:Nat→Bool} {env:Env},Sk sk env→Sk (skN ds sk) (Mr ds ids env)
 |[],_,_,_,h=>h
 |d :: ds,ids,sk,env,h=>Sk.Mr (ds:=ds) (ids:=ids.tail) (sk:=CA sk d false) (env:=Bt env d (.p (ids.headD 0) 0 0)) (h.del d _)
theorem RZ(o:Oper)(j:Nat)(h:(HS o).testBit j=true):∃ e∈o.after,Region.binds .any e=true∧e.on=j:=by
 have main:∀(l:List Edge) (m:Nat),(l.foldl (fun m e=>match Region.binds .any e with|true=>m ||| (1 <<< e.on)|false=>m) m).testBit j=true→m.testBit j=true∨∃ e∈l,Region.binds .any e=true∧e.on=j:=by
  intro l
  induction l with
  |nil=>intro m h;exact .inl h
  |cons e l ih =>
   intro m h
   rw[List.foldl_cons]at h
   rcases ih _ h with h|⟨e',h1,h2⟩
   ·split at h
    ·rename_i hb
     rw[Nat.testBit_or,Bool.or_eq_true]at h
     rcases h with h|h
     ·exact .inl h
     ·refine .inr ⟨e,by simp,hb,?_⟩
      rw[Nat.shiftLeft_eq,Nat.one_mul,Nat.testBit_two_pow]at h
      simpa using h
    ·exact .inl h
   ·exact .inr ⟨e',by simp[h1],h2⟩
 rcases main _ _ h with h|⟨e,h1,h2⟩
 ·simp at h
 ·exact⟨e,by simpa using h1,h2⟩
theorem Om{ops:Array Oper}{qs:List Nat}{i:Nat}{listed:Array Bool}{D:Nat}:∀(as:List Nat) (k:Nat),mO ops qs i listed D as k=true→∀(j a:Nat),as[j]? = some a→
    (listed.getD (k+j) false=true→D.testBit (k+j)=true)∧(k+j=i∨D.testBit (k+j)=true∨¬ a &&& D=a)∧(D.testBit (k+j)=true→listed.getD (k+j) true=true∨early ops qs (k+j)=true)
 |[],_,_,j,a,h=>by simp at h
 |a0 :: as,k,h,j,a,hj=>by
  simp only[mO,Bool.and_eq_true,Bool.or_eq_true,Bool.not_eq_true']at h
  obtain⟨h1,h2,h3,h4⟩:=h
  cases j with
  |zero =>
   cases hj
   refine⟨fun hl=>?_,?_,fun hd=>?_⟩
   ·rcases h1 with h|h
    ·rw[Nat.add_zero,h]at hl;cases hl
    ·exact h
   ·rcases h2 with h|h|h
    ·exact .inl (Nat.eq_of_beq_eq_true h)
    ·exact .inr (.inl h)
    ·exact .inr (.inr fun e=>by rw[e,Nat.beq_refl]at h;cases h)
   ·rcases h3 with h|h|h
    ·rw[Nat.add_zero,h]at hd;cases hd
    ·exact .inl h
    ·exact .inr h
  |succ j =>
   have:=Om as (k+1) h4 j a (by simpa using hj)
   rw[show k+1+j=k+(j+1)by omega]at this
   exact this
theorem Xa{ops:Array Oper}{qs:List Nat}{i:Nat}{listed:Array Bool}(h:calm ops (ops.toList.map HS) qs i listed=true)(hs:listed.size=ops.size):∃ D,Calm ops qs i listed D:=by
 simp only[calm,Bool.and_eq_true,Bool.not_eq_true']at h
 generalize Mt i (ops.toList.map HS) 0 (Mt i (ops.toList.map HS) 0 (UG listed.toList 0 0))=D at h
 obtain⟨h1,h2⟩:=h
 have hc:∀ k (hk:k<ops.size),(listed.getD k false=true→D.testBit k=true)∧(k=i∨D.testBit k=true∨¬ HS ops[k] &&& D=HS ops[k])∧(D.testBit k=true→listed.getD k true=true∨early ops qs k=true):=fun k hk=>by
  have:=Om _ 0 h2 k (HS ops[k]) (by simp[hk])
  simpa using this
 let A:Array Bool:=((List.range ops.size).map fun k=>D.testBit k).toArray
 have hA:∀ k d,k<ops.size→A.getD k d=D.testBit k:=fun k d hk=>by simp[A,Array.getD_eq_getD_getElem?,hk]
 have hA':∀ k d,ops.size≤k→A.getD k d=d:=fun k d hk=>by
  have:¬ k<ops.size:=by omega
  simp[A,Array.getD_eq_getD_getElem?,this]
 refine⟨A,⟨by simp[A,hs],fun k hk=>?_,fun k hk=>?_,fun k hk hd=>?_⟩⟩
 ·have hkl:k<ops.size:=by
    rcases Nat.lt_or_ge k ops.size with h'|h'
    ·exact h'
    ·simp[Array.getD_eq_getD_getElem?,Array.getElem?_eq_none (show listed.size≤k by omega)]at hk
  rw[hA k _ hkl]
  exact(hc k hkl).1 hk
 ·obtain⟨hno,o,ho,hall⟩:=mem_ready.1 hk
  have hlt:=(Array.getElem?_eq_some_iff.1 ho).1
  have hoe:=(Array.getElem?_eq_some_iff.1 ho).2
  rw[hA k _ hlt]at hno
  rcases(hc k hlt).2.1 with h|h|h
  ·exact h
  ·rw[hno]at h;cases h
  ·refine absurd ?_ h
   rw[hoe]
   apply Nat.eq_of_testBit_eq
   intro j
   rw[Nat.testBit_and]
   cases hj:(HS o).testBit j with
   |false=>rfl
   |true =>
    obtain⟨e,he,hb,rfl⟩:=RZ o j hj
    have:=hall e he hb
    rcases Nat.lt_or_ge e.on ops.size with h'|h'
    ·rw[hA _ _ h']at this;simp[this]
    ·rw[hA' _ _ h']at this;cases this
 ·rw[hA k _ hk]at hd
  exact(hc k hk).2.2 hd
theorem W9{ops:Array Oper}{i:Nat}{listed:Array Bool}{D:Nat}(h:aY i listed D (ops.toList.map HS) 0=true)(hs:listed.size=ops.size):R5 ops i listed D:=by
 have main:∀(as:List Nat) (k:Nat),aY i listed D as k=true→∀(j a:Nat),as[j]? = some a→(listed.getD (k+j) false=true→D.testBit (k+j)=true)∧(k+j=i∨D.testBit (k+j)=true∨¬ a &&& D=a):=by
  intro as
  induction as with
  |nil=>intro k h j a hj;simp at hj
  |cons a0 as ih =>
   intro k h j a hj
   simp only[aY,Bool.and_eq_true,Bool.or_eq_true,Bool.not_eq_true']at h
   obtain⟨h1,h2,h4⟩:=h
   cases j with
   |zero =>
    cases hj
    refine⟨fun hl=>?_,?_⟩
    ·rcases h1 with h|h
     ·rw[Nat.add_zero,h]at hl;cases hl
     ·exact h
    ·rcases h2 with h|h|h
     ·exact .inl (Nat.eq_of_beq_eq_true h)
     ·exact .inr (.inl h)
     ·exact .inr (.inr fun e=>by rw[e,Nat.beq_refl]at h;cases h)
   |succ j =>
    have:=ih (k+1) h4 j a (by simpa using hj)
    rw[show k+1+j=k+(j+1)by omega]at this
    exact this
 have hc:∀ k (hk:k<ops.size),(listed.getD k false=true→D.testBit k=true)∧(k=i∨D.testBit k=true∨¬ HS ops[k] &&& D=HS ops[k]):=fun k hk=>by
  have:=main _ 0 h k (HS ops[k]) (by simp[hk])
  simpa using this
 refine⟨fun k hk=>?_,fun k o ho hne hall=>?_⟩
 ·have hkl:k<ops.size:=by
    rcases Nat.lt_or_ge k ops.size with h'|h'
    ·exact h'
    ·simp[Array.getD_eq_getD_getElem?,Array.getElem?_eq_none (show listed.size≤k by omega)]at hk
  exact(hc k hkl).1 hk
 ·have hlt:=(Array.getElem?_eq_some_iff.1 ho).1
  have hoe:=(Array.getElem?_eq_some_iff.1 ho).2
  rcases(hc k hlt).2 with h|h|h
  ·exact absurd h hne
  ·exact h
  ·refine absurd ?_ h
   rw[hoe]
   apply Nat.eq_of_testBit_eq
   intro j
   rw[Nat.testBit_and]
   cases hj:(HS o).testBit j with
   |false=>rfl
   |true =>
    obtain⟨e,he,hb,rfl⟩:=RZ o j hj
    rw[hall e he hb];rfl
theorem Dk{P:Program}{X:AV→Aa→Prop}{ops:Array Oper}{qs:List Nat}{K:Env→Aa→Prop}:∀(pl:St) (Φ:Nat→Aa→Prop→Prop) (Ψ:Nat→Aa→Prop) (sk:Nat→Bool) (listed:Array Bool) (env:Env) (S:Aa),listed.size=ops.size→Sk sk env→CM ops (ops.toList.map HS) qs pl listed=true→
    (∀ i S p,Φ i S p→(Ψ i S∧p))→Nx P ops X pl sk env S Φ K→aW P ops X qs Ψ K (DV pl) listed env S
 |.e,Φ,Ψ,sk,listed,env,S,hs,hsk,hp,hΦ,h=>⟨by simpa[CM]using hp,h⟩
 |.q i rest,Φ,Ψ,sk,listed,env,S,hs,hsk,hp,hΦ,h=>by
  simp only[CM,Bool.and_eq_true]at hp
  obtain⟨h1,h2,h3,h4,h5⟩:=hp
  obtain⟨D,hD⟩:=Xa h4 hs
  simp only[Nx]at h
  split at h
  ·exact h.elim
  ·rename_i o ho
   rcases JF hsk h with⟨ht,h'⟩|⟨ht,h'⟩
   ·have h'':∃ v,(∀ T,Am S T→Cz P o.op env T (fun u T'=>u=v∧T'=T) (fun _ _=>False))∧Nx P ops X rest (CA sk o.dst false) (Bt env o.dst v) S Φ K:=by
      split at h'
      ·rename_i v hv
       exact⟨v,fun T _=>KF hv,h'⟩
      ·exact h'
    obtain⟨v,k1,k2⟩:=h''
    exact R3 ho h3 _ listed env S hs hD (Region.free_spec ho h2) (by simpa using h1) (fun T hT=>⟨true,ht,k1 T hT⟩) (Dk rest Φ Ψ _ _ _ _ (by simpa using hs) (hsk.del o.dst v) h5 hΦ k2)
   ·exact R3 ho h3 _ listed env S hs hD (Region.free_spec ho h2) (by simpa using h1) (fun T hT=>⟨false,ht,rfl⟩) (Dk rest Φ Ψ _ _ _ _ (by simpa using hs) (hsk.add o.dst) h5 hΦ h')
 |.l i D rest,Φ,Ψ,sk,listed,env,S,hs,hsk,hp,hΦ,h=>by
  simp only[CM,Bool.and_eq_true]at hp
  obtain⟨h1,h2,h3,hq,h5⟩:=hp
  have hD:=W9 hq hs
  simp only[Nx]at h
  split at h
  ·exact h.elim
  ·rename_i o ho
   split at h
   ·rename_i v hg hv
    have hst:∀ T,Cz P o.op env T (fun u T'=>u=v∧T'=T) (fun _ _=>False):=fun T=>KF hv
    refine Vw (E:=env) ho h3 hg _ listed env S hD (fun _ _=>rfl) (Region.free_spec ho h2) (by simpa using h1) (fun T hT=>⟨true,by simp[Ck,hg],hst T⟩) (Kl (Φ:=Ψ) (fun j S hS=>⟨hS,fun _ T _=>hst T⟩) _ _ _ _ (Dk rest Φ Ψ _ _ _ _ (by simpa using hs) (hsk.del o.dst v) h5 hΦ h))
   ·rename_i hg hv
    obtain⟨v,k1,k2⟩:=h
    refine Vw (E:=env) ho h3 hg _ listed env S hD (fun _ _=>rfl) (Region.free_spec ho h2) (by simpa using h1) (fun T hT=>⟨true,by simp[Ck,hg],k1 T hT⟩) (Dk rest _ _ _ _ _ _ (by simpa using hs) (hsk.del o.dst v) h5 (fun j S p hp=>?_) k2)
    split at hp
    ·obtain⟨h6,h7⟩:=hp
     obtain⟨h8,h9⟩:=hΦ _ _ _ h7
     exact⟨⟨h8,fun _=>h6⟩,h9⟩
    ·rename_i hb
     obtain⟨h8,h9⟩:=hΦ _ _ _ hp
     exact⟨⟨h8,fun hd=>by rw[hb]at hd;cases hd⟩,h9⟩
   ·exact h.elim
 |.k i rest,Φ,Ψ,sk,listed,env,S,hs,hsk,hp,hΦ,h=>by
  simp only[CM,Bool.and_eq_true,beq_iff_eq,Bool.not_eq_true']at hp
  obtain⟨h1,h2,h3⟩:=hp
  simp only[Nx]at h
  split at h
  ·exact h.elim
  ·rename_i o ho
   refine⟨fun h0=>(by rw[h0]at h1;cases h1),fun j hj=>?_⟩
   rw[h1]at hj
   obtain rfl:=List.mem_singleton.1 hj
   refine⟨o,ho,?_⟩
   rw[h2]
   rcases JF hsk h with⟨ht,h'⟩|⟨ht,h'⟩
   ·refine⟨true,ht,?_⟩
    rw[Bf]
    exact⟨_,h',fun v S' hv=>by
     obtain⟨h6,h7⟩:=hΦ _ _ _ hv
     exact⟨.inr h6,Dk rest Φ Ψ _ _ _ _ (by simpa using hs) (hsk.del o.dst v) h3 hΦ h7⟩⟩
   ·exact⟨false,ht,.inl (Am.refl S),Dk rest Φ Ψ _ _ _ _ (by simpa using hs) (hsk.add o.dst) h3 hΦ h'⟩
 |.n is rest,Φ,Ψ,sk,listed,env,S,hs,hsk,hp,hΦ,h=>by
  simp only[CM,Bool.and_eq_true,List.all_eq_true,Bool.not_eq_true',decide_eq_true_eq,Bool.or_eq_true,beq_iff_eq]at hp
  obtain⟨h1,h2,h3,h4,h5⟩:=hp
  simp only[Nx]at h
  ·obtain⟨os,hos,h⟩:=II h
   show aW P ops X qs Ψ K (is.length+DV rest) listed env S
   rw[Nat.add_comm]
   refine rN (DV rest) is.length is os listed env S rfl ⟨hs,h3,fun i hi=>by simpa using(h1 i hi).1,h2,fun i hi=>?_,fun a ha b hb hne oa ob hoa hob=>?_⟩ hos (fun ids S' hN=>Dk rest Φ Ψ _ _ _ _ (by rw[Fg];exact hs) (Sk.Mr hsk) h5 hΦ (h ids S' hN))
   ·obtain⟨_,k2,k3⟩:=h1 i hi
    refine⟨k2,?_⟩
    cases ho:ops[i]? with
    |none=>rw[ho]at k3;cases k3
    |some o =>
     rw[ho]at k3
     simp only[Bool.and_eq_true,Option.isNone_iff_eq_none]at k3
     exact⟨o,rfl,k3⟩
   ·rcases h4 a ha b hb with h|h
    ·exact absurd h hne
    ·rw[hoa,hob]at h;exact h
 |.s i j rest,Φ,Ψ,sk,listed,env,S,hs,hsk,hp,hΦ,h=>by
  simp only[CM,Bool.and_eq_true,beq_iff_eq,Bool.not_eq_true']at hp
  obtain⟨h1,h2,h3,h4,h5,h6,h7,h8⟩:=hp
  simp only[Nx]at h
  split at h
  ·exact h.elim
  ·rename_i oi hoi
   split at h
   ·exact h.elim
   ·rename_i oj hoj
    obtain⟨hA,hB⟩:=h
    simp only[P5,hoi,hoj,Bool.and_eq_true,Option.isNone_iff_eq_none]at h6 h7
    have w1:Ck ops env oi=some true:=by simp[Ck,h6.1]
    have w2:Ck ops env oj=some true:=by simp[Ck,h7.1]
    have d1:∀ v,Bt env oi.dst v=env:=fun v=>by rw[h6.2];rfl
    have d2:∀ v,Bt env oj.dst v=env:=fun v=>by rw[h7.2];rfl
    have hne:i≠j:=by
     intro e
     subst e
     have hm:i∈Region.ready .any ops (listed.setIfInBounds i true):=by rw[h4];simp
     have hlt:i<ops.size:=(Array.getElem?_eq_some_iff.1 hoi).1
     have:=(mem_ready.1 hm).1
     rw[LN (by simpa[hs]using hlt) true false,Array.getD_eq_getD_getElem?]at this
     simp[hs,hlt]at this
    have hcomm:(listed.setIfInBounds j true).setIfInBounds i true=(listed.setIfInBounds i true).setIfInBounds j true:=Array.setIfInBounds_comm _ _ (fun e=>hne e.symm)
    show aW P ops X qs Ψ K (DV rest+1+1) listed env S
    refine⟨fun h0=>(by rw[h0]at h1;cases h1),fun k hk=>?_⟩
    rw[h1]at hk
    have hk:k=i∨k=j:=by simpa using hk
    rcases hk with rfl|rfl
    ·refine⟨oi,hoi,?_⟩
     rw[h2]
     refine⟨true,w1,?_⟩
     rw[Bf]
     refine⟨_,hA,fun v S' hv=>?_⟩
     obtain⟨q1,q2⟩:=hΦ _ _ _ hv
     refine⟨.inr q1,?_⟩
     rw[d1]
     refine⟨fun h0=>(by rw[h0]at h4;cases h4),fun k2 hk2=>?_⟩
     rw[h4]at hk2
     obtain rfl:=List.mem_singleton.1 hk2
     refine⟨oj,hoj,?_⟩
     rw[h3]
     refine⟨true,w2,?_⟩
     rw[Bf]
     refine⟨_,q2,fun v S' hv=>?_⟩
     obtain⟨q3,q4⟩:=hΦ _ _ _ hv
     refine⟨.inr q3,?_⟩
     rw[d2]
     exact Dk rest Φ Ψ _ _ _ _ (by simpa using hs) hsk h8 hΦ q4
    ·refine⟨oj,hoj,?_⟩
     rw[h3]
     refine⟨true,w2,?_⟩
     rw[Bf]
     refine⟨_,hB,fun v S' hv=>?_⟩
     obtain⟨q1,q2⟩:=hΦ _ _ _ hv
     refine⟨.inr q1,?_⟩
     rw[d2]
     refine⟨fun h0=>(by rw[h0]at h5;cases h5),fun k2 hk2=>?_⟩
     rw[h5]at hk2
     obtain rfl:=List.mem_singleton.1 hk2
     refine⟨oi,hoi,?_⟩
     rw[h2]
     refine⟨true,w1,?_⟩
     rw[Bf]
     refine⟨_,q2,fun v S' hv=>?_⟩
     obtain⟨q3,q4⟩:=hΦ _ _ _ hv
     refine⟨.inr q3,?_⟩
     rw[d1,hcomm]
     exact Dk rest Φ Ψ _ _ _ _ (by simpa using hs) hsk h8 hΦ q4
 |.c i j A B,Φ,Ψ,sk,listed,env,S,hs,hsk,hp,hΦ,h=>by
  simp only[CM,Bool.and_eq_true,beq_iff_eq,Bool.not_eq_true']at hp
  obtain⟨h1,h2,h3,h4,h5,h6,h7,h8⟩:=hp
  have h6:DV A=DV B:=Nat.eq_of_beq_eq_true h6
  simp only[Nx]at h
  split at h
  ·exact h.elim
  ·rename_i oi hoi
   split at h
   ·exact h.elim
   ·rename_i oj hoj
    obtain⟨hA,hB⟩:=h
    simp only[sK,hoi,Option.isNone_iff_eq_none]at h4
    simp only[U4,hoj,Bool.and_eq_true,Option.isNone_iff_eq_none]at h5
    have w1:Ck ops env oi=some true:=by simp[Ck,h4]
    have w2:Ck ops env oj=some true:=by simp[Ck,h5.2]
    show aW P ops X qs Ψ K (DV A+1) listed env S
    refine⟨fun h0=>(by rw[h0]at h1;cases h1),fun k hk=>?_⟩
    rw[h1]at hk
    have hk:k=i∨k=j:=by simpa using hk
    rcases hk with rfl|rfl
    ·refine⟨oi,hoi,?_⟩
     rw[h2]
     refine⟨true,w1,?_⟩
     rw[Bf]
     refine⟨_,hA,fun v S' hv=>?_⟩
     obtain⟨q1,q2⟩:=hΦ _ _ _ hv
     exact⟨.inr q1,Dk A Φ Ψ _ _ _ _ (by simpa using hs) (hsk.del oi.dst v) h7 hΦ q2⟩
    ·refine⟨oj,hoj,?_⟩
     rw[h3]
     refine⟨true,w2,?_⟩
     rw[Bf]
     obtain⟨o,ho,hK⟩:=NM h5.1 hB
     refine⟨fun v S'=>v = .p S.n 0 0∧S'=S.new o,KD ho ⟨rfl,rfl⟩,fun v S' hv=>?_⟩
     obtain⟨rfl,rfl⟩:=hv
     refine⟨.inl ((Am.refl S).new o),?_⟩
     rw[h6]
     exact Dk B Φ Ψ _ _ _ _ (by simpa using hs) (hsk.del oj.dst _) h8 hΦ hK
theorem QJ{hs:List Nat}{ops:Array Oper}{pl:St}(h:OO hs ops=some pl):DV pl=ops.size∧CM ops (ops.toList.map HS) (NC pl) pl (Array.replicate ops.size false)=true:=by
 simp only[OO]at h
 split at h
 ·rename_i hb
  cases h
  simp only[Bool.and_eq_true,beq_iff_eq]at hb
  exact hb
 ·cases h
theorem W5{P:Program}(hm:P.follows .mixedOrders=true){id:Nat}{hs:List Nat}{ops:Array Oper}{pl:St}(hp:OO hs ops=some pl){env:Env}{S:Aa}{K:AX→Env→Aa→Prop}
    (h:Nx P ops (fun u S'=>K (.pan u) (P2 env.n) S') pl (fun _=>false) env S (fun _ _ p=>p) (fun env' S'=>K .normal env' S')):U9 P id ops env S K:=by
 intro D w g a hh he
 obtain⟨h1,h2⟩:=QJ hp
 refine wp_region_any hm ?_
 have h3:=Dk (qs:=NC pl) pl (fun _ _ p=>p) (fun _ _=>True) (fun _=>false) (Array.replicate ops.size false) env S (by simp) (Sk.nil env) h2 (fun _ _ _ hp=>⟨trivial,hp⟩) h
 have h4:=R1 (w0:=w) (g0:=g) (DV pl) (Array.replicate ops.size false) env S w.drew g a hh.drew (he.mv (D3 w g)) (D3 w g) rfl h3
 rw[h1]at h4
 simpa using h4
end Go.Ab
set_option linter.unusedVariables false
set_option linter.unusedSimpArgs false
namespace Go.Ab
open Go Go.RowKit
variable {D:List Deferred}
abbrev Av(V:Env→Aa→(AX→Env→Aa→Prop)→Prop)(K:AX→Env→Aa→Prop):AX→Env→Aa→Prop
 |.normal,env,S=>V env S K
 |x,env,S=>K x env S
abbrev BV(N:Env→Aa→Prop)(K:AX→Env→Aa→Prop):AX→Env→Aa→Prop
 |.normal,env,S=>N env S
 |x,env,S=>K x env S
def Ls(n:Nat):List Nat→List AV→Env
 |d :: ds,x :: xs=>(Ls n ds xs).put d x
 |_,_=>⟨n,fun _=>.j,fun _ _=>rfl⟩
theorem MK(n:Nat):∀(ds:List Nat) (xs:List AV),(Ls n ds xs).n=n
 |d :: ds,x :: xs=>MK n ds xs
 |[],xs=>by cases xs<;>rfl
 |d :: ds,[]=>rfl
theorem BX.some{w:World}{g:Gh}{env:Env}{a:Act}(h:BX D w g env a):∀ lv:List Nat,BX D w g (Ls env.n lv (lv.map env.f)) a
 |[]=>⟨h.size,fun k=>.j _,h.defers⟩
 |d :: lv=>by
  have ih:=BX.some h lv
  refine⟨(MK env.n (d :: lv) _).trans h.size,fun k=>?_,h.defers⟩
  show R w g (((Ls env.n lv (lv.map env.f)).put d (env.f d)).f k) _
  by_cases e:k=d
  ·subst e
   rcases Nat.lt_or_ge k env.n with hi|hi
   ·rw[Env.Gv _ _ (by rw[MK];exact hi)]
    exact h.rel k
   ·rw[Env.out _ k (by show(Ls env.n lv (lv.map env.f)).n≤k;rw[MK];exact hi)]
    exact .j _
  ·rw[Env.Eg _ _ e]
   exact ih.rel k
abbrev Hc(lv:List Nat)(KE:Nat→List AV→Aa→Prop)(e:Env)(S:Aa):Prop:=KE e.n (lv.map e.f) S
def Wk(S:Aa)(l:List AV)(S':Aa)(l':List AV):Prop:=
 l.length=l'.length∧∀(P:Program) (w:World) (g:Gh),Ba P w g S→∃ g',Ba P w g' S'∧Mv w g w g'∧∀(k:Nat) (u u2:AV) (y:Value),l[k]? = some u→l'[k]? = some u2→R w g u y→R w g' u2 y
abbrev Aq:=Bh→Aa→Prop
abbrev By:=Nat→List AV→Aa→Prop
theorem Wk.refl(S:Aa)(l:List AV):Wk S l S l:=⟨rfl,fun P w g h=>⟨g,h,Mv.refl _ _,fun k u u2 y h1 h2 hr=>by rw[h1]at h2;cases h2;exact hr⟩⟩
theorem Wk.trans{S S1 S2:Aa}{l l1 l2:List AV}(h:Wk S l S1 l1)(k:Wk S1 l1 S2 l2):Wk S l S2 l2:=⟨h.1.trans k.1,fun P w g hh=>by
 obtain⟨g1,h1,m1,r1⟩:=h.2 P w g hh
 obtain⟨g2,h2,m2,r2⟩:=k.2 P w g1 h1
 refine⟨g2,h2,m1.trans m2,fun i u u2 y e1 e2 hr=>?_⟩
 have hi:i<l1.length:=by rw[←h.1];exact(List.getElem?_eq_some_iff.1 e1).1
 exact r2 i _ u2 y (List.getElem?_eq_getElem hi) e2 (r1 i u _ y e1 (List.getElem?_eq_getElem hi) hr)⟩
theorem BX.Uy{w:World}{g g':Gh}{env:Env}{a:Act}(h:BX D w g env a):∀(lv:List Nat) (l':List AV),(∀(k d:Nat) (u2:AV),lv[k]? = Option.some d→l'[k]? = Option.some u2→∀ y,R w g (env.f d) y→R w g' u2 y)→BX D w g' (Ls env.n lv l') a
 |[],l',_=>by
  have:Ls env.n [] l'=⟨env.n,fun _=>.j,fun _ _=>rfl⟩:=by cases l'<;>rfl
  rw[this]
  exact⟨h.size,fun k=>.j _,h.defers⟩
 |d :: lv,[],_=>⟨h.size,fun k=>.j _,h.defers⟩
 |d :: lv,x :: l',hc=>by
  have ih:=BX.Uy h lv l' (fun k d' u2 h1 h2=>hc (k+1) d' u2 (by simpa using h1) (by simpa using h2))
  refine⟨(MK env.n (d :: lv) _).trans h.size,fun k=>?_,h.defers⟩
  show R w g' (((Ls env.n lv l').put d x).f k) _
  by_cases e:k=d
  ·subst e
   rcases Nat.lt_or_ge k env.n with hi|hi
   ·rw[Env.Gv _ _ (by rw[MK];exact hi)]
    exact hc 0 k x rfl rfl _ (h.rel k)
   ·rw[Env.out _ k (by show(Ls env.n lv l').n≤k;rw[MK];exact hi)]
    exact .j _
  ·rw[Env.Eg _ _ e]
   exact ih.rel k
def Ap(lv:List Nat)(B:Env→Aa→(AX→Env→Aa→Prop)→Prop)(n:Nat)(l:List AV)(S:Aa)(K:AX→Env→Aa→Prop):Prop:=
 ∃(I:Nat→List AV→Aa→Prop) (μ:Nat→List AV→Aa→Nat),(∃ S' l',Wk S l S' l'∧I n l' S')∧
  ∀ n l S,I n l S→B (Ls n lv l) S (BV (Hc lv fun n' l' S'=>∃ S'' l'',Wk S' l' S'' l''∧I n' l'' S''∧μ n' l'' S''<μ n l S) K)
abbrev Ak(id:Nat)(K:AX→Env→Aa→Prop):AX→Env→Aa→Prop
 |.exit id',env,S=>match Nat.beq id' id with|true=>K .normal env S|false=>K (.exit id') env S
 |x,env,S=>K x env S
abbrev Kw(K:AX→Env→Aa→Prop):AX→Env→Aa→Prop
 |.goto _,_,_=>False
 |x,env,S=>K x env S
def AgM:Op→Bool
 |.store _ _ _|.alloc _|.box _ _|.makeSlice _ _ _|.makeMap _ _|.mapUpdate _ _ _ _|.insert _ _ _ _|.mapEntry _ _ _|.entryStore _ _ _ _|.range _ _|.next _ _|.call { callee:=.builtin .append,.. }|.call { callee:=.builtin .unsafeString,.. }=>false
 |.move _|.assign _|.pick _ _ _|.build _ _|.buildSlice _ _ _|.load _ _|.binOp _ _ _ _ _|.unOp _ _ _|.makeFunc _ _ _|.slice _ _ _ _ _|.fieldAddr _ _ _|.field _ _ _|.indexAddr _ _ _|.index _ _ _|.extract _ _|.convert _ _ _|.nilCheck _|.call _=>true
 |_=>false
def AeG(ops:Array Oper):Bool:=Nat.blt 40 ops.size
def nl:Code→Nat
 |.seq a b=>nl a+nl b
 |.cond _ a b=>nl a+nl b
 |.block _ c=>nl c
 |.scope c=>nl c
 |.loop c=>nl c+1
 |_=>0
def vc(P:Program):Code→List (List Nat)→Env→Aa→(AX→Env→Aa→Prop)→Prop
 |.skip,_,env,S,K=>K .normal env S
 |.label _,_,env,S,K=>K .normal env S
 |.exit id,_,env,S,K=>K (.exit id) env S
 |.goto l,_,env,S,K=>K (.goto l) env S
 |.ret,_,env,S,K=>K .ret env S
 |.seq a b,ms,env,S,K=>vc P a ms env S (Av (vc P b (ms.drop (nl a))) K)
 |.cond c x y,ms,env,S,K=>KC (ev env c) fun b=>gd b (vc P x ms env S K) (vc P y (ms.drop (nl x)) env S K)
 |.block id c,ms,env,S,K=>vc P c ms env S (Ak id K)
 |.loop c,ms,env,S,K=>Ap (ms.headD []) (vc P c ms.tail) env.n ((ms.headD []).map env.f) S K
 |.scope c,ms,env,S,K=>vc P c ms env S (Kw K)
 |.region id ops draw,ms,env,S,K=>match draw with
  |true=>match P.follows .mixedOrders && (Region.lexB .any ops && ops.all (XQ (ms.getLastD []) ·.op))with
   |true=>match AeG ops with
    |true=>Qo P ops S ops.toList env (fun env'=>K .normal env' S)
    |false=>rY P ops S ops.toList (fun _=>false) env (fun env'=>K .normal env' S)
   |false=>match OO (ms.getLastD []) ops,P.follows .mixedOrders with
    |some pl,true=>Nx P ops (fun u S'=>K (.pan u) (P2 env.n) S') pl (fun _=>false) env S (fun _ _ p=>p) (fun env' S'=>K .normal env' S')
    |_,_=>U9 P id ops env S K
  |false=>match AeG ops with
   |true=>rZ P ops ops.toList env S (fun env' S'=>K .normal env' S') (fun u env' S'=>K (.pan u) env' S')
   |false=>Qp P ops ops.toList (fun _=>false) env S (fun env' S'=>K .normal env' S') (fun u env' S'=>K (.pan u) env' S')
 |_,_,_,_,_=>False
theorem LB.X7{P:Program}{w0:World}{g0:Gh}{w:World}{g:Gh}(m:Mv w0 g0 w g){Q:AX→Env→Aa→Prop}{e:Exit}{a:Act}{w':World}(h:LB P D w g Q e a w'):LB P D w0 g0 Q e a w':=by
 obtain⟨x,env',S',g',h1,h2,h3,h4,h5⟩:=h
 exact⟨x,env',S',g',h1,h2,m.trans h3,h4,h5⟩
theorem GN{p:Nat→Prop}(h:∃ n,p n):∃ m,p m∧∀ n,p n→m≤n:=by
 obtain⟨n,hn⟩:=h
 induction n using Nat.strongRecOn with
 |_ n ih =>
  by_cases hm:∃ k,k<n∧p k
  ·obtain⟨k,hk,hp⟩:=hm
   exact ih k hk hp
  ·exact⟨n,hn,fun k hk=>by
     rcases Nat.lt_or_ge k n with h|h
     ·exact absurd ⟨k,h,hk⟩ hm
     ·exact h⟩
open Classical in
noncomputable def Qz (p:Nat→Prop):Nat:=if h:∃ n,p n then Classical.choose (GN h)else 0
theorem VK{p:Nat→Prop}(h:∃ n,p n):p (Qz p):=by
 unfold Qz
 rw[dif_pos h]
 exact(Classical.choose_spec (GN h)).1
theorem XI{p:Nat→Prop}{n:Nat}(h:p n):Qz p≤n:=by
 unfold Qz
 rw[dif_pos ⟨n,h⟩]
 exact(Classical.choose_spec (GN ⟨n,h⟩)).2 n h
theorem Dx{P:Program}:∀(c:Code) (ms:List (List Nat)) (env:Env) (S:Aa) (K:AX→Env→Aa→Prop),vc P c ms env S K→zU P c env S K
 |.skip,ms,env,S,K,h=>fun D w g a hh he=>wp_skip ⟨.normal,env,S,g,hh,he,Mv.refl _ _,trivial,h⟩
 |.label _,ms,env,S,K,h=>fun D w g a hh he=>wp_label ⟨.normal,env,S,g,hh,he,Mv.refl _ _,trivial,h⟩
 |.exit id,ms,env,S,K,h=>fun D w g a hh he=>wp_exit ⟨.exit id,env,S,g,hh,he,Mv.refl _ _,rfl,h⟩
 |.goto l,ms,env,S,K,h=>fun D w g a hh he=>wp_goto ⟨.goto l,env,S,g,hh,he,Mv.refl _ _,rfl,h⟩
 |.ret,ms,env,S,K,h=>fun D w g a hh he=>wp_ret ⟨.ret,env,S,g,hh,he,Mv.refl _ _,trivial,h⟩
 |.seq a b,ms,env,S,K,h=>by
  have ha:=Dx a ms env S _ h
  intro D w g ac hh he
  refine wp_seq (wp_mono (ha D w g ac hh he) ?_)
  rintro e a' w' ⟨x,env',S',g',h1,h2,h3,h4,h5⟩
  cases x with
  |normal =>
   cases e with
   |normal=>exact wp_mono (Dx b _ env' S' K h5 D w' g' a' h1 h2) (fun e a w=>LB.X7 h3)
   |_=>exact h4.elim
  |exit id=>cases e<;>first|exact h4.elim|exact⟨.exit id,env',S',g',h1,h2,h3,h4,h5⟩
  |goto l=>cases e<;>first|exact h4.elim|exact⟨.goto l,env',S',g',h1,h2,h3,h4,h5⟩
  |ret=>cases e<;>first|exact h4.elim|exact⟨.ret,env',S',g',h1,h2,h3,h4,h5⟩
  |pan x=>cases e<;>first|exact h4.elim|exact⟨.pan x,env',S',g',h1,h2,h3,h4,h5⟩
 |.cond c x y,ms,env,S,K,h=>by
  simp only[vc,KC]at h
  split at h
  ·rename_i b hb
   intro D w g a hh he
   have h1:=he.ev c
   rw[hb]at h1
   rcases Dc h with⟨rfl,h'⟩|⟨rfl,h'⟩
   ·exact wp_cond_true h1.BB (Dx x _ env S K h' D w g a hh he)
   ·exact wp_cond_false h1.BB (Dx y _ env S K h' D w g a hh he)
  ·exact h.elim
 |.block id c,ms,env,S,K,h=>by
  have hc:=Dx c _ env S _ h
  intro D w g a hh he
  refine wp_block (wp_mono (hc D w g a hh he) ?_)
  rintro e a' w' ⟨x,env',S',g',h1,h2,h3,h4,h5⟩
  cases x with
  |normal=>cases e<;>first|exact h4.elim|exact⟨.normal,env',S',g',h1,h2,h3,trivial,h5⟩
  |exit id' =>
   cases e with
   |exit id2 =>
    obtain rfl:id'=id2:=h4
    simp only[Ak]at h5
    simp only[Exit.inBlock]
    split at h5
    ·rename_i hid
     have hid:id'=id:=Nat.eq_of_beq_eq_true hid
     rw[if_pos hid]
     exact⟨.normal,env',S',g',h1,h2,h3,trivial,h5⟩
    ·rename_i hid
     have hid:id'≠id:=Nat.ne_of_beq_eq_false hid
     rw[if_neg hid]
     exact⟨.exit id',env',S',g',h1,h2,h3,rfl,h5⟩
   |_=>exact h4.elim
  |goto l=>cases e<;>first|exact h4.elim|exact⟨.goto l,env',S',g',h1,h2,h3,h4,h5⟩
  |ret=>cases e<;>first|exact h4.elim|exact⟨.ret,env',S',g',h1,h2,h3,h4,h5⟩
  |pan x=>cases e<;>first|exact h4.elim|exact⟨.pan x,env',S',g',h1,h2,h3,h4,h5⟩
 |.loop c,ms,env,S,K,h=>by
  obtain⟨I,μ,⟨Sw,lw,hw,hI⟩,hr⟩:=h
  intro D w g a hh he
  generalize hlv:ms.headD []=lv at *
  have hcl:∀ n l S,I n l S→zU P c (Ls n lv l) S (BV (Hc lv fun n' l' S'=>∃ S'' l'',Wk S' l' S'' l''∧I n' l'' S''∧μ n' l'' S''<μ n l S) K):=fun n l S hi=>Dx c _ (Ls n lv l) S _ (hr n l S hi)
  have turn:∀{w':World} {g1:Gh} {S1:Aa} {env1:Env} {a1:Act} {S2:Aa} {l2:List AV},Ba P w' g1 S1→BX D w' g1 env1 a1→Wk S1 (lv.map env1.f) S2 l2→∃ g2,Ba P w' g2 S2∧BX D w' g2 (Ls env1.n lv l2) a1∧Mv w' g1 w' g2:=by
   intro w' g1 S1 env1 a1 S2 l2 h1 h2 hw
   obtain⟨g2,h3,h4,h5⟩:=hw.2 P w' g1 h1
   refine⟨g2,h3,h2.Uy lv l2 fun k d u2 e1 e2 y hr=>h5 k _ u2 y (by rw[List.getElem?_map,e1];rfl) e2 hr,h4⟩
  obtain⟨gw,hw1,hw2,hw3⟩:=turn hh he hw
  have key:=wp_loop (P:=P) (c:=c) (Q:=LB P D w g K) (a:=a) (w:=w)
   (I:=fun a' w'=>∃ n l S' g' m,Ba P w' g' S'∧BX D w' g' (Ls n lv l) a'∧Mv w g w' g'∧I n l S'∧μ n l S'=m)
   (μ:=fun a' w'=>Qz (fun m=>∃ n l S' g',Ba P w' g' S'∧BX D w' g' (Ls n lv l) a'∧Mv w g w' g'∧I n l S'∧μ n l S'=m))
   ⟨env.n,lw,Sw,gw,_,hw1,hw2,hw3,hI,rfl⟩ ?_
  ·exact key
  ·rintro a1 w1 ⟨n0,l0,S0,g0,m0,h10,h20,h30,h40,h50⟩
   obtain⟨n1,l1,S1,g1,h1,h2,h3,h4,h5⟩:=VK (p:=fun m=>∃ n l S' g',Ba P w1 g' S'∧BX D w1 g' (Ls n lv l) a1∧Mv w g w1 g'∧I n l S'∧μ n l S'=m) ⟨m0,n0,l0,S0,g0,h10,h20,h30,h40,h50⟩
   refine wp_mono (hcl n1 l1 S1 h4 D w1 g1 a1 h1 h2) ?_
   rintro e a' w' ⟨x,env',S',g',k1,k2,k3,k4,k5⟩
   cases x with
   |normal =>
    cases e with
    |normal =>
     obtain⟨S2,l2,kw,k6,k7⟩:=k5
     obtain⟨g2,q1,q2,q3⟩:=turn k1 k2 kw
     refine⟨⟨env'.n,l2,S2,g2,_,q1,q2,(h3.trans k3).trans q3,k6,rfl⟩,?_⟩
     have hle:=XI (p:=fun m=>∃ n l S'' g'',Ba P w' g'' S''∧BX D w' g'' (Ls n lv l) a'∧Mv w g w' g''∧I n l S''∧μ n l S''=m) (n:=μ env'.n l2 S2) ⟨env'.n,l2,S2,g2,q1,q2,(h3.trans k3).trans q3,k6,rfl⟩
     exact Nat.lt_of_le_of_lt hle (by rw[h5]at k7;exact k7)
    |_=>exact k4.elim
   |exit id=>cases e<;>first|exact k4.elim|exact⟨.exit id,env',S',g',k1,k2,h3.trans k3,k4,k5⟩
   |goto l=>cases e<;>first|exact k4.elim|exact⟨.goto l,env',S',g',k1,k2,h3.trans k3,k4,k5⟩
   |ret=>cases e<;>first|exact k4.elim|exact⟨.ret,env',S',g',k1,k2,h3.trans k3,k4,k5⟩
   |pan x=>cases e<;>first|exact k4.elim|exact⟨.pan x,env',S',g',k1,k2,h3.trans k3,k4,k5⟩
 |.scope c,ms,env,S,K,h=>by
  have hc:=Dx c _ env S _ h
  intro D w g a hh he
  refine wp_scope_straight (wp_mono (hc D w g a hh he) ?_)
  rintro e a' w' ⟨x,env',S',g',h1,h2,h3,h4,h5⟩
  cases x with
  |normal=>cases e<;>first|exact h4.elim|exact⟨.normal,env',S',g',h1,h2,h3,trivial,h5⟩
  |exit id'=>cases e<;>first|exact h4.elim|exact⟨.exit id',env',S',g',h1,h2,h3,h4,h5⟩
  |goto l=>exact h5.elim
  |ret=>cases e<;>first|exact h4.elim|exact⟨.ret,env',S',g',h1,h2,h3,h4,h5⟩
  |pan x=>cases e<;>first|exact h4.elim|exact⟨.pan x,env',S',g',h1,h2,h3,h4,h5⟩
 |.region id ops draw,ms,env,S,K,h=>by
  cases draw with
  |true =>
   simp only[vc]at h
   split at h
   ·rename_i hb
    simp only[Bool.and_eq_true]at hb
    split at h
    ·exact RC hb.1 hb.2.1 h
    ·exact TK hb.1 hb.2.1 h
   ·split at h
    ·rename_i pl hp hm
     exact W5 hm hp h
    ·exact h
  |false =>
   simp only[vc]at h
   split at h
   ·exact fun D w g a hh he=>wp_region_list (HW ops.toList env S w g a hh he (Mv.refl _ _) h)
   ·exact fun D w g a hh he=>wp_region_list (He ops.toList (fun _=>false) env S w g a (Sk.nil env) hh he (Mv.refl _ _) h)
 |.rangeFunc _ _ _ _,_,_,_,_,h=>h.elim
 |.refuse _,_,_,_,_,h=>h.elim
abbrev VM(P:Program):List ResultVar→Env→Aa→(List AV→Prop)→Prop
 |[],_,_,K=>K []
 |.tmp t :: rs,env,S,K=>VM P rs env S fun l=>K (env.f t :: l)
 |.cell a t :: rs,env,S,K=>ld P t (env.f a) S fun u _=>VM P rs env S fun l=>K (u :: l)
def kH(l:List AV):AV:=match l with|[x]=>x|l=>.t l
abbrev Ao(P:Program)(rs:List ResultVar)(Q:Bh→Aa→Prop):AX→Env→Aa→Prop
 |.normal,env,S|.ret,env,S=>VM P rs env S fun l=>Q (.ret (kH l)) S
 |.pan x,_,S=>Q (.pan x) S
 |_,_,_=>False
theorem Hl{P:Program}{w:World}{g:Gh}{S:Aa}(hh:Ba P w g S){env:Env}{a:Act}(he:BX D w g env a):∀(rs:List ResultVar) (K:List AV→Prop),VM P rs env S K→
    ∃(l:List AV) (vs:List Value),(rs.mapM (m:=Sem) fun|.tmp t=>pure (a.tmps.getD t undef)|.cell ad t=>do loadVar t (←asAddr (a.tmps.getD ad undef))).run P w = .ok vs w∧l.length=vs.length∧(∀(k:Nat) (u:AV),l[k]? = some u→∃ v,vs[k]? = some v∧R w g u v)∧K l
 |[],K,h=>⟨[],[],by simp,rfl,fun k u hu=>by simp at hu,h⟩
 |.tmp t :: rs,K,h=>by
  obtain⟨l,vs,h1,h2,h3,h4⟩:=Hl hh he rs _ h
  refine⟨env.f t :: l,a.tmps.getD t undef :: vs,?_,by simp[h2],fun k u hu=>?_,h4⟩
  ·rw[List.mapM_cons]
   simp only[Sem.run_bind,Sem.run_pure,Result.andThen_ok,h1]
  ·cases k with
   |zero=>cases hu;exact⟨_,rfl,he.ev (.tmp t)⟩
   |succ k=>exact h3 k u (by simpa using hu)
 |.cell ad t :: rs,K,h=>by
  obtain⟨ad',u,v,hy,hrun,hr,h'⟩:=XL hh (he.ev (.tmp ad)) h
  have hy':a.tmps.getD ad undef = .pointer (some ad'):=hy
  obtain⟨l,vs,h1,h2,h3,h4⟩:=Hl hh he rs _ h'
  refine⟨u :: l,v :: vs,?_,by simp[h2],fun k u hu=>?_,h4⟩
  ·rw[List.mapM_cons]
   have hA:(asAddr (a.tmps.getD ad undef)).run P w = .ok ad' w:=by rw[hy'];rfl
   simp only[Sem.run_bind,Sem.run_pure,Result.andThen_ok,hA,hrun,h1]
  ·cases k with
   |zero=>cases hu;exact⟨_,rfl,hr⟩
   |succ k=>exact h3 k u (by simpa using hu)
def GW(P:Program)(f:FuncId):Bool:=
 match P.funcs[f]? with
 | some fn => !(fn.name == "runtime.NumGoroutine") && fn.body.isSome
 |none=>false
theorem Fu{P:Program}{f:FuncId}(h:GW P f=true)(vs:Array Value)(w:World):(callFunc f vs).run P w = .ok (.enter f vs) w:=by
 unfold GW at h
 unfold callFunc
 simp only[Sem.run_bind,run_program,Result.andThen_ok]
 split at h
 ·rename_i fn hf
  rw[hf]
  simp only[Bool.and_eq_true,Bool.not_eq_true']at h
  obtain⟨h1,h2⟩:=h
  have h3:fn.body.isNone=false:=by cases hb:fn.body<;>simp_all
  simp[h1,h3]
 ·cases h
theorem Mh{P:Program}{fn:Func}{w:World}{g:Gh}{S:Aa}(hh:Ba P w g S){env:Env}{a:Act}(he:BX D w g env a){K:List AV→Prop}(h:VM P fn.results.toList env S K):
    ∃ l v,(results fn a.tmps).run P w = .ok v w∧R w g (kH l) v∧K l:=by
 obtain⟨l,vs,h1,h2,h3,h4⟩:=Hl hh he fn.results.toList K h
 refine⟨l,if h:vs.toArray.size=1 then vs.toArray[0]else .tuple vs.toArray,?_,?_,h4⟩
 ·unfold results
  rw[Sem.run_bind,Array.mapM_eq_mapM_toList,Sem.run_map]
  erw [h1]
  simp
 ·unfold kH
  split
  ·rename_i x
   obtain⟨v,hv,hr⟩:=h3 0 x rfl
   have hl:vs.toArray.size=1:=by simp;simp at h2;omega
   rw[dif_pos hl]
   have:vs.toArray[0]=v:=by
    have h5:=(List.getElem?_eq_some_iff.1 hv).2
    simpa using h5
   rw[this]
   exact hr
  ·rename_i hne
   have hl:¬ vs.toArray.size=1:=by
    intro hl
    simp at hl
    rw[hl]at h2
    match l,h2 with
    |[x],_=>exact hne x rfl
   rw[dif_neg hl]
   refine .t _ _ (by simpa using h2) (fun k u hu=>?_)
   obtain⟨v,hv,hr⟩:=h3 k u hu
   simpa[Array.getD_eq_getD_getElem?,hv]using hr
def Gy(n:Nat)(args:List AV):Env:=
 ⟨n,fun i=>match Nat.blt i n with|true=>args.getD i .j|false=>.j,fun k h=>by
  cases hb:Nat.blt k n with
  |false=>rfl
  |true=>have:k<n:=by simpa[Nat.blt_eq]using hb
         omega⟩
theorem BX.begin{n:Nat}{args:List AV}{w:World}{g:Gh}{vs:Array Value}{m:Nat}(ha:Fb w g args vs)(hn:args.length+(m - args.length)=n):BX [] w g (Gy n args) { tmps:=vs++Array.replicate (m - vs.size) undef,defers:=[] }:=by
 have hsz:=ha.1
 refine⟨by simp[Gy];omega,fun k=>?_,rfl⟩
 show R w g (match Nat.blt k n with|true=>args.getD k .j|false=>.j) _
 split
 ·rw[List.getD_eq_getElem?_getD]
  cases hq:args[k]? with
  |none=>exact .j _
  |some u =>
   have hk:k<vs.size:=by rw[←hsz];exact(List.getElem?_eq_some_iff.1 hq).1
   have:=ha.2 k u hq
   simpa[Array.getD_eq_getD_getElem?,Array.getElem?_append,hk]using this
 ·exact .j _
theorem Nd{P:Program}{fn:Func}{c:Code}{args:List AV}{S:Aa}{Q:Bh→Aa→Prop}{n:Nat}(hn:args.length+(fn.ntmps - args.length)=n)(ms:List (List Nat))
    (h:vc P c ms (Gy n args) S (Ao P fn.results.toList Q)) {w:World} {g:Gh} {vs:Array Value} (hh:Ba P w g S) (ha:Fb w g args vs):
    c.wp P (bodyPost P fn fun e w'=>∃ r S' g',Ba P w' g' S'∧Mv w g w' g'∧ER w' g' r e∧Q r S') { tmps:=vs++Array.replicate (fn.ntmps - vs.size) undef,defers:=[] } w:=by
 have hE:BX [] w g (Gy n args) { tmps:=vs++Array.replicate (fn.ntmps - vs.size) undef,defers:=[] }:=BX.begin ha hn
 refine wp_mono (Dx c ms _ S _ h [] w g _ hh hE) ?_
 rintro e a' w' ⟨x,env',S',g',h1,h2,h3,h4,h5⟩
 cases x with
 |normal =>
  cases e with
  |normal =>
   obtain⟨l,v,hrun,hr,hQ⟩:=Mh h1 h2 h5
   exact⟨h2.defers,v,hrun,.ret _,S',g',h1,h3,hr,hQ⟩
  |_=>exact h4.elim
 |ret =>
  cases e with
  |ret =>
   obtain⟨l,v,hrun,hr,hQ⟩:=Mh h1 h2 h5
   exact⟨h2.defers,v,hrun,.ret _,S',g',h1,h3,hr,hQ⟩
  |_=>exact h4.elim
 |pan y =>
  cases e with
  |panic chain=>exact⟨h2.defers,.pan y,S',g',h1,h3,h4,h5⟩
  |_=>exact h4.elim
 |exit id=>exact h5.elim
 |goto l=>exact h5.elim
theorem RI{P:Program}{f:FuncId}{fn:Func}{c:Code}{args:List AV}{S:Aa}{Q:Bh→Aa→Prop}{n:Nat}(hf:P.funcs[f]? = some fn)(hb:fn.body=some c)(he:GW P f=true)(hn:args.length+(fn.ntmps - args.length)=n)(ms:List (List Nat))
    (h:vc P c ms (Gy n args) S (Ao P fn.results.toList Q)):Ad P f args S Q:=
 ⟨Fu he,fun w g vs hh ha=>calls_of_wp hf hb (Nd hn ms h hh ha)⟩
def EA(P:Program)(f:FuncId)(args:List AV)(S:Aa)(Q:Bh→Aa→Prop):Prop:=
 (∀(vs:Array Value) (w:World),(callFunc f vs).run P w = .ok (.enter f vs) w)∧
 ∀(w:World) (g:Gh) (vs:Array Value) (u:FrameMode),Ba P w g S→Fb w g args vs→CallsD P f vs u w (fun e u' w'=>u'=u∧∃ r S' g',Ba P w' g' S'∧Mv w g w' g'∧ER w' g' r e∧Q r S')
theorem J8{P:Program}{f:FuncId}{fn:Func}{c:Code}{args:List AV}{S:Aa}{Q:Bh→Aa→Prop}{n:Nat}(hf:P.funcs[f]? = some fn)(hb:fn.body=some c)(he:GW P f=true)(hn:args.length+(fn.ntmps - args.length)=n)(ms:List (List Nat))
    (h:vc P c ms (Gy n args) S (Ao P fn.results.toList Q)):EA P f args S Q:=
 ⟨Fu he,fun w g vs u hh ha=>callsD_of_wp hf hb (Nd hn ms h hh ha)⟩
def _root_.Go.Code.at_:Code→List Nat→Code
 |c,[]=>c
 |.seq a _,0 :: p=>a.at_ p
 |.seq _ b,_ :: p=>b.at_ p
 |.cond _ a _,0 :: p=>a.at_ p
 |.cond _ _ b,_ :: p=>b.at_ p
 |.block _ c,_ :: p=>c.at_ p
 |.loop c,_ :: p=>c.at_ p
 |.scope c,_ :: p=>c.at_ p
 |c,_=>c
def _root_.Go.Code.AhK:Code→Array Oper
 |.region _ ops _=>ops
 |_=>#[]
end Go.Ab
set_option linter.unusedVariables false
set_option linter.unusedSimpArgs false
namespace Go.Ab
open Go Go.RowKit
variable {D:List Deferred}
def Bw.BA(d:Bool):Bw→Bw
 |.cells t es l=>.cells t es (l && !d)
 |.map kk es l=>.map kk es (l && !d)
 |o=>o
def Bw.aD:Bw→Bool
 |.cells _ _ _|.map _ _ _=>true
 |_=>false
def Aa.BA(S:Aa)(D:Nat→Bool):Aa:=⟨S.n,fun i=>(S.obj i).map (Bw.BA (D i))⟩
def Gh.BA(g:Gh)(S:Aa)(D:Nat→Bool):Gh:=
 { g with im:=fun b=>g.im b∨∃ id o,D id=true∧S.obj id=some o∧o.aD=true∧g.blk id=b }
theorem TH{S:Aa}{D:Nat→Bool}{i:Nat}{o:Bw}(h:(S.BA D).obj i=some o):∃ o0,S.obj i=some o0∧o=o0.BA (D i):=by
 simp only[Aa.BA,Option.map_eq_some_iff]at h
 obtain⟨o0,h1,h2⟩:=h
 exact⟨o0,h1,h2.symm⟩
theorem TI(o:Bw):o.BA false=o:=by cases o<;>simp[Bw.BA]
theorem D0{S:Aa}{D:Nat→Bool}{i:Nat}(h:D i=false):(S.BA D).obj i=S.obj i:=by
 simp only[Aa.BA,h]
 cases S.obj i with
 |none=>rfl
 |some o=>simp[TI]
theorem GK{S:Aa}{D:Nat→Bool}{i:Nat}{t:TypeId}{es:List (List AV)}{l:Bool}(h:S.obj i=some (.cells t es l)):(S.BA D).obj i=some (.cells t es (l && !D i)):=by
 simp[Aa.BA,h,Bw.BA]
theorem U6{S:Aa}{D:Nat→Bool}{i:Nat}{kk:KK}{es:List (Key × AV)}{l:Bool}(h:S.obj i=some (.map kk es l)):(S.BA D).obj i=some (.map kk es (l && !D i)):=by
 simp[Aa.BA,h,Bw.BA]
theorem Hr{P:Program}{w:World}{g:Gh}{S:Aa}(hh:Ba P w g S)(D:Nat→Bool):Mv w g w (g.BA S D):=
 ⟨rfl,rfl,rfl,Nat.le_refl _,fun _ _=>rfl,fun _ h=>.inl h,Nat.le_refl _,fun _ _=>rfl,fun _ _=>rfl,fun _ _=>rfl⟩
theorem MT{o:Bw}{d:Bool}:(o.BA d).live=true→o.live=true∧(o.aD=true→d=false):=by
 cases o<;>cases d<;>simp[Bw.BA,Bw.live,Bw.aD]
theorem aS{o:Bw}{d:Bool}:(o.BA d).live=false→o.live=true→o.aD=true∧d=true:=by
 cases o<;>cases d<;>simp[Bw.BA,Bw.live,Bw.aD]
theorem NK.BA{P:Program}{w:World}{g:Gh}{id:Nat}{o:Bw}(d:Bool)(h:NK P w g id o):NK P w g id (o.BA d):=by
 cases o<;>exact h
theorem F0{P:Program}{w:World}{g:Gh}{S:Aa}(hh:Ba P w g S)(D:Nat→Bool):Ba P w (g.BA S D) (S.BA D) where
 gl:=hh.gl.mv (Hr hh D)
 n:=hh.n
 im b hb:=by
  rcases hb with hb|⟨id,o,_,ho,_,rfl⟩
  ·exact hh.im b hb
  ·exact(hh.ob _ _ ho).blk
 ob i o h:=by
  obtain⟨o0,ho,rfl⟩:=TH h
  have hob:=hh.ob _ _ ho
  refine⟨hob.lt,hob.blk,fun hl=>?_,fun hl=>?_,(hob.row.BA (D i)).mv (Hr hh D) hob.lt rfl⟩
  ·obtain⟨hl0,hD⟩:=MT hl
   rintro(hb|⟨id,o',hD',ho',hf,hb⟩)
   ·exact hob.imY hl0 hb
   ·cases hl':o'.live with
    |true =>
     obtain rfl:=hh.sp _ _ _ _ ho' ho hl' hl0 hb
     rw[ho]at ho'
     cases ho'
     rw[hD hf]at hD'
     cases hD'
    |false=>exact hob.imY hl0 (hb ▸ (hh.ob _ _ ho').imN hl')
  ·cases hl0:o0.live with
   |false=>exact .inl (hob.imN hl0)
   |true =>
    obtain⟨h1,h2⟩:=aS hl hl0
    exact .inr ⟨i,o0,h2,ho,h1,rfl⟩
 sp a b o o' h1 h2 l1 l2 he:=by
  obtain⟨o1,h3,rfl⟩:=TH h1
  obtain⟨o2,h5,rfl⟩:=TH h2
  exact hh.sp _ _ _ _ h3 h5 (MT l1).1 (MT l2).1 he
inductive Cv (S:Aa) (n:Nat):AV→AV→Prop
 |v (x:Value):Cv S n (.v x) (.v x)
 |nl:Cv S n .nl (.l [])
 |nl':Cv S n .nl .nl
 |p (id i j:Nat) (h:id<n):Cv S n (.p id i j) (.p id i j)
 |s' (id b m:Nat) (h:id<n):Cv S n (.s id b m) (.s id b m)
 |s (id b m:Nat) (t:TypeId) (es es2:List (List AV)) (ho:S.obj id=some (.cells t es false)) (hb:b+m≤es.length) (hl:es2.length=m)
    (hc:∀(i:Nat) (c c2:List AV),es[b+i]? = some c→es2[i]? = some c2→c.length=c2.length)
    (hR:∀(i:Nat) (c c2:List AV) (k:Nat) (u u2:AV),es[b+i]? = some c→es2[i]? = some c2→c[k]? = some u→c2[k]? = some u2→Cv S n u u2):Cv S n (.s id b m) (.l es2)
 |l (es es2:List (List AV)) (hl:es.length=es2.length) (hc:∀(i:Nat) (c c2:List AV),es[i]? = some c→es2[i]? = some c2→c.length=c2.length)
    (hR:∀(i:Nat) (c c2:List AV) (k:Nat) (u u2:AV),es[i]? = some c→es2[i]? = some c2→c[k]? = some u→c2[k]? = some u2→Cv S n u u2):Cv S n (.l es) (.l es2)
 |q (c c2:List AV) (j:Nat) (hl:c.length=c2.length) (hR:∀(k:Nat) (u u2:AV),c[k]? = some u→c2[k]? = some u2→Cv S n u u2):Cv S n (.q c j) (.q c2 j)
 |f (fn:Fn) (fs cs fs2 cs2:List AV) (hl:fs.length=fs2.length) (hl2:cs.length=cs2.length) (hR:∀(k:Nat) (u u2:AV),fs[k]? = some u→fs2[k]? = some u2→Cv S n u u2)
    (hR2:∀(k:Nat) (u u2:AV),cs[k]? = some u→cs2[k]? = some u2→Cv S n u u2):Cv S n (.f fn fs cs) (.f fn fs2 cs2)
 |a (cs cs2:List AV) (hl:cs.length=cs2.length) (hR:∀(k:Nat) (u u2:AV),cs[k]? = some u→cs2[k]? = some u2→Cv S n u u2):Cv S n (.a cs) (.a cs2)
 |t (cs cs2:List AV) (hl:cs.length=cs2.length) (hR:∀(k:Nat) (u u2:AV),cs[k]? = some u→cs2[k]? = some u2→Cv S n u u2):Cv S n (.t cs) (.t cs2)
 |i (t:TypeId) (x x2:AV) (h:Cv S n x x2):Cv S n (.i t x) (.i t x2)
 |m (id:Nat) (h:id<n):Cv S n (.m id) (.m id)
 |m' (id:Nat) (kk:KK) (es es2:List (Key × AV)) (ho:S.obj id=some (.map kk es false)) (hl:es.length=es2.length) (hk:∀(i:Nat) (e e2:Key × AV),es[i]? = some e→es2[i]? = some e2→e.1=e2.1)
    (hR:∀(i:Nat) (e e2:Key × AV),es[i]? = some e→es2[i]? = some e2→Cv S n e.2 e2.2):Cv S n (.m id) (.mt kk es2)
 |mt (kk:KK) (es es2:List (Key × AV)) (hl:es.length=es2.length) (hk:∀(i:Nat) (e e2:Key × AV),es[i]? = some e→es2[i]? = some e2→e.1=e2.1)
    (hR:∀(i:Nat) (e e2:Key × AV),es[i]? = some e→es2[i]? = some e2→Cv S n e.2 e2.2):Cv S n (.mt kk es) (.mt kk es2)
 |j:Cv S n .j .j
 |pq (id i j:Nat) (t:TypeId) (es:List (List AV)) (c c2:List AV) (ho:S.obj id=some (.cells t es false)) (hi:es[i]? = some c) (hl:c.length=c2.length)
    (hR:∀(k:Nat) (u u2:AV),c[k]? = some u→c2[k]? = some u2→Cv S n u u2):Cv S n (.p id i j) (.q c2 j)
theorem Cv.one{S:Aa}{n:Nat}{u u2:AV}(h:Cv S n u u2)(h1:u.one=true):u2.one=true:=by
 cases h<;>first|rfl|exact h1|(simp[AV.one]at h1)
def Gh.cut(g:Gh)(n:Nat):Gh:={ g with n:=n }
theorem Cb{α:Type}{l:List α}{n i:Nat}(h:l.length=n)(hi:i<n):∃ x,l[i]? = some x:=⟨_,List.getElem?_eq_getElem (by omega)⟩
theorem HT.conv{kk:KK}{es es2:List (Key × AV)}{ms:Array MapEntry}(h:HT kk es ms)(hl:es.length=es2.length)(hk:∀(i:Nat) (e e2:Key × AV),es[i]? = some e→es2[i]? = some e2→e.1=e2.1):HT kk es2 ms:=by
 refine⟨h.1.trans hl,fun i e2 h2=>?_⟩
 obtain⟨e,h1⟩:=Cb hl (List.getElem?_eq_some_iff.1 h2).1
 rw[←hk i e e2 h1 h2]
 exact h.2 i e h1
theorem NJ{P:Program}{w:World}{g:Gh}{S:Aa}(hh:Ba P w g S){n:Nat}{u u2:AV}(h:Cv S n u u2):∀{y:Value},R w g u y→R w (g.cut n) u2 y:=by
 induction h with
 |v x=>intro y hr;obtain rfl:=hr.BB;exact .v _
 |nl=>intro y hr;obtain⟨A,rfl⟩:=hr.GH;exact .l [] A 0 0 (fun _ _=>undef) (Nat.le_refl _) (fun h=>absurd rfl h) (fun i c' j u h=>by simp at h) (fun i c' j u h=>by simp at h)
 |nl'=>intro y hr;obtain⟨A,rfl⟩:=hr.GH;exact .nl _
 |p id i j h=>intro y hr;obtain⟨_,rfl⟩:=hr.DT;exact .p (g:=g.cut n) id i j h
 |s' id b m h=>intro y hr;obtain⟨_,A,c,rfl,h1,h2,h3⟩:=hr.FX;exact .s (g:=g.cut n) id b m c A h h1 h2 h3
 |s id b m t es es2 ho hb hl hc hR ih =>
  intro y hr
  obtain⟨_,A,c,rfl,h1,h2,h3⟩:=hr.FX
  have hob:=hh.obj _ _ _ _ ho
  obtain⟨cs,hrow,hcs,hro⟩:=hob.row
  subst hl
  refine .l es2 (some A) c (g.sz id) (fun i j=>cs.getD ((b+i)*g.sz id+j) undef) h1 (fun hne=>?_) (fun i c2 j u2 h4 h5=>?_) (fun i c2 j u2 h4 h5=>?_)
  ·have hpos:0<es2.length:=List.length_pos_iff.2 hne
   have hA:=h3 (by omega)
   subst hA
   refine⟨_,rfl,hob.imN rfl,fun i c2 h4=>?_⟩
   have hi:=(List.getElem?_eq_some_iff.1 h4).1
   obtain⟨c1,h5⟩:∃ c1,es[b+i]? = some c1:=⟨_,List.getElem?_eq_getElem (by omega)⟩
   refine⟨by rw[←hc i c1 c2 h5 h4];exact(hro _ _ h5).1,fun j hj=>?_⟩
   have hlt:(b+i)*g.sz id+j<cs.size:=by
    rw[hcs]
    exact GI (List.getElem?_eq_some_iff.1 h5).1 hob.len hj
   rw[Ej,Ee hrow,←Nat.add_assoc,←Nat.add_mul]
   simp[Array.getD_eq_getD_getElem?,Array.getElem?_eq_getElem hlt]
  ·have hi:=(List.getElem?_eq_some_iff.1 h4).1
   obtain⟨c1,h6⟩:∃ c1,es[b+i]? = some c1:=⟨_,List.getElem?_eq_getElem (by omega)⟩
   obtain⟨u,h7⟩:=Cb (hc i c1 c2 h6 h4) (List.getElem?_eq_some_iff.1 h5).1
   exact(hR i c1 c2 j u u2 h6 h4 h7 h5).one ((hro _ _ h6).2 _ _ h7).1
  ·have hi:=(List.getElem?_eq_some_iff.1 h4).1
   obtain⟨c1,h6⟩:∃ c1,es[b+i]? = some c1:=⟨_,List.getElem?_eq_getElem (by omega)⟩
   obtain⟨u,h7⟩:=Cb (hc i c1 c2 h6 h4) (List.getElem?_eq_some_iff.1 h5).1
   exact ih i c1 c2 j u u2 h6 h4 h7 h5 ((hro _ _ h6).2 _ _ h7).2
 |l es es2 hl hc hR ih =>
  intro y hr
  obtain⟨A,c,sz,vs,rfl,h1,hm,h3⟩:=hr.IL
  rw[hl]
  refine .l es2 A c sz vs (by omega) (fun hne=>?_) (fun i c2 j u2 h4 h5=>?_) (fun i c2 j u2 h4 h5=>?_)
  ·have hne':es≠[]:=by
     rintro rfl
     simp at hl
     exact hne (List.eq_nil_of_length_eq_zero hl.symm)
   obtain⟨ad,rfl,him,hcell⟩:=hm hne'
   refine⟨ad,rfl,him,fun i c2 h4=>?_⟩
   obtain⟨c1,h5⟩:=Cb hl (List.getElem?_eq_some_iff.1 h4).1
   exact⟨by rw[←hc i c1 c2 h5 h4];exact(hcell _ _ h5).1,(hcell _ _ h5).2⟩
  ·obtain⟨c1,h6⟩:=Cb hl (List.getElem?_eq_some_iff.1 h4).1
   obtain⟨u,h7⟩:=Cb (hc i c1 c2 h6 h4) (List.getElem?_eq_some_iff.1 h5).1
   exact(hR i c1 c2 j u u2 h6 h4 h7 h5).one (h3 _ _ _ _ h6 h7).1
  ·obtain⟨c1,h6⟩:=Cb hl (List.getElem?_eq_some_iff.1 h4).1
   obtain⟨u,h7⟩:=Cb (hc i c1 c2 h6 h4) (List.getElem?_eq_some_iff.1 h5).1
   exact ih i c1 c2 j u u2 h6 h4 h7 h5 (h3 _ _ _ _ h6 h7).2
 |q c c2 j hl hR ih =>
  intro y hr
  cases hr with
  |q c j ad vs him hm h1 h2 =>
   refine .q c2 j ad vs him (fun k hk=>hm k (by omega)) (fun k u2 h5=>?_) (fun k u2 h5=>?_)
   ·obtain⟨u,h7⟩:=Cb hl (List.getElem?_eq_some_iff.1 h5).1
    exact(hR k u u2 h7 h5).one (h1 _ _ h7)
   ·obtain⟨u,h7⟩:=Cb hl (List.getElem?_eq_some_iff.1 h5).1
    exact ih k u u2 h7 h5 (h2 _ _ h7)
 |f fn fs cs fs2 cs2 hl hl2 hR hR2 ih1 ih2 =>
  intro y hr
  cases hr with
  |f fn fs cs fs' cs' hf hc hF hC =>
   refine .f fn fs2 cs2 fs' cs' (by omega) (by omega) (fun k u2 h5=>?_) (fun k u2 h5=>?_)
   ·obtain⟨u,h7⟩:=Cb hl (List.getElem?_eq_some_iff.1 h5).1
    exact ih1 k u u2 h7 h5 (hF _ _ h7)
   ·obtain⟨u,h7⟩:=Cb hl2 (List.getElem?_eq_some_iff.1 h5).1
    exact ih2 k u u2 h7 h5 (hC _ _ h7)
 |a cs cs2 hl hR ih =>
  intro y hr
  cases hr with
  |a cs cs' hl' h1 h2 =>
   refine .a cs2 cs' (by omega) (fun k u2 h5=>?_) (fun k u2 h5=>?_)
   ·obtain⟨u,h7⟩:=Cb hl (List.getElem?_eq_some_iff.1 h5).1
    exact(hR k u u2 h7 h5).one (h1 _ _ h7)
   ·obtain⟨u,h7⟩:=Cb hl (List.getElem?_eq_some_iff.1 h5).1
    exact ih k u u2 h7 h5 (h2 _ _ h7)
 |t cs cs2 hl hR ih =>
  intro y hr
  cases hr with
  |t cs cs' hl' h2 =>
   refine .t cs2 cs' (by omega) (fun k u2 h5=>?_)
   obtain⟨u,h7⟩:=Cb hl (List.getElem?_eq_some_iff.1 h5).1
   exact ih k u u2 h7 h5 (h2 _ _ h7)
 |i t x x2 h ih =>
  intro y hr
  cases hr with
  |i t x y h'=>exact .i t x2 y (ih h')
 |m id h =>
  intro y hr
  cases hr with
  |m id h'=>exact .m (g:=g.cut n) id h
 |m' id kk es es2 ho hl hk hR ih =>
  intro y hr
  cases hr with
  |m id h' =>
   have hob:=hh.ob _ _ ho
   obtain⟨ms,h1,h2,h3⟩:=hob.row
   refine .mt kk es2 (g.blk id) ms (hob.imN rfl) h1 (h2.conv hl hk) (fun i e2 h5=>?_)
   obtain⟨e,h4⟩:=Cb hl (List.getElem?_eq_some_iff.1 h5).1
   exact ih i e e2 h4 h5 (h3 i e h4)
 |mt kk es es2 hl hk hR ih =>
  intro y hr
  cases hr with
  |mt kk es r ms him hm hrow hR' =>
   refine .mt kk es2 r ms him hm (hrow.conv hl hk) (fun i e2 h5=>?_)
   obtain⟨e,h4⟩:=Cb hl (List.getElem?_eq_some_iff.1 h5).1
   exact ih i e e2 h4 h5 (hR' i e h4)
 |j=>intro y hr;exact .j _
 |pq id i j t es c c2 ho hi hl hR ih =>
  intro y hr
  obtain⟨_,rfl⟩:=hr.DT
  have hob:=hh.obj _ _ _ _ ho
  obtain⟨cs,hrow,hcs,hro⟩:=hob.row
  obtain⟨hc,hu⟩:=hro _ _ hi
  rw[show(⟨g.blk id,i*g.sz id+j,none⟩:Addr)=(⟨g.blk id,i*g.sz id,none⟩:Addr).add j from(Ej _ _ _).symm]
  refine .q c2 j ⟨g.blk id,i*g.sz id,none⟩ (fun k=>cs.getD (i*g.sz id+k) undef) (hob.imN rfl) (fun k hk=>?_) (fun k u2 h5=>?_) (fun k u2 h5=>?_)
  ·have hlt:i*g.sz id+k<cs.size:=by
     rw[hcs]
     exact GI (List.getElem?_eq_some_iff.1 hi).1 hob.len (by omega)
   rw[Ej,Ee hrow]
   simp[Array.getD_eq_getD_getElem?,Array.getElem?_eq_getElem hlt]
  ·obtain⟨u,h7⟩:=Cb hl (List.getElem?_eq_some_iff.1 h5).1
   exact(hR k u u2 h7 h5).one (hu _ _ h7).1
  ·obtain⟨u,h7⟩:=Cb hl (List.getElem?_eq_some_iff.1 h5).1
   exact ih k u u2 h7 h5 (hu _ _ h7).2
theorem R.cl{w:World}{g:Gh}{u:AV}{y:Value}(h:R w g u y)(S:Aa):Cv S g.n u u:=by
 induction h with
 |v x=>exact .v x
 |nl A=>exact .nl'
 |p id i j h=>exact .p id i j h
 |s id i n c A h hn hc hA=>exact .s' id i n h
 |l es A c sz vs hc hm h1 hR ih=>exact .l es es rfl (fun i c c2 h h'=>by rw[h]at h';cases h';rfl) (fun i c c2 k u u2 h h' h3 h4=>by rw[h]at h';cases h';rw[h3]at h4;cases h4;exact ih _ _ _ _ h h3)
 |q c j ad vs him hm h1 hR ih=>exact .q c c j rfl (fun k u u2 h3 h4=>by rw[h3]at h4;cases h4;exact ih _ _ h3)
 |f fn fs cs fs' cs' hf hc hF hC ih1 ih2=>exact .f fn fs cs fs cs rfl rfl (fun k u u2 h3 h4=>by rw[h3]at h4;cases h4;exact ih1 _ _ h3) (fun k u u2 h3 h4=>by rw[h3]at h4;cases h4;exact ih2 _ _ h3)
 |a cs cs' hl h1 hR ih=>exact .a cs cs rfl (fun k u u2 h3 h4=>by rw[h3]at h4;cases h4;exact ih _ _ h3)
 |t cs cs' hl hR ih=>exact .t cs cs rfl (fun k u u2 h3 h4=>by rw[h3]at h4;cases h4;exact ih _ _ h3)
 |i t x y h ih=>exact .i t x x ih
 |m id h=>exact .m id h
 |mt kk es r ms him hm hrow hR ih=>exact .mt kk es es rfl (fun i e e2 h h'=>by rw[h]at h';cases h';rfl) (fun i e e2 h h'=>by rw[h]at h';cases h';exact ih _ _ h)
 |j y=>exact .j
theorem Ru{P:Program}{w:World}{g:Gh}{S:Aa}(hh:Ba P w g S){w':World}{g':Gh}{S':Aa}(hh':Ba P w' g' S')(hk:∀ i,i<S.n→S'.obj i=S.obj i):Ba P w' (g'.cut S.n) S where
 gl:=hh'.gl
 n:=rfl
 im:=hh'.im
 ob i o ho:=by
  have hob0:=hh.ob _ _ ho
  have hi:i<S.n:=by rw[←hh.n];exact hob0.lt
  have ho':=hk i hi
  rw[ho]at ho'
  have hob:=hh'.ob _ _ ho'
  refine⟨hi,hob.blk,hob.imY,hob.imN,?_⟩
  have hr0:=hob0.row
  have hr:=hob.row
  cases o with
  |cells t es l =>
   obtain⟨_,_,cs0,_,_,h03⟩:=hr0
   obtain⟨a1,a2,cs,h1,h2,h3⟩:=hr
   refine⟨a1,a2,cs,h1,h2,fun i c hc=>⟨(h3 i c hc).1,fun k u hu=>⟨((h3 i c hc).2 k u hu).1,?_⟩⟩⟩
   have hcl:=((h03 i c hc).2 k u hu).2.cl S'
   rw[hh.n]at hcl
   exact NJ hh' hcl ((h3 i c hc).2 k u hu).2
  |map kk es l =>
   obtain⟨_,_,_,h03⟩:=hr0
   obtain⟨ms,h1,h2,h3⟩:=hr
   refine⟨ms,h1,h2,fun i e he=>?_⟩
   have hcl:=(h03 i e he).cl S'
   rw[hh.n]at hcl
   exact NJ hh' hcl (h3 i e he)
  |sit s pos=>exact hr
  |mit x n seen =>
   obtain⟨_,_,h03⟩:=hr0
   obtain⟨r,h1,h2⟩:=hr
   have hcl:=h03.cl S'
   rw[hh.n]at hcl
   exact⟨r,h1,NJ hh' hcl h2⟩
 sp a b o o' h1 h2 l1 l2 he:=by
  have ha:a<S.n:=by rw[←hh.n];exact(hh.ob _ _ h1).lt
  have hb:b<S.n:=by rw[←hh.n];exact(hh.ob _ _ h2).lt
  exact hh'.sp _ _ _ _ ((hk a ha).trans h1) ((hk b hb).trans h2) l1 l2 he
theorem Yg{w:World}{g:Gh}{w':World}{g':Gh}{n:Nat}(m:Mv w g w' g')(hn:g.n=n):Mv w g w' (g'.cut n):=
 ⟨m.os,m.tape,m.output,m.size,m.AR,m.im,by rw[hn];exact Nat.le_refl _,m.blk,m.sz,m.cap⟩
def AL(n:Nat)(i:Nat):Bool:=decide (n≤i)
theorem Ad.tree{P:Program}{f:FuncId}{args:List AV}{S:Aa}{tr:AV}(h:Ad P f args S (fun e S'=>∃ r,e = .ret r∧Am S S'∧Cv (S'.BA (AL S.n)) S.n r tr)):Ad P f args S (fun e S'=>e = .ret tr∧S'=S):=by
 refine⟨h.1,fun w g vs hh ha=>(h.2 w g vs hh ha).mono ?_⟩
 rintro e w' ⟨_,S',g',h1,h2,h3,r,rfl,hk,hcv⟩
 cases e with
 |returned v =>
  have hf:=F0 h1 (AL S.n)
  have hm:=Hr h1 (AL S.n)
  refine⟨.ret tr,S,(g'.BA S' (AL S.n)).cut S.n,Ru hh hf (fun i hi=>?_),Yg (h2.trans hm) hh.n,NJ hf hcv (R.mv hm h3),rfl,rfl⟩
  rw[←hk.2 i hi]
  exact D0 (by simp[AL];omega)
 |panicked chain=>exact h3.elim
 |outgrown=>exact h3.elim
theorem Fb.cv{P:Program}{w:World}{g:Gh}{S:Aa}(hh:Ba P w g S){n:Nat}{args args2:List AV}{vs:Array Value}(hl:args.length=args2.length)
    (hcv:∀(k:Nat) (u u2:AV),args[k]? = some u→args2[k]? = some u2→Cv S n u u2) (ha:Fb w g args vs):Fb w (g.cut n) args2 vs:=by
 refine⟨by rw[←hl];exact ha.1,fun k u2 h2=>?_⟩
 obtain⟨u,hu⟩:=Cb hl (List.getElem?_eq_some_iff.1 h2).1
 exact NJ hh (hcv k u u2 hu h2) (ha.2 _ _ hu)
theorem Ad.BA{P:Program}{f:FuncId}{args args2:List AV}{S:Aa}(D:Nat→Bool){Q:Bh→Aa→Prop}(hl:args.length=args2.length)
    (hcv:∀(k:Nat) (u u2:AV),args[k]? = some u→args2[k]? = some u2→Cv (S.BA D) S.n u u2) (h:Ad P f args2 (S.BA D) Q):Ad P f args S Q:=by
 refine⟨h.1,fun w g vs hh ha=>?_⟩
 have hf:=F0 hh D
 have hm:=Hr hh D
 have hn:(g.BA S D).n=S.n:=hh.n
 have ha1:Fb w (g.BA S D) args vs:=⟨ha.1,fun k u hu=>(ha.2 k u hu).mv hm⟩
 have ha2:=Fb.cv hf hl hcv ha1
 have hcut:(g.BA S D).cut S.n=g.BA S D:=by
  rw[←hn]
  rfl
 rw[hcut]at ha2
 refine(h.2 w _ vs hf ha2).mono ?_
 rintro e w' ⟨r,S',g',h1,h2,h3,h4⟩
 exact⟨r,S',g',h1,hm.trans h2,h3,h4⟩
def DY(n id:Nat)(i:Nat):Bool:=decide (n≤i) && !decide (i=id)
end Go.Ab
set_option linter.unusedVariables false
set_option linter.unusedSimpArgs false
namespace Go.Ab
open Go Go.RowKit
variable {D:List Deferred}
abbrev aI(i:Int):AV:=.v (.int .i64 i)
abbrev aB(b:Bool):AV:=.v (.bool b)
def aL{α:Type}(f:α→AV)(l:List α):AV:=.l (l.map fun x=>[f x])
def AT(P:Program)(f:FuncId)(args:List AV)(S:Aa)(r:AV):Prop:=Ad P f args S (fun e S'=>e = .ret r∧S'=S)
def BF(P:Program)(f:FuncId)(args:List AV)(r:AV):Prop:=∀ S,Ad P f args S (fun e S'=>e = .ret r∧S'=S)
theorem Af{P:Program}{f:FuncId}{args:List AV}{r:AV}(h:BF P f args r){S:Aa}{Q:Bh→Aa→Prop}{K:AV→Aa→Prop}(k:K r S):Ah P f args S Q K:=
 .inl ((h S).mono fun e S' h=>by obtain⟨rfl,rfl⟩:=h;exact k)
theorem At{P:Program}{f:FuncId}{args:List AV}{r:AV}{S:Aa}(h:AT P f args S r){Q:Bh→Aa→Prop}{K:AV→Aa→Prop}(k:K r S):Ah P f args S Q K:=
 .inl (Ad.mono h fun e S' h=>by obtain⟨rfl,rfl⟩:=h;exact k)
theorem BL{P:Program}{f:FuncId}{fs args cs:List AV}{r:AV}{S:Aa}(h:AT P f (fs++args++cs) S r){K X:AV→Aa→Prop}(k:K r S):Bg P (.f (.func f) fs cs) args S K X:=
 .inl (Ad.mono h fun e S' h=>by obtain⟨rfl,rfl⟩:=h;exact k)
theorem Al{b:Bool}{A B:Prop}(h1:b=true→A)(h2:b=false→B):gd b A B:=by cases b<;>simp_all [gd]
section
variable {S:Aa} {K:AV→Aa→Prop}
@[simp] theorem Ag(b:Bool)(K:Bool→Prop):KC (.v (.bool b)) K=K b:=rfl
@[simp] theorem xI(es:List (List AV)):AF (.l es) S K=K (.v (.int .i64 es.length)) S:=rfl
@[simp] theorem Dm(id b n:Nat):AF (.s id b n) S K=K (.v (.int .i64 n)) S:=rfl
@[simp] theorem lJ:AF .nl S K=K (.v (.int .i64 0)) S:=rfl
@[simp] theorem Ax{α:Type}(f:α→AV)(l:List α):AF (aL f l) S K=K (.v (.int .i64 l.length)) S:=by simp[aL]
@[simp] theorem A1(u:AV):Ay (.q [u] 0) S K=K u S:=by simp[Ay,Sq,place]
theorem AM{α:Type}{f:α→AV}{l:List α}{e:Nat}{i:Nat}(h:i<l.length):AS e 1 (aL f l) (.v (.int .i64 i)) S K=K (.q [f l[i]] 0) S:=by
 have:(i:Int)<l.length:=by omega
 simp[AS,Aw,aL,h,this]
@[simp] theorem As(k:IntKind)(a b:Int)(kd:Nat):bin .lss kd (.v (.int k a)) (.v (.int k b)) S K=K (.v (.bool (decide (a<b)))) S:=by simp[bin,b2,Hz,HP]
@[simp] theorem Di(k:IntKind)(a b:Int)(kd:Nat):bin .leq kd (.v (.int k a)) (.v (.int k b)) S K=K (.v (.bool (decide (a≤b)))) S:=by simp[bin,b2,Hz,HP]
@[simp] theorem AO(k:IntKind)(a b:Int)(kd:Nat):bin .gtr kd (.v (.int k a)) (.v (.int k b)) S K=K (.v (.bool (decide (b<a)))) S:=by simp[bin,b2,Hz,HP]
@[simp] theorem BH(k:IntKind)(a b:Int)(kd:Nat):bin .geq kd (.v (.int k a)) (.v (.int k b)) S K=K (.v (.bool (decide (b≤a)))) S:=by simp[bin,b2,Hz,HP]
@[simp] theorem AA(k:IntKind)(a b:Int)(kd:Nat):bin .eql kd (.v (.int k a)) (.v (.int k b)) S K=K (.v (.bool (decide (a=b)))) S:=by
 simp only[bin,b2,Hz,HP,BP,if_true,Bool.false_eq_true,if_false];rfl
@[simp] theorem Bl(k:IntKind)(a b:Int)(kd:Nat):bin .neq kd (.v (.int k a)) (.v (.int k b)) S K=K (.v (.bool (!decide (a=b)))) S:=by
 simp only[bin,b2,Hz,HP,BP,if_true,Bool.false_eq_true,if_false];rfl
@[simp] theorem Kd(a b:Bool):bin .eql 1 (.v (.bool a)) (.v (.bool b)) S K=K (.v (.bool (a == b))) S:=by simp[bin,b2]
@[simp] theorem DI(a b:Bool):bin .neq 1 (.v (.bool a)) (.v (.bool b)) S K=K (.v (.bool (a != b))) S:=by
 simp only[bin,b2,if_true,BP];rfl
theorem wrap64{n:Int}(h:-9223372036854775808≤n)(h':n≤9223372036854775807):IntKind.i64.wrap n=n:=by
 rw[IntKind.wrap_i64];omega
theorem Ar{a b:Int}(h:-9223372036854775808≤a+b)(h':a+b≤9223372036854775807)(kd:Nat):bin .add kd (.v (.int .i64 a)) (.v (.int .i64 b)) S K=K (.v (.int .i64 (a+b))) S:=by
 simp[bin,b2,Hz,HP,Qc,wrap64 h h']
@[simp] theorem AJ(b:Bool):un .not (.v (.bool b)) S K=K (.v (.bool !b)) S:=rfl
end
section
variable {S:Aa} {K:AV→Aa→Prop}
@[simp] theorem AbR(o:Bw):(S.new o).n=S.n+1:=rfl
@[simp] theorem AhJ(i:Nat)(o:Bw):(S.Dl i o).n=S.n:=rfl
@[simp] theorem AgU(i:Nat):(S.kill i).n=S.n:=rfl
theorem UB(o:Bw)(i:Nat):(S.new o).obj i=if i=S.n then some o else S.obj i:=rfl
theorem Ul(j:Nat)(o:Bw)(i:Nat):(S.Dl j o).obj i=if i=j then some o else S.obj i:=rfl
@[simp] theorem B1(o:Bw):(S.new o).obj S.n=some o:=by simp[UB]
@[simp] theorem BG(j:Nat)(o:Bw):(S.Dl j o).obj j=some o:=by simp[Ul]
theorem I3{o:Bw}{i:Nat}(h:i<S.n):(S.new o).obj i=S.obj i:=by rw[UB,if_neg (by omega)]
theorem C3{j:Nat}{o:Bw}{i:Nat}(h:i≠j):(S.Dl j o).obj i=S.obj i:=by rw[Ul,if_neg h]
theorem x8(t:Nat)(cs:List AV):Az t cs.length (.a cs) S K=K (.p S.n 0 0) (S.new (.cells t [cs] true)):=by simp[Az,cellsOf]
theorem x9{t:Nat}{u:AV}(h:u.one=true):Az t 1 u S K=K (.p S.n 0 0) (S.new (.cells t [[u]] true)):=by
 have:cellsOf u=some [u]:=by cases u<;>first|rfl|(simp[AV.one]at h;simp[cellsOf,AV.one,h];done)|(simp[AV.one]at h)
 simp[Az,this]
theorem An{id t n:Nat}{cs:List AV}{l:Bool}(h:S.obj id=some (.cells t [cs] l))(hn:cs.length=n):AB n (.p id 0 0) S K=K (.a cs) S:=by
 subst hn
 simp[AB,Xp,place,Aa.get,h]
theorem Ae{id i j t:Nat}{es:List (List AV)}{c:List AV}{u:AV}{l:Bool}(h:S.obj id=some (.cells t es l))(hi:es[i]? = some c)(hj:c[j]? = some u):Ay (.p id i j) S K=K u S:=by
 simp[Ay,Sq,place,Aa.get,h,hi,hj]
@[simp] theorem Ac(id i j n:Nat):shift (.p id i j) n S K=K (.p id i (j+n)) S:=rfl
theorem Aa8{id i t:Nat}{es:List (List AV)}{u0 u:AV}(h:S.obj id=some (.cells t es true))(hi:es[i]? = some [u0])(hu:u.one=true):A8 1 (.p id i 0) u S K=K .j (S.Dl id (.cells t (es.set i [u]) true)):=by
 have:cellsOf u=some [u]:=by cases u<;>first|rfl|(simp[AV.one]at hu;simp[cellsOf,AV.one,hu];done)|(simp[AV.one]at hu)
 simp[A8,zL,this,h,hi,Kq]
theorem Aa9{id t n:Nat}{cs cs':List AV}(h:S.obj id=some (.cells t [cs] true))(hn:cs'.length=n)(hl:cs.length=n):A8 n (.p id 0 0) (.a cs') S K=K .j (S.Dl id (.cells t [cs'] true)):=by
 subst hn
 have:cs.drop cs'.length = []:=List.drop_eq_nil_of_le (by omega)
 simp[A8,zL,cellsOf,h,Kq,hl,this]
theorem Cf{e sz id b n i:Nat}{es:List (List AV)}{l:Bool}(hi:i<n)(h:S.obj id=some (.cells e es l)):AS e sz (.s id b n) (.v (.int .i64 i)) S K=K (.p id (b+i) 0) S:=by
 have:(i:Int)<n:=by omega
 simp[AS,Aw,Aa.ty,h,this]
theorem AbV{e b n:Nat}{zc:List AV}(hb:b*n≤281474976710656)(hn:n≤9223372036854775807):Ql e b zc (.v (.int .i64 n)) (.v (.int .i64 n)) S K=K (.s S.n 0 n) (S.new (.cells e (List.replicate n zc) true)):=by
 have h1:(b:Int)*n≤281474976710656:=by
  have h:=Int.ofNat_le.2 hb
  rw[Int.natCast_mul]at h
  omega
 have h2:(n:Int)≤9223372036854775807:=by omega
 have h0:(0:Int)≤n:=by omega
 simp only[Ql,Aw,BP,h0,h1,h2,Int.le_refl,Int.toNat_natCast,and_self,true_and]
end
section
variable {S:Aa} {K:AV→Aa→Prop}
theorem Ai{t n:Nat}{cs:List AV}(hn:cs.length=n)(k:∀ S',Am S S'→S'.n=S.n+1→S'.obj S.n=some (.cells t [cs] true)→K (.p S.n 0 0) S'):Az t n (.a cs) S K:=by
 subst hn
 rw[x8]
 exact k _ ((Am.refl S).new _) rfl (B1 _)
theorem BN{t:Nat}{u:AV}(h:u.one=true)(k:∀ S',Am S S'→S'.n=S.n+1→S'.obj S.n=some (.cells t [[u]] true)→K (.p S.n 0 0) S'):Az t 1 u S K:=by
 rw[x9 h]
 exact k _ ((Am.refl S).new _) rfl (B1 _)
theorem Lg{e b n:Nat}{zc:List AV}(hb:b*n≤281474976710656)(hn:n≤9223372036854775807)(k:∀ S',Am S S'→S'.n=S.n+1→S'.obj S.n=some (.cells e (List.replicate n zc) true)→K (.s S.n 0 n) S'):Ql e b zc (.v (.int .i64 n)) (.v (.int .i64 n)) S K:=by
 rw[AbV hb hn]
 exact k _ ((Am.refl S).new _) rfl (B1 _)
theorem B9{id i t:Nat}{es:List (List AV)}{u0 u:AV}(h:S.obj id=some (.cells t es true))(hi:es[i]? = some [u0])(hu:u.one=true)(k:∀ S',S'.n=S.n→S'.obj id=some (.cells t (es.set i [u]) true)→(∀ x,x≠id→S'.obj x=S.obj x)→K .j S'):A8 1 (.p id i 0) u S K:=by
 rw[Aa8 h hi hu]
 exact k _ rfl (BG _ _) (fun x hx=>C3 hx)
theorem AG{id t n:Nat}{cs cs':List AV}(h:S.obj id=some (.cells t [cs] true))(hn:cs'.length=n)(hl:cs.length=n)(k:∀ S',S'.n=S.n→S'.obj id=some (.cells t [cs'] true)→(∀ x,x≠id→S'.obj x=S.obj x)→K .j S'):A8 n (.p id 0 0) (.a cs') S K:=by
 rw[Aa9 h hn hl]
 exact k _ rfl (BG _ _) (fun x hx=>C3 hx)
end
theorem Am.st{S0 S S':Aa}(h:Am S0 S){id:Nat}(hid:S0.n≤id)(hn:S'.n=S.n)(ho:∀ x,x≠id→S'.obj x=S.obj x):Am S0 S':=
 ⟨by rw[hn];exact h.1,fun i hi=>by rw[ho i (by omega)];exact h.2 i hi⟩
theorem Ad.Bu{P:Program}{fn:FuncId}{args:List AV}{S:Aa}{x:Value}(h:Ad P fn args S (fun r S'=>r = .ret (.v x)∧Am S S')):AT P fn args S (.v x):=
 Ad.tree (Ad.mono h fun r S' ⟨h1,h2⟩=>⟨_,h1,h2,.v _⟩)
theorem Cw{u:AV}(hu:u.one=true):cellsOf u=some [u]:=by
 cases u<;>first|rfl|(simp[AV.one]at hu;simp[cellsOf,AV.one,hu];done)|(simp[AV.one]at hu)
theorem eO{e:Nat}{z u v:AV}{S:Aa}{K:AV→Aa→Prop}(hu:u.one=true)(hv:v.one=true)(k:K (.l [[u],[v]]) S):AU e 1 2 [z] [(0,u),(1,v)] S K:=by
 refine⟨[u,v],?_,.inr ?_⟩
 ·simp[CC,Cw hu,Cw hv,Kq,List.range_succ]
 ·simpa[chunks,List.range_succ]using k
def A4(n:Nat)(S:Aa)(x:AV)(e:Nat)(es:List (List AV)):Prop:=
 (x = .nl∧es = [])∨∃ id,x = .s id 0 es.length∧n≤id∧id<S.n∧S.obj id=some (.cells e es true)
theorem A4.nl(n:Nat)(S:Aa)(e:Nat):A4 n S .nl e []:=.inl ⟨rfl,rfl⟩
theorem A4.len{n:Nat}{S:Aa}{x:AV}{e:Nat}{es:List (List AV)}(h:A4 n S x e es){K:AV→Aa→Prop}:AF x S K=K (.v (.int .i64 es.length)) S:=by
 rcases h with⟨rfl,rfl⟩|⟨id,rfl,_,_,_⟩<;>rfl
theorem A4.AeK{n:Nat}{S:Aa}{x:AV}{e:Nat}{es:List (List AV)}(h:A4 n S x e es):Od x=true:=by
 rcases h with⟨rfl,rfl⟩|⟨id,rfl,_,_,_⟩<;>rfl
def zK(S S':Aa)(x:AV):Prop:=S.n≤S'.n∧∀ i,i<S.n→(∀ b n,x≠.s i b n)→S'.obj i=S.obj i
theorem A4.P1{n:Nat}{S S':Aa}{x y:AV}{e:Nat}{es:List (List AV)}(h:A4 n S y e es)(hb:zK S S' x)(hx:∀ i b m b' m',x = .s i b m→y≠.s i b' m'):A4 n S' y e es:=by
 rcases h with⟨rfl,rfl⟩|⟨id,rfl,h1,h2,h3⟩
 ·exact .nl _ _ _
 ·exact .inr ⟨id,rfl,h1,Nat.lt_of_lt_of_le h2 hb.1,by rw[hb.2 id h2 (fun b m hq=>hx id b m _ _ hq rfl)];exact h3⟩
theorem A4.AR{n:Nat}{S S':Aa}{x:AV}{e:Nat}{es:List (List AV)}(h:A4 n S x e es){S0:Aa}(hn:S0.n≤n)(hb:zK S S' x)(k:Am S0 S):Am S0 S':=by
 refine⟨Nat.le_trans k.1 hb.1,fun i hi=>?_⟩
 rw[hb.2 i (Nat.lt_of_lt_of_le hi k.1) (fun b m hq=>?_)]
 ·exact k.2 i hi
 ·rcases h with⟨rfl,rfl⟩|⟨id,rfl,h1,h2,h3⟩
  ·cases hq
  ·cases hq
   omega
theorem A4.app{n:Nat}{S:Aa}{x:AV}{e sz b:Nat}{es:List (List AV)}(h:A4 n S x e es)(hn:n≤S.n){c:List AV}{K:AV→Aa→Prop}(hc:c.length=sz)(hb:(es.length+1)*b≤140737488355328)
    (k:∀ x' S',A4 n S' x' e (es ++ [c])→zK S S' x→(∃ m,x' = .s S.n 0 m)→K x' S') {y:AV} (hy:IZ S y=some [c]):Bo e sz b x y S K:=by
 refine⟨h.AeK,[c],hy,by simpa using hc,?_⟩
 rcases h with⟨rfl,rfl⟩|⟨id,rfl,h1,h2,h3⟩
 ·refine⟨by simpa using hb,k _ _ (.inr ⟨S.n,rfl,hn,Nat.lt_succ_self _,by simp[Aa.new]⟩) ⟨Nat.le_succ _,fun i hi _=>?_⟩ ⟨_,rfl⟩⟩
  simp only[Aa.new];rw[if_neg (by omega)]
 ·simp only[Qf,h3,List.take_length,Nat.le_refl]
  refine⟨⟨trivial,trivial,by simpa using hb⟩,k _ _ (.inr ⟨S.n,by simp,hn,Nat.lt_succ_self _,by simp[Aa.new,Aa.kill]⟩) ⟨Nat.le_succ _,fun i hi hne=>?_⟩ ⟨_,rfl⟩⟩
  have e1:i≠S.n:=by omega
  have e2:i≠id:=fun hq=>hne 0 es.length (by rw[hq])
  simp[Aa.new,Aa.kill,e1,e2]
theorem A4.ix{n:Nat}{S:Aa}{x:AV}{e:Nat}{es:List (List AV)}(h:A4 n S x e es){i:Nat}(hi:i<es.length):∃ id,x = .s id 0 es.length∧n≤id∧id<S.n∧S.obj id=some (.cells e es true):=by
 rcases h with⟨rfl,rfl⟩|h
 ·simp at hi
 ·exact h
theorem A4.low{n n':Nat}{S:Aa}{x:AV}{e:Nat}{es:List (List AV)}(h:A4 n S x e es)(hn:n'≤n):A4 n' S x e es:=by
 rcases h with h|⟨id,h1,h2,h3,h4⟩
 ·exact .inl h
 ·exact .inr ⟨id,h1,by omega,h3,h4⟩
theorem A4.same{n:Nat}{S S':Aa}{x:AV}{e:Nat}{es:List (List AV)}(h:A4 n S x e es)(hn:S.n≤S'.n)(ho:∀ i,n≤i→i<S.n→S'.obj i=S.obj i):A4 n S' x e es:=by
 rcases h with h|⟨id,h1,h2,h3,h4⟩
 ·exact .inl h
 ·exact .inr ⟨id,h1,h2,by omega,by rw[ho id h2 h3];exact h4⟩
theorem A4.st{n:Nat}{S S':Aa}{x:AV}{e:Nat}{es:List (List AV)}(h:A4 n S x e es){id:Nat}(hx:∀ b m,x≠.s id b m)(hn:S'.n=S.n)(ho:∀ i,i≠id→S'.obj i=S.obj i):A4 n S' x e es:=by
 rcases h with h|⟨id',h1,h2,h3,h4⟩
 ·exact .inl h
 ·exact .inr ⟨id',h1,h2,by omega,by rw[ho id' (fun e=>hx _ _ (by rw[h1,e]))];exact h4⟩
theorem A4.lt{n:Nat}{S:Aa}{x:AV}{e:Nat}{es:List (List AV)}(h:A4 n S x e es){i b m:Nat}(hx:x = .s i b m):n≤i∧i<S.n:=by
 rcases h with⟨h,_⟩|⟨id',h1,h2,h3,h4⟩
 ·rw[h]at hx;cases hx
 ·rw[h1]at hx;cases hx;exact⟨h2,h3⟩
def DL(x y:AV):Prop:=∀ i b m b' m',x = .s i b m→y≠.s i b' m'
theorem BM{e:Nat}{z u:AV}{S:Aa}{K:AV→Aa→Prop}(hu:u.one=true)(hA:∀ cs,u≠.a cs)(k:K (.l [[u]]) S):AU e 1 1 [z] [(0,u)] S K:=by
 refine⟨[u],?_,.inr ?_⟩
 ·have:cellsOf u=some [u]:=by cases u<;>first|rfl|(simp[AV.one]at hu;simp[cellsOf,AV.one,hu];done)|(simp[AV.one]at hu)|(simp[cellsOf,hu])
  simp[CC,this,Kq]
 ·simpa[chunks]using k
theorem A4.cv{n:Nat}{S:Aa}{x:AV}{e:Nat}{es es2:List (List AV)}(h:A4 n S x e es){m:Nat}(hm:n=m)(hl:es.length=es2.length)(hc:∀(i:Nat) (c c2:List AV),es[i]? = some c→es2[i]? = some c2→c.length=c2.length∧∀(k:Nat) (u u2:AV),c[k]? = some u→c2[k]? = some u2→Cv (S.BA (AL n)) m u u2):Cv (S.BA (AL n)) m x (.l es2):=by
 rcases h with⟨rfl,rfl⟩|⟨id,rfl,h1,h2,h3⟩
 ·have:es2 = []:=List.eq_nil_of_length_eq_zero hl.symm
  subst this
  exact .nl
 ·refine .s id 0 es.length e es es2 ?_ (by simp) hl.symm (fun i c c2 hi hi2=>(hc i c c2 (by simpa using hi) hi2).1) (fun i c c2 k u u2 hi hi2 hk hk2=>(hc i c c2 (by simpa using hi) hi2).2 k u u2 hk hk2)
  rw[GK h3]
  have:AL n id=true:=by simp[AL,h1]
  simp[this]
theorem A4.mM{α:Type}{f:α→Value}{n:Nat}{S:Aa}{x:AV}{e:Nat}{l:List α}(h:A4 n S x e (l.map fun a=>[.v (f a)])):Cv (S.BA (AL n)) n x (aL (fun a=>.v (f a)) l):=
 h.cv rfl rfl (fun i c c2 hi hi2=>by
  rw[hi]at hi2
  cases hi2
  refine⟨rfl,fun k u u2 hk hk2=>?_⟩
  rw[hk]at hk2
  cases hk2
  rw[List.getElem?_map]at hi
  obtain⟨a,_,rfl⟩:=Option.map_eq_some_iff.1 hi
  cases k with
  |zero=>cases hk;exact .v _
  |succ k=>simp at hk)
theorem Ad.GY{α:Type}{f:α→Value}{P:Program}{fn:FuncId}{args:List AV}{e:Nat}{l:List α}(h:∀ S,Ad P fn args S (fun r S'=>∃ x,r = .ret x∧Am S S'∧A4 S.n S' x e (l.map fun a=>[.v (f a)]))):BF P fn args (aL (fun a=>.v (f a)) l):=
 fun S=>Ad.tree ((h S).mono fun r S' ⟨x,h1,h2,h3⟩=>⟨x,h1,h2,h3.mM⟩)
theorem sZ{α:Type}{f:α→Value}{S:Aa}{n:Nat}(l:List α):Cv S n (aL (fun a=>.v (f a)) l) (aL (fun a=>.v (f a)) l):=by
 refine .l _ _ rfl (fun i c c2 h h2=>by rw[h]at h2;cases h2;rfl) (fun i c c2 k u u2 h h2 hk hk2=>?_)
 rw[h]at h2
 cases h2
 rw[hk]at hk2
 cases hk2
 rw[List.getElem?_map]at h
 obtain⟨a,_,rfl⟩:=Option.map_eq_some_iff.1 h
 cases k with
 |zero=>cases hk;exact .v _
 |succ k=>simp at hk
theorem Ad.B2{α:Type}{f:α→Value}{P:Program}{fn:FuncId}{args:List AV}{S:Aa}{l:List α}(h:Ad P fn args S (fun r S'=>r = .ret (aL (fun a=>.v (f a)) l)∧Am S S')):AT P fn args S (aL (fun a=>.v (f a)) l):=
 Ad.tree (Ad.mono h fun r S' ⟨h1,h2⟩=>⟨_,h1,h2,sZ l⟩)
theorem HA(S:Aa):S.BA (fun _=>false)=S:=by
 cases S with
 |mk n obj =>
  simp only[Aa.BA]
  congr
  funext i
  cases hq:obj i with
  |none=>rfl
  |some o=>simp[TI]
theorem Ad.conv{P:Program}{f:FuncId}{args args2:List AV}{S:Aa}{Q:Bh→Aa→Prop}(hl:args.length=args2.length)
    (hcv:∀(k:Nat) (u u2:AV),args[k]? = some u→args2[k]? = some u2→Cv S S.n u u2) (h:Ad P f args2 S Q):Ad P f args S Q:=
 Ad.BA (fun _=>false) hl (by rw[HA];exact hcv) (by rw[HA];exact h)
def avB:AV→List Bool
 |.l es=>es.map fun c=>match c with|[.v (.bool b)]=>b|_=>false
 |_=>[]
@[simp] theorem gV(l:List Bool):avB (aL aB l)=l:=by
 simp[avB,aL,Function.comp_def]
end Go.Ab
set_option linter.unusedVariables false
set_option linter.unusedSimpArgs false
namespace Go.Ab
open Go Go.RowKit
variable {D:List Deferred}
def Tree(t:AV):Prop:=∀(S:Aa) (n:Nat),Cv S n t t
theorem Tree.v(x:Value):Tree (.v x):=fun _ _=>.v x
theorem Tree.l{es:List (List AV)}(h:∀ c∈es,∀ u∈c,Tree u):Tree (.l es):=fun S n =>
 .l _ _ rfl (fun i c c2 h1 h2=>by rw[h1]at h2;cases h2;rfl) (fun i c c2 k u u2 h1 h2 h3 h4=>by
  rw[h1]at h2;cases h2
  rw[h3]at h4;cases h4
  exact h c (List.mem_of_getElem? h1) u (List.mem_of_getElem? h3) S n)
theorem Tree.a{cs:List AV}(h:∀ u∈cs,Tree u):Tree (.a cs):=fun S n =>
 .a _ _ rfl (fun k u u2 h3 h4=>by rw[h3]at h4;cases h4;exact h u (List.mem_of_getElem? h3) S n)
theorem Tree.aL{α:Type}{f:α→AV}{l:List α}(h:∀ a∈l,Tree (f a)):Tree (aL f l):=Tree.l fun c hc u hu=>by
 obtain⟨a,ha,rfl⟩:=List.mem_map.1 hc
 obtain rfl:=List.mem_singleton.1 hu
 exact h a ha
theorem Ek(l:List Bool):Tree (aL aB l):=Tree.aL fun _ _=>Tree.v _
theorem D7(l:List Int):Tree (aL aI l):=Tree.aL fun _ _=>Tree.v _
theorem B4{S:Aa}{K:AV→Aa→Prop}{id t j:Nat}{cs:List AV}{u:AV}(h:S.obj id=some (.cells t [cs] true))(hj:j<cs.length)(hu:u.one=true)
    (k:∀ S',S'.n=S.n→S'.obj id=some (.cells t [cs.set j u] true)→(∀ x,x≠id→S'.obj x=S.obj x)→K .j S'):A8 1 (.p id 0 j) u S K:=by
 have hs:Kq cs j [u]=cs.set j u:=by
  simp only[Kq,List.length_singleton]
  rw[List.set_eq_take_append_cons_drop,if_pos hj]
  simp
 have h1:j + [u].length≤cs.length:=by simp;omega
 refine⟨[u],Cw hu,rfl,?_⟩
 simp only[zL,h]
 simp only[List.getElem?_cons_zero,Option.bind_some,if_pos h1,hs,List.set_cons_zero]
 exact⟨_,rfl,k _ rfl (BG _ _) fun x hx=>C3 hx⟩
section
variable {S:Aa} {K:AV→Aa→Prop}
theorem Ez{a b:Int}(hb:b≠0)(k:IntKind)(kd:Nat):bin .rem kd (.v (.int k a)) (.v (.int k b)) S K=K (.v (.int k (a.tmod b))) S:=by
 simp[bin,b2,Hz,HP,Qc,hb]
theorem Fy{a b:Int}(hb:b≠0)(h1:-9223372036854775808≤a.tdiv b)(h2:a.tdiv b≤9223372036854775807)(kd:Nat):bin .quo kd (.v (.int .i64 a)) (.v (.int .i64 b)) S K=K (.v (.int .i64 (a.tdiv b))) S:=by
 simp[bin,b2,Hz,HP,Qc,hb,wrap64 h1 h2]
theorem Bx{a b:Int}(h:-9223372036854775808≤a - b)(h':a - b≤9223372036854775807)(kd:Nat):bin .sub kd (.v (.int .i64 a)) (.v (.int .i64 b)) S K=K (.v (.int .i64 (a - b))) S:=by
 simp[bin,b2,Hz,HP,Qc,wrap64 h h']
theorem Iu{a b:Int}(h:-9223372036854775808≤a*b)(h':a*b≤9223372036854775807)(kd:Nat):bin .mul kd (.v (.int .i64 a)) (.v (.int .i64 b)) S K=K (.v (.int .i64 (a*b))) S:=by
 simp[bin,b2,Hz,HP,Qc,wrap64 h h']
theorem P4{a b:Int}(hb:0≤b)(k k':IntKind)(kd:Nat):bin .shr kd (.v (.int k a)) (.v (.int k' b)) S K=K (.v (.int k (a.fdiv (2 ^ min b.toNat k.bits)))) S:=by
 have:¬ b<0:=by omega
 simp[bin,b2,Hz,shI,this]
theorem L8(k k':IntKind)(a:Int):Cq k (.v (.int k' a)) S K=K (.v (.int k (k.wrap a))) S:=rfl
theorem Gc(k':IntKind){a:Int}(h:-9223372036854775808≤a)(h':a≤9223372036854775807):Cq .i64 (.v (.int k' a)) S K=K (aI a) S:=by
 rw[L8,wrap64 h h']
theorem IK{e sz i:Nat}{es:List (List AV)}(h:i<es.length)(hs:(es[i]).length=sz):AS e sz (.l es) (.v (.int .i64 i)) S K=K (.q es[i] 0) S:=by
 have:(i:Int)<es.length:=by omega
 simp[AS,Aw,h,this,hs]
end
end Go.Ab
set_option linter.unusedVariables false
set_option linter.unusedSimpArgs false
namespace Go.Ab
open Go Go.RowKit
variable {D:List Deferred}
theorem TP{P:Program}{fv:AV}{args:List AV}{S:Aa}{K K' X X':AV→Aa→Prop}(h:Bg P fv args S K X)(hK:∀ v S,K v S→K' v S)(hX:∀ v S,X v S→X' v S):Bg P fv args S K' X':=by
 unfold Bg at h ⊢
 split at h
 ·have hq:∀(e:Bh) (S':Aa),(match e with|.ret r=>K r S'|.pan x=>X x S')→(match e with|.ret r=>K' r S'|.pan x=>X' x S'):=fun e S' h=>by
    cases e with
    |ret r=>exact hK _ _ h
    |pan x=>exact hX _ _ h
  rcases h with h|h
  ·exact .inl (h.mono hq)
  ·refine .inr fun w g vs hh ha=>?_
   obtain⟨v,w',r,S',g',h0,h1,h2,h3,h4⟩:=h w g vs hh ha
   exact⟨v,w',r,S',g',h0,h1,h2,h3,hK _ _ h4⟩
 ·exact h.elim
section
variable {P:Program} {f:FuncId} {fn:Func} {S:Aa} {Q:Bh→Aa→Prop}
structure DK (P:Program) (f:FuncId) (fn:Func):Prop where
 func:P.funcs[f]? = some fn
 name : (fn.name == "runtime.NumGoroutine") = false
 body:fn.body.isNone=true
 next:Extern.findNext fn=none
theorem iB{w:World}{g:Gh}{vs:Array Value}(h:Fb w g [] vs):vs = #[]:=by
 have:=h.1
 exact Array.eq_empty_of_size_eq_zero (by simpa using this.symm)
theorem iD{w:World}{g:Gh}{a:AV}{vs:Array Value}(h:Fb w g [a] vs):∃ x,vs = #[x]∧R w g a x:=by
 obtain⟨l⟩:=vs
 match l,h with
 |[x],h=>exact⟨x,rfl,by simpa using h.2 0 a rfl⟩
theorem iC{w:World}{g:Gh}{a b:AV}{vs:Array Value}(h:Fb w g [a,b] vs):∃ x y,vs = #[x,y]∧R w g a x∧R w g b y:=by
 obtain⟨l⟩:=vs
 match l,h with
 |[x,y],h=>exact⟨x,y,rfl,by simpa using h.2 0 a rfl,by simpa using h.2 1 b rfl⟩
theorem yD{w:World}{g:Gh}{a b c:AV}{vs:Array Value}(h:Fb w g [a,b,c] vs):∃ x y z,vs = #[x,y,z]∧R w g a x∧R w g b y∧R w g c z:=by
 obtain⟨l⟩:=vs
 match l,h with
 |[x,y,z],h=>exact⟨x,y,z,rfl,by simpa using h.2 0 a rfl,by simpa using h.2 1 b rfl,by simpa using h.2 2 c rfl⟩
theorem zA{w:World}{g:Gh}:R w g (.t []) (.tuple #[]):=.t _ _ rfl fun k u h=>by simp at h
theorem Ok(h:DK P f fn)(m:Mark)(he:Extern.find fn=some (fun _=>do mark m;pure Extern.Race.none_))(k:Q (.ret (.t [])) S):Uf P f [] S Q:=by
 intro w g vs hh ha
 obtain rfl:=iB ha
 exact⟨_,w,.t [],S,g,run_call_mark0 h.func h.name h.body h.next m he w,hh,Mv.refl _ _,zA,k⟩
theorem Oj(h:DK P f fn)(m:Addr→Mark)(he:Extern.find fn=some (Extern.Race.marked m)){id i j:Nat}(k:Q (.ret (.t [])) S):Uf P f [.p id i j] S Q:=by
 intro w g vs hh ha
 obtain⟨x,rfl,hr⟩:=iD ha
 obtain⟨_,rfl⟩:=hr.DT
 exact⟨_,w,.t [],S,g,run_call_marked h.func h.name h.body h.next m he _ w,hh,Mv.refl _ _,zA,k⟩
theorem cell_of{w:World}{g:Gh}(hh:Ba P w g S){id i j t:Nat}{es:List (List AV)}{c:List AV}{u:AV}{l:Bool}(h:S.obj id=some (.cells t es l))(hi:es[i]? = some c)(hj:c[j]? = some u):
    ∃ v,w.cell? ⟨g.blk id,i*g.sz id+j,none⟩=some v∧R w g u v:=by
 have hob:=hh.obj _ _ _ _ h
 have hr:R w g (.p id i j) (.pointer (some ⟨g.blk id,i*g.sz id+j,none⟩)):=.p id i j hob.lt
 have hp:place S (.p id i j)=some (c,j):=by simp[place,Aa.get,h,hi]
 obtain⟨ad,hy,hc⟩:=Fj hh hr hp
 cases hy
 obtain⟨z,h1,h2,_⟩:=hc 0 u (by simpa using hj)
 exact⟨z,by simpa[Addr.add]using h1,h2⟩
theorem KW{w:World}{g:Gh}(hh:Ba P w g S){id t:Nat}{es:List (List AV)}{l:Bool}(h:S.obj id=some (.cells t es l))(o:Nat):w.frozen? ⟨g.blk id,o,none⟩=false:=by
 obtain⟨cs,h1,_⟩:=(hh.obj _ _ _ _ h).row
 simp[World.frozen?,h1]
theorem aK(h:DK P f fn)(k:IntKind)(he:Extern.find fn=some (Extern.Atomic.loadT (.int k))){id i j t:Nat}{es:List (List AV)}{c:List AV}{x:Int}{l:Bool}(ho:S.obj id=some (.cells t es l))(hi:es[i]? = some c)(hj:c[j]? = some (.v (.int k x)))
    (kQ:Q (.ret (.v (.int k x))) S):Uf P f [.p id i j] S Q:=by
 intro w g vs hh ha
 obtain⟨v,rfl,hr⟩:=iD ha
 obtain⟨_,rfl⟩:=hr.DT
 obtain⟨z,hz,hrz⟩:=cell_of hh ho hi hj
 obtain rfl:=hrz.BB
 exact⟨_,w,_,S,g,run_call_load h.func h.name h.body h.next k he hz,hh,Mv.refl _ _,.v _,kQ⟩
theorem KU{w:World}{g:Gh}(hh:Ba P w g S){id i j t:Nat}{es:List (List AV)}{c:List AV}{u u0:AV}{v:Value}(ho:S.obj id=some (.cells t es true))(hi:es[i]? = some c)(hj:c[j]? = some u0)(hu:u.one=true)(hr:R w g u v):
    Ba P (w.setCell ⟨g.blk id,i*g.sz id+j,none⟩ v) g (S.Dl id (.cells t (es.set i (c.set j u)) true))∧Mv w g (w.setCell ⟨g.blk id,i*g.sz id+j,none⟩ v) g:=by
 have hob:=hh.obj _ _ _ _ ho
 obtain⟨cs,h1,h2,h3⟩:=hob.row
 have hw:w.setCell ⟨g.blk id,i*g.sz id+j,none⟩ v=w.setRow (g.blk id) (cs.setIfInBounds (i*g.sz id+j) v):=by
  unfold World.setCell World.setRow
  congr 1
  apply Array.ext_getElem?
  intro b
  simp only[Array.getElem?_modify]
  by_cases e:g.blk id=b
  ·subst e;simp[h1]
  ·simp[e]
 rw[hw]
 have hil:=(List.getElem?_eq_some_iff.1 hi).1
 have hjl:=(List.getElem?_eq_some_iff.1 hj).1
 obtain⟨hcl,_⟩:=h3 i c hi
 refine heap_set hh ho (by simpa using h2) (by simpa using hob.len) fun i' c' hc'=>?_
 rw[List.getElem?_set]at hc'
 split at hc'
 ·rename_i e
  subst e
  try rw[if_pos (by simpa using hil)]at hc'
  cases hc'
  refine⟨by simpa using hcl,fun k u' hu'=>?_⟩
  rw[List.getElem?_set]at hu'
  have hb:=GI hil hob.len (show k<g.sz id by
   split at hu'
   ·rename_i e;subst e;omega
   ·have:=(List.getElem?_eq_some_iff.1 hu').1;omega)
  rw[←h2]at hb
  simp only[Array.getD_eq_getD_getElem?,Array.getElem?_setIfInBounds]
  split at hu'
  ·rename_i e
   subst e
   try rw[if_pos (by simpa using hjl)]at hu'
   cases hu'
   rw[if_pos rfl,if_pos hb]
   exact⟨hu,hr⟩
  ·rename_i e
   rw[if_neg (by omega)]
   have:=(h3 i c hi).2 k u' hu'
   simpa[Array.getD_eq_getD_getElem?]using this
 ·rename_i e
  refine⟨(h3 i' c' hc').1,fun k u' hu'=>?_⟩
  have hk:k<g.sz id:=by rw[←(h3 i' c' hc').1];exact(List.getElem?_eq_some_iff.1 hu').1
  have hne:¬ i*g.sz id+j=i'*g.sz id+k:=by
   intro hq
   have hj2:j<g.sz id:=by omega
   have hpos:0<g.sz id:=by omega
   have e1:(i*g.sz id+j) / g.sz id=i:=by rw[Nat.mul_comm,Nat.mul_add_div hpos,Nat.div_eq_of_lt hj2];omega
   have e2:(i'*g.sz id+k) / g.sz id=i':=by rw[Nat.mul_comm,Nat.mul_add_div hpos,Nat.div_eq_of_lt hk];omega
   rw[hq,e2]at e1
   exact e e1.symm
  have:=(h3 i' c' hc').2 k u' hu'
  simp only[Array.getD_eq_getD_getElem?,Array.getElem?_setIfInBounds,if_neg hne]
  simpa[Array.getD_eq_getD_getElem?]using this
theorem W1(h:DK P f fn)(he:Extern.find fn=some Extern.Atomic.storeT){k:IntKind}{y:Int}{id i j t:Nat}{es:List (List AV)}{c:List AV}{u0:AV}(ho:S.obj id=some (.cells t es true))(hi:es[i]? = some c)(hj:c[j]? = some u0)
    (kQ:Q (.ret (.t [])) (S.Dl id (.cells t (es.set i (c.set j (.v (.int k y)))) true))):Uf P f [.p id i j,.v (.int k y)] S Q:=by
 intro w g vs hh ha
 obtain⟨v,v2,rfl,hr,hr2⟩:=iC ha
 obtain⟨_,rfl⟩:=hr.DT
 obtain rfl:=hr2.BB
 obtain⟨z,hz,hrz⟩:=cell_of hh ho hi hj
 obtain⟨h1,h2⟩:=KU hh ho hi hj (u:=.v (.int k y)) rfl (.v _)
 exact⟨_,_,.t [],_,g,run_call_store h.func h.name h.body h.next he hz (KW hh ho _),h1,h2,zA,kQ⟩
theorem mD(h:DK P f fn)(k:IntKind)(he:Extern.find fn=some (Extern.Atomic.casT (.int k))){x y:Int}{id i j t:Nat}{es:List (List AV)}{c:List AV}(ho:S.obj id=some (.cells t es true))(hi:es[i]? = some c)(hj:c[j]? = some (.v (.int k x)))
    (kQ:Q (.ret (.v (.bool true))) (S.Dl id (.cells t (es.set i (c.set j (.v (.int k y)))) true))):Uf P f [.p id i j,.v (.int k x),.v (.int k y)] S Q:=by
 intro w g vs hh ha
 obtain⟨v,v2,v3,rfl,hr,hr2,hr3⟩:=yD ha
 obtain⟨_,rfl⟩:=hr.DT
 obtain rfl:=hr2.BB
 obtain rfl:=hr3.BB
 obtain⟨z,hz,hrz⟩:=cell_of hh ho hi hj
 obtain rfl:=hrz.BB
 obtain⟨h1,h2⟩:=KU hh ho hi hj (u:=.v (.int k y)) rfl (.v _)
 exact⟨_,_,_,_,g,run_call_cas_hit h.func h.name h.body h.next k he hz (KW hh ho _),h1,h2,.v _,kQ⟩
theorem mE(h:DK P f fn)(k:IntKind)(he:Extern.find fn=some (Extern.Atomic.update (Op.intArith .add) k true)){x y:Int}{id i j t:Nat}{es:List (List AV)}{c:List AV}(ho:S.obj id=some (.cells t es true))(hi:es[i]? = some c)(hj:c[j]? = some (.v (.int k x)))
    (kQ:Q (.ret (.v (.int k (k.wrap (x+y))))) (S.Dl id (.cells t (es.set i (c.set j (.v (.int k (k.wrap (x+y)))))) true))):Uf P f [.p id i j,.v (.int k y)] S Q:=by
 intro w g vs hh ha
 obtain⟨v,v2,rfl,hr,hr2⟩:=iC ha
 obtain⟨_,rfl⟩:=hr.DT
 obtain rfl:=hr2.BB
 obtain⟨z,hz,hrz⟩:=cell_of hh ho hi hj
 obtain rfl:=hrz.BB
 obtain⟨h1,h2⟩:=KU hh ho hi hj (u:=.v (.int k (k.wrap (x+y)))) rfl (.v _)
 exact⟨_,_,_,_,g,run_call_add h.func h.name h.body h.next k he hz (KW hh ho _) (s:=k.wrap (x+y)) rfl,h1,h2,.v _,kQ⟩
end
end Go.Ab
set_option linter.unusedVariables false
set_option linter.unusedSimpArgs false
namespace Go.Ab
open Go Go.RowKit
variable {D:List Deferred}
abbrev Sd:=FuncId × List AV
def DR(w:World)(g:Gh):List Sd→List Deferred→Prop
 |[],[]=>True
 |(f,as) :: ds,d :: D=>(∃ cap,d.target = .fn (.func f) cap∧Fb w g as (d.args++cap))∧DR w g ds D
 |_,_=>False
theorem DR.mv{w:World}{g:Gh}{w':World}{g':Gh}(m:Mv w g w' g'):∀{ds:List Sd} {D:List Deferred},DR w g ds D→DR w' g' ds D
 |[],[],h=>h
 |(f,as) :: ds,d :: D,h=>⟨by obtain⟨cap,h1,h2⟩:=h.1;exact⟨cap,h1,h2.1,fun k u hu=>(h2.2 k u hu).mv m⟩,DR.mv m h.2⟩
 |[],_ :: _,h=>h.elim
 |_ :: _,[],h=>h.elim
def Ks(P:Program)(ops:Array Oper):List Oper→(Nat→Bool)→Env→Aa→(Sd→Env→Aa→Prop)→Prop
 |[],_,_,_,_=>False
 |[o],_,env,S,K=>match o.guard,o.dst,o.op with
  |none,none,.defer { callee:=.value f,args:=args,.. }=>match ev env f with
   |.f (.func fid) fs cs=>K (fid,fs++args.toList.map (ev env)++cs) env S
   |_=>False
  |_,_,_=>False
 |o :: o2 :: rest,sk,env,S,K =>
  gu sk ops o env (fun env=>Cz P o.op env S (fun v S'=>Ks P ops (o2 :: rest) (CA sk o.dst false) (Bt env o.dst v) S' K) (fun _ _=>False)) (fun env=>Ks P ops (o2 :: rest) (CA sk o.dst true) (Bt env o.dst (.v undef)) S K)
def aA(ops:Array Oper):Bool:=match ops[ops.size - 1]? with
 |some o=>match o.op with|.defer _=>true|_=>false
 |none=>false
def Nr(w:World)(g:Gh)(P:Program)(Q:List Sd→AX→Env→Aa→Prop)(e:Exit)(a':Act)(w':World):Prop:=
 ∃ x env' S' g' ds' D',Ba P w' g' S'∧BX D' w' g' env' a'∧DR w' g' ds' D'∧Mv w g w' g'∧XR w' g' x e∧Q ds' x env' S'
theorem Gk{P:Program}{ops:Array Oper}{ds:List Sd}{Q:List Sd→AX→Env→Aa→Prop}{w0:World}{g0:Gh}:∀(l:List Oper) (sk:Nat→Bool) (env:Env) (S:Aa) (w:World) (g:Gh) (a:Act),Sk sk env→Ba P w g S→BX D w g env a→DR w g ds D→Mv w0 g0 w g→
    Ks P ops l sk env S (fun d env' S'=>Q (d :: ds) .normal env' S')→wpList P ops (Nr w0 g0 P Q) l a w
 |[],sk,env,S,w,g,a,hs,hh,he,hd,m,h=>h.elim
 |[o],sk,env,S,w,g,a,hs,hh,he,hd,m,h=>by
  simp only[Ks]at h
  split at h
  case h_2=>exact h.elim
  rename_i f args ts hg hdst hop
  split at h
  case h_2=>exact h.elim
  rename_i fid fs cs hf
  unfold wpList
  have hrf:=he.ev f
  rw[hf]at hrf
  generalize hv:a.eval f=v at hrf
  cases hrf with
  |f fn fs0 cs0 fs' cs' hl1 hl2 hF hC =>
   have hw:Region.wanted o (yielded ops a.tmps)=true:=by simp[Region.wanted,hg]
   rw[if_pos hw]
   refine .inl ?_
   have hrun:(execOp a.eval o).run P w = .ok (.defer { target:=.fn (.func fid) cs',args:=fs'++args.map a.eval }) w:=by
    simp only[execOp,hop,resolve,hv,Deferred.ofValue,Sem.run_bind,Sem.run_pure,Result.andThen_ok]
   unfold Oper.wp
   rw[hrun,Oper.upon_defer,hdst]
   unfold wpList
   refine⟨.normal,env,S,g,(fid,fs++args.toList.map (ev env)++cs) :: ds,{ target:=.fn (.func fid) cs',args:=fs'++args.map a.eval } :: D,hh,⟨he.size,he.rel,?_⟩,⟨⟨cs',rfl,FA (FA ⟨hl1,hF⟩ (H4 he args)) ⟨hl2,hC⟩⟩,hd⟩,m,trivial,h⟩
   show _ :: a.defers=_
   rw[he.defers]
 |o :: o2 :: rest,sk,env,S,w,g,a,hs,hh,he,hd,m,h=>by
  unfold wpList
  simp only[Ks]at h
  rcases JF hs h with⟨ht,h'⟩|⟨ht,h'⟩
  ·rw[if_pos (B3 he ht)]
   refine .inl (CL h' D w g a _ _ hh he (fun v S' w' g' y h1 h2 h3 h4=>?_) (fun u S' w' g' y h1 h2 h3 h4=>h4.elim))
   exact Gk (o2 :: rest) _ _ S' w' g' _ (hs.del o.dst v) h1 ((he.mv h2).put o.dst h3) (hd.mv h2) (m.trans h2) h4
  ·rw[if_neg (by rw[B3 he ht];simp)]
   exact Gk (o2 :: rest) _ _ S w g _ (hs.add o.dst) hh (he.put o.dst (.v _)) hd m h'
def j1(P:Program):Code→List (List Nat)→Env→Aa→List Sd→(List Sd→AX→Env→Aa→Prop)→Prop
 |.seq a b,ms,env,S,ds,K=>j1 P a ms env S ds (fun ds' x env' S'=>match x with
    |.normal=>j1 P b (ms.drop (nl a)) env' S' ds' K
    |x=>K ds' x env' S')
 |.cond c x y,ms,env,S,ds,K=>KC (ev env c) fun b=>gd b (j1 P x ms env S ds K) (j1 P y (ms.drop (nl x)) env S ds K)
 |.region id ops draw,ms,env,S,ds,K=>match !draw && aA ops with
  |true=>match draw with
   |false=>Ks P ops ops.toList (fun _=>false) env S (fun d env' S'=>K (d :: ds) .normal env' S')
   |true=>False
  |false=>vc P (.region id ops draw) ms env S (K ds)
 |c,ms,env,S,ds,K=>vc P c ms env S (K ds)
theorem ED{P:Program}{c:Code}{ms:List (List Nat)}{env:Env}{S:Aa}{ds:List Sd}{K:List Sd→AX→Env→Aa→Prop}(h:vc P c ms env S (K ds)){w:World}{g:Gh}{a:Act}(hh:Ba P w g S)(he:BX D w g env a)(hd:DR w g ds D):
    c.wp P (Nr w g P K) a w:=
 wp_mono (Dx c ms env S _ h D w g a hh he) fun e a' w' ⟨x,env',S',g',h1,h2,h3,h4,h5⟩=>⟨x,env',S',g',ds,D,h1,h2,hd.mv h3,h3,h4,h5⟩
theorem Nr.X7{P:Program}{w0:World}{g0:Gh}{w:World}{g:Gh}(m:Mv w0 g0 w g){Q:List Sd→AX→Env→Aa→Prop}{e:Exit}{a:Act}{w':World}(h:Nr w g P Q e a w'):Nr w0 g0 P Q e a w':=by
 obtain⟨x,env',S',g',ds',D',h1,h2,h3,h4,h5⟩:=h
 exact⟨x,env',S',g',ds',D',h1,h2,h3,m.trans h4,h5⟩
theorem FL{P:Program}:∀(c:Code) (ms:List (List Nat)) (env:Env) (S:Aa) (ds:List Sd) (K:List Sd→AX→Env→Aa→Prop),j1 P c ms env S ds K→
    ∀(D:List Deferred) (w:World) (g:Gh) (a:Act),Ba P w g S→BX D w g env a→DR w g ds D→c.wp P (Nr w g P K) a w
 |.seq a b,ms,env,S,ds,K,h,D,w,g,ac,hh,he,hd=>by
  refine wp_seq (wp_mono (FL a ms env S ds _ h D w g ac hh he hd) ?_)
  rintro e a' w' ⟨x,env',S',g',ds',D',h1,h2,h3,h4,h5,h6⟩
  cases x with
  |normal =>
   cases e with
   |normal=>exact wp_mono (FL b _ env' S' ds' K h6 D' w' g' a' h1 h2 h3) (fun e a w=>Nr.X7 h4)
   |_=>exact h5.elim
  |exit id=>cases e<;>first|exact h5.elim|exact⟨.exit id,env',S',g',ds',D',h1,h2,h3,h4,h5,h6⟩
  |goto l=>cases e<;>first|exact h5.elim|exact⟨.goto l,env',S',g',ds',D',h1,h2,h3,h4,h5,h6⟩
  |ret=>cases e<;>first|exact h5.elim|exact⟨.ret,env',S',g',ds',D',h1,h2,h3,h4,h5,h6⟩
  |pan x=>cases e<;>first|exact h5.elim|exact⟨.pan x,env',S',g',ds',D',h1,h2,h3,h4,h5,h6⟩
 |.cond c x y,ms,env,S,ds,K,h,D,w,g,a,hh,he,hd=>by
  simp only[j1,KC]at h
  split at h
  ·rename_i b hb
   have h1:=he.ev c
   rw[hb]at h1
   rcases Dc h with⟨rfl,h'⟩|⟨rfl,h'⟩
   ·exact wp_cond_true h1.BB (FL x _ env S ds K h' D w g a hh he hd)
   ·exact wp_cond_false h1.BB (FL y _ env S ds K h' D w g a hh he hd)
  ·exact h.elim
 |.region id ops draw,ms,env,S,ds,K,h,D,w,g,a,hh,he,hd=>by
  simp only[j1]at h
  split at h
  ·cases draw with
   |false=>exact wp_region_list (Gk ops.toList (fun _=>false) env S w g a (Sk.nil env) hh he hd (Mv.refl _ _) h)
   |true=>exact h.elim
  ·exact ED h hh he hd
 |.skip,ms,env,S,ds,K,h,D,w,g,a,hh,he,hd=>ED h hh he hd
 |.label _,ms,env,S,ds,K,h,D,w,g,a,hh,he,hd=>ED h hh he hd
 |.exit _,ms,env,S,ds,K,h,D,w,g,a,hh,he,hd=>ED h hh he hd
 |.goto _,ms,env,S,ds,K,h,D,w,g,a,hh,he,hd=>ED h hh he hd
 |.ret,ms,env,S,ds,K,h,D,w,g,a,hh,he,hd=>ED h hh he hd
 |.block _ _,ms,env,S,ds,K,h,D,w,g,a,hh,he,hd=>ED h hh he hd
 |.loop _,ms,env,S,ds,K,h,D,w,g,a,hh,he,hd=>ED h hh he hd
 |.scope _,ms,env,S,ds,K,h,D,w,g,a,hh,he,hd=>ED h hh he hd
 |.rangeFunc _ _ _ _,ms,env,S,ds,K,h,D,w,g,a,hh,he,hd=>ED h hh he hd
 |.refuse _,ms,env,S,ds,K,h,D,w,g,a,hh,he,hd=>ED h hh he hd
def Jy(P:Program)(rs:List ResultVar)(Q:Bh→Aa→Prop)(env:Env):List Sd→Aa→Prop
 |[],S=>VM P rs env S fun l=>Q (.ret (kH l)) S
 |(f,as) :: ds,S=>EA P f as S (fun e S'=>match e with|.ret _=>Jy P rs Q env ds S'|.pan _=>False)
def tA(P:Program)(rs:List ResultVar)(Q:Bh→Aa→Prop)(ds:List Sd):AX→Env→Aa→Prop
 |.normal,env,S|.ret,env,S=>Jy P rs Q env ds S
 |_,_,_=>False
theorem IJ{P:Program}{fn:Func}{Q:Bh→Aa→Prop}{w0:World}{g0:Gh}:∀(ds:List Sd) (D:List Deferred) (S:Aa) (w:World) (g:Gh) (env:Env) (a:Act),Ba P w g S→BX D w g env a→DR w g ds D→Mv w0 g0 w g→
    Jy P fn.results.toList Q env ds S→Leaves P fn a.tmps (fun e w'=>∃ r S' g',Ba P w' g' S'∧Mv w0 g0 w' g'∧ER w' g' r e∧Q r S') D .returning w
 |[],[],S,w,g,env,a,hh,he,hd,m,h=>by
  obtain⟨l,v,hrun,hr,hQ⟩:=Mh hh he h
  exact⟨v,hrun,.ret _,S,g,hh,m,hr,hQ⟩
 |(f,as) :: ds,d :: D,S,w,g,env,a,hh,he,hd,m,h=>by
  obtain⟨⟨cap,ht,ha⟩,hd'⟩:=hd
  simp only[Jy]at h
  refine⟨by simp,.func f,cap,f,d.args++cap,ht,?_,?_⟩
  ·rw[ht]
   exact h.1 _ w
  ·refine(h.2 w g _ .returning hh ha).mono ?_
   rintro e u' w' ⟨rfl,r,S',g',h1,h2,h3,h4⟩
   cases r with
   |ret r =>
    cases e with
    |returned v=>exact IJ ds D S' w' g' env { a with defers:=D } h1 ⟨he.size,(he.mv h2).rel,rfl⟩ (hd'.mv h2) (m.trans h2) h4
    |panicked chain=>exact h3.elim
    |outgrown=>exact h3.elim
   |pan x=>exact h4.elim
 |[],_ :: _,_,_,_,_,_,_,_,hd,_,_=>hd.elim
 |_ :: _,[],_,_,_,_,_,_,_,hd,_,_=>hd.elim
theorem PZ{P:Program}{f:FuncId}{fn:Func}{c:Code}{args:List AV}{S:Aa}{Q:Bh→Aa→Prop}{n:Nat}(hf:P.funcs[f]? = some fn)(hb:fn.body=some c)(he:GW P f=true)(hn:args.length+(fn.ntmps - args.length)=n)(ms:List (List Nat))
    (h:j1 P c ms (Gy n args) S [] (tA P fn.results.toList Q)):Ad P f args S Q:=by
 refine⟨Fu he,fun w g vs hh ha=>calls_of_wp_defers hf hb ?_⟩
 refine wp_mono (FL c ms _ S [] _ h [] w g _ hh (BX.begin ha hn) trivial) ?_
 rintro e a' w' ⟨x,env',S',g',ds',D',h1,h2,h3,h4,h5,h6⟩
 have fin:Jy P fn.results.toList Q env' ds' S'→Leaves P fn a'.tmps (fun e w'=>∃ r S' g',Ba P w' g' S'∧Mv w g w' g'∧ER w' g' r e∧Q r S') a'.defers .returning w':=fun hl=>by
  rw[h2.defers]
  exact IJ ds' D' S' w' g' env' a' h1 h2 h3 h4 hl
 cases x with
 |normal=>cases e<;>first|exact h5.elim|exact fin h6
 |ret=>cases e<;>first|exact h5.elim|exact fin h6
 |exit id=>exact h6.elim
 |goto l=>exact h6.elim
 |pan y=>exact h6.elim
end Go.Ab
set_option linter.unusedVariables false
set_option linter.unusedSimpArgs false
namespace Go.Ab
open Go Go.RowKit
variable {D:List Deferred}
section
variable {A:AV→Prop} {P:AV→Prop} {S0:Aa}
theorem AgE{b:Bool}:(∃ t:Bool,BC (.v (.bool b)) b=some t∧∃ q,gd t (A q) (q = .v undef)∧P q) = ∃ q,A q∧P q:=by
 apply propext
 have:BC (.v (.bool b)) b=some true:=by simp[BC]
 rw[this]
 constructor
 ·rintro⟨t,h,q,h1,h2⟩;cases h;exact⟨q,h1,h2⟩
 ·rintro⟨q,h1,h2⟩;exact⟨true,rfl,q,h1,h2⟩
theorem Uc{x:AV}{w:Bool}(h:BC x w=some false):(∃ t:Bool,BC x w=some t∧∃ q,gd t (A q) (q = .v undef)∧P q)=P (.v undef):=by
 apply propext
 rw[h]
 constructor
 ·rintro⟨t,h,q,h1,h2⟩;cases h;cases h1;exact h2
 ·intro h2;exact⟨false,rfl,_,rfl,h2⟩
theorem jO:(∃ t:Bool,BC (.v (.bool true)) false=some t∧∃ q,gd t (A q) (q = .v undef)∧P q)=P (.v undef):=Uc rfl
theorem jP:(∃ t:Bool,BC (.v (.bool false)) true=some t∧∃ q,gd t (A q) (q = .v undef)∧P q)=P (.v undef):=Uc rfl
theorem rR{w:Bool}:(∃ t:Bool,BC (.v undef) w=some t∧∃ q,gd t (A q) (q = .v undef)∧P q)=P (.v undef):=Uc rfl
theorem AhG{x:AV}:(∃ q,(q=x)∧P q)=P x:=by apply propext;simp
theorem CZ{op:(AV→Aa→Prop)→Prop}{v:AV}(h:∀ K,op K=K v S0):(∃ q,op (fun u S=>u=q∧S=S0)∧P q)=P v:=by
 apply propext
 constructor
 ·rintro⟨q,h1,h2⟩
  rw[h]at h1
  obtain⟨rfl,_⟩:=h1
  exact h2
 ·intro h2
  exact⟨v,by rw[h];exact⟨rfl,rfl⟩,h2⟩
theorem AgH{α:Type}{f:α→AV}{l:List α}:(∃ q,(AF (aL f l) S0 fun v S=>v=q∧S=S0)∧P q)=P (.v (.int .i64 l.length)):=CZ (op:=fun K=>AF (aL f l) S0 K) fun K=>Ax f l
theorem AgF{k:IntKind}{a b:Int}{kd:Nat}:(∃ q,(bin .neq kd (.v (.int k a)) (.v (.int k b)) S0 fun v S=>v=q∧S=S0)∧P q)=P (.v (.bool (!decide (a=b)))):=
 CZ (op:=fun K=>bin .neq kd (.v (.int k a)) (.v (.int k b)) S0 K) fun K=>Bl _ _ _ _
theorem zG{a b:Bool}:(∃ q,(bin .neq 1 (.v (.bool a)) (.v (.bool b)) S0 fun v S=>v=q∧S=S0)∧P q)=P (.v (.bool (a != b))):=
 CZ (op:=fun K=>bin .neq 1 (.v (.bool a)) (.v (.bool b)) S0 K) fun K=>DI _ _
theorem R9{α:Type}{l:List α}{f:α→AV}{e i:Nat}(h:i<l.length):(∃ q,(AS e 1 (aL f l) (.v (.int .i64 i)) S0 fun v S=>v=q∧S=S0)∧P q)=P (.q [f l[i]] 0):=
 CZ (op:=fun K=>AS e 1 (aL f l) (.v (.int .i64 i)) S0 K) fun K=>AM h
theorem AW{id i j t:Nat}{es:List (List AV)}{c:List AV}{u:AV}{l:Bool}(h:S0.obj id=some (.cells t es l))(hi:es[i]? = some c)(hj:c[j]? = some u):(∃ q,(Ay (.p id i j) S0 fun v S=>v=q∧S=S0)∧P q)=P u:=
 CZ (op:=fun K=>Ay (.p id i j) S0 K) fun K=>Ae h hi hj
theorem rS{id i j n:Nat}:(∃ q,(shift (.p id i j) n S0 fun v S=>v=q∧S=S0)∧P q)=P (.p id i (j+n)):=CZ (op:=fun K=>shift (.p id i j) n S0 K) fun K=>Ac id i j n
theorem rT{x y:AV}:(∃ q,(pick (.v (.bool true)) x y S0 fun v S=>v=q∧S=S0)∧P q)=P x:=CZ (op:=fun K=>pick (.v (.bool true)) x y S0 K) fun K=>rfl
theorem rU{x y:AV}:(∃ q,(pick (.v (.bool false)) x y S0 fun v S=>v=q∧S=S0)∧P q)=P y:=CZ (op:=fun K=>pick (.v (.bool false)) x y S0 K) fun K=>rfl
end
end Go.Ab
set_option linter.unusedVariables false
set_option linter.unusedSimpArgs false
namespace Go.Ab
open Go Go.RowKit
variable {D:List Deferred}
def K7(T:Aa)(n:Nat)(es es2:List (List AV)):Prop:=
 es.length=es2.length∧∀(i:Nat) (c c2:List AV),es[i]? = some c→es2[i]? = some c2→c.length=c2.length∧∀(k:Nat) (u u2:AV),c[k]? = some u→c2[k]? = some u2→Cv T n u u2
def vO(T:Aa)(n:Nat)(o o2:Bw):Prop:=
 o=o2∨∃ t es es2 l,o = .cells t es l∧o2 = .cells t es2 l∧K7 T n es es2
theorem WT{P:Program}{w:World}{g:Gh}{T T':Aa}(hh:Ba P w g T)(hn:T'.n=T.n)(ho:∀ i o2,T'.obj i=some o2→∃ o,T.obj i=some o∧vO T T.n o o2):Ba P w g T' where
 gl:=hh.gl
 n:=hh.n.trans hn.symm
 im:=hh.im
 ob i o2 h:=by
  obtain⟨o,h1,h2⟩:=ho i o2 h
  have hk:=hh.ob i o h1
  rcases h2 with rfl|⟨t,es,es2,l,rfl,rfl,hl,hc⟩
  ·exact hk
  ·have hcut:g.cut T.n=g:=by rw[←hh.n];rfl
   refine⟨hk.lt,hk.blk,hk.imY,hk.imN,?_⟩
   obtain⟨h3,h4,cs,h5,h6,h7⟩:=hk.row
   refine⟨by omega,h4,cs,h5,h6,fun i c2 hi=>?_⟩
   obtain⟨c,hi'⟩:=Cb (l:=es) hl (by have:=(List.getElem?_eq_some_iff.1 hi).1;omega)
   obtain⟨h8,h9⟩:=h7 i c hi'
   obtain⟨h10,h11⟩:=hc i c c2 hi' hi
   refine⟨by omega,fun k u2 hu=>?_⟩
   obtain⟨u,hu'⟩:=Cb (l:=c) h10 (by have:=(List.getElem?_eq_some_iff.1 hu).1;omega)
   obtain⟨h12,h13⟩:=h9 k u hu'
   have hcv:=h11 k u u2 hu' hu
   refine⟨hcv.one h12,?_⟩
   have:=NJ hh hcv h13
   rwa [hcut]at this
 sp a b o o' h1 h2 l1 l2 e:=by
  obtain⟨o1,h3,h4⟩:=ho a o h1
  obtain⟨o2,h5,h6⟩:=ho b o' h2
  have q1:o1.live=true:=by
   rcases h4 with rfl|⟨t,es,es2,l,rfl,rfl,_⟩
   ·exact l1
   ·exact l1
  have q2:o2.live=true:=by
   rcases h6 with rfl|⟨t,es,es2,l,rfl,rfl,_⟩
   ·exact l2
   ·exact l2
  exact hh.sp _ _ _ _ h3 h5 q1 q2 e
theorem Wk.of{S S':Aa}(F:Nat→Bool){l l':List AV}(hn:S'.n=S.n)(ho:∀ i o2,S'.obj i=some o2→∃ o,(S.BA F).obj i=some o∧vO (S.BA F) S.n o o2)
    (hl:l.length=l'.length) (hc:∀(k:Nat) (u u2:AV),l[k]? = some u→l'[k]? = some u2→u=u2∨Cv (S.BA F) S.n u u2):Wk S l S' l':=by
 refine⟨hl,fun P w g hh=>?_⟩
 have hf:=F0 hh F
 have hm:=Hr hh F
 have hcut:(g.BA S F).cut S.n=g.BA S F:=by
  have:(g.BA S F).n=S.n:=hh.n
  rw[←this];rfl
 refine⟨g.BA S F,WT hf hn ho,hm,fun k u u2 y h1 h2 hr=>?_⟩
 rcases hc k u u2 h1 h2 with rfl|hcv
 ·exact hr.mv hm
 ·have:=NJ hf hcv (hr.mv hm)
  rwa [hcut]at this
def Aa.Ku(S:Aa)(F:Nat→Bool)(id:Nat)(o:Bw):Aa:=⟨S.n,fun i=>if i=id then some o else if F i=true then none else S.obj i⟩
theorem FE{S:Aa}{F:Nat→Bool}{id:Nat}{o:Bw}:(S.Ku F id o).n=S.n:=rfl
theorem HX{S:Aa}{F:Nat→Bool}{id:Nat}{o:Bw}:(S.Ku F id o).obj id=some o:=by simp[Aa.Ku]
theorem Et{S:Aa}{F:Nat→Bool}{id i:Nat}{o:Bw}(h:i≠id)(hF:F i=false):(S.Ku F id o).obj i=S.obj i:=by simp[Aa.Ku,h,hF]
theorem Wk.row{S:Aa}{l:List AV}{id t:Nat}{es es2:List (List AV)}{b:Bool}(F:Nat→Bool)(h:S.obj id=some (.cells t es b))(hF:F id=false)(hc:K7 (S.BA F) S.n es es2):Wk S l (S.Ku F id (.cells t es2 b)) l:=by
 refine Wk.of F rfl (fun i o2 ho=>?_) rfl (fun k u u2 h1 h2=>by rw[h1]at h2;cases h2;exact .inl rfl)
 simp only[Aa.Ku]at ho
 split at ho
 ·rename_i e
  subst e
  cases ho
  exact⟨_,by rw[GK h,hF,Bool.not_false,Bool.and_true],.inr ⟨t,es,es2,b,rfl,rfl,hc⟩⟩
 ·split at ho
  ·cases ho
  ·rename_i hq
   exact⟨o2,by rw[D0 (by simpa using hq)];exact ho,.inl rfl⟩
theorem K7.snoc{T:Aa}{n:Nat}{ts:List (List AV)}{c c2:List AV}(ht:∀ r∈ts,∀ u∈r,Tree u)(hl:c.length=c2.length)(hc:∀(k:Nat) (u u2:AV),c[k]? = some u→c2[k]? = some u2→Cv T n u u2):K7 T n (ts ++ [c]) (ts ++ [c2]):=by
 refine⟨by simp,fun i a a2 h1 h2=>?_⟩
 rcases Nat.lt_or_ge i ts.length with hi|hi
 ·rw[List.getElem?_append_left hi]at h1 h2
  rw[h1]at h2;cases h2
  exact⟨rfl,fun k u u2 h3 h4=>by
   rw[h3]at h4;cases h4
   exact ht a (List.mem_of_getElem? h1) u (List.mem_of_getElem? h3) _ _⟩
 ·rw[List.getElem?_append_right hi]at h1 h2
  have:i - ts.length=0:=by
   have:=(List.getElem?_eq_some_iff.1 h1).1
   simp at this;omega
  rw[this]at h1 h2
  cases h1;cases h2
  exact⟨hl,hc⟩
theorem Ad.NN{P:Program}{f:FuncId}{args:List AV}{S:Aa}{Φ:AV→Prop}(h:Ad P f args S (fun e S'=>∃ r tr,e = .ret r∧Am S S'∧Cv (S'.BA (AL S.n)) S.n r tr∧Φ tr)):Ad P f args S (fun e S'=>∃ tr,e = .ret tr∧S'=S∧Φ tr):=by
 refine⟨h.1,fun w g vs hh ha=>(h.2 w g vs hh ha).mono ?_⟩
 rintro e w' ⟨_,S',g',h1,h2,h3,r,tr,rfl,hk,hcv,hphi⟩
 cases e with
 |returned v =>
  have hf:=F0 h1 (AL S.n)
  have hm:=Hr h1 (AL S.n)
  refine⟨.ret tr,S,(g'.BA S' (AL S.n)).cut S.n,Ru hh hf (fun i hi=>?_),Yg (h2.trans hm) hh.n,NJ hf hcv (R.mv hm h3),tr,rfl,rfl,hphi⟩
  rw[←hk.2 i hi]
  exact D0 (by simp[AL];omega)
 |panicked chain=>exact h3.elim
 |outgrown=>exact h3.elim
end Go.Ab
set_option linter.unusedVariables false
set_option linter.unusedSimpArgs false
namespace Go.Ab
open Go Go.RowKit
variable {D:List Deferred}
theorem KO{α β:Type}{f:α→Option β}:∀{l:List α} {r:List β},l.mapM f=some r→r.length=l.length∧∀(i:Nat) (x:α),l[i]? = some x→∃ y,r[i]? = some y∧f x=some y
 |[],r,h=>by
  have:r = []:=by simpa using h.symm
  subst this
  exact⟨rfl,fun i x hx=>by simp at hx⟩
 |a :: l,r,h=>by
  rw[List.mapM_cons]at h
  cases hb:f a with
  |none=>rw[hb]at h;cases h
  |some b =>
   rw[hb]at h
   cases hr:l.mapM f with
   |none=>rw[hr]at h;cases h
   |some r' =>
    rw[hr]at h
    have hrr:r=b :: r':=by
     have:some (b :: r')=some r:=h
     exact(Option.some.inj this).symm
    subst hrr
    obtain⟨h1,h2⟩:=KO hr
    refine⟨by simp[h1],fun i x hx=>?_⟩
    cases i with
    |zero=>cases hx;exact⟨b,rfl,hb⟩
    |succ i=>exact h2 i x (by simpa using hx)
theorem Ja{w:World}{base:Nat}{a:Addr}{n:Nat}{cs:List Value}(h:w.cells? base a n=some cs):cs.length=n∧∀ i,i<n→∃ c,cs[i]? = some c∧w.cell? (a.add i)=some c:=by
 unfold World.cells? at h
 split at h
 ·obtain⟨h1,h2⟩:=KO h
  refine⟨by simpa using h1,fun i hi=>h2 i i (by simp[hi])⟩
 ·cases h
def g0(w:World):Gh:={ n:=0,blk:=fun _=>0,sz:=fun _=>0,cap:=fun _=>0,im:=fun b=>b<w.heap.size }
def S0:Aa:=⟨0,fun _=>none⟩
theorem AeL(P:Program)(w:World)(hg:Gl P w (g0 w)):Ba P w (g0 w) S0 where
 gl:=hg
 n:=rfl
 im _ h:=h
 ob i o h:=by cases h
 sp a b o o' h:=by cases h
theorem mP{w:World}{a:Addr}{v:Value}(h:w.cell? a=some v):a.block<w.heap.size:=by
 unfold World.cell? at h
 split at h
 ·rename_i hb
  exact(Array.getElem?_eq_some_iff.1 hb).1
 ·cases h
theorem UX{α:Type}{p:Nat→α→Prop}:∀(n:Nat),(∀ i,i<n→∃ a,p i a)→∃ l:List α,l.length=n∧∀(i:Nat) (a:α),l[i]? = some a→p i a
 |0,_=>⟨[],rfl,fun i a h=>by simp at h⟩
 |n+1,h=>by
  obtain⟨l,h1,h2⟩:=UX n fun i hi=>h i (by omega)
  obtain⟨a,ha⟩:=h n (by omega)
  refine⟨l ++ [a],by simp[h1],fun i b hb=>?_⟩
  by_cases hi:i<n
  ·rw[List.getElem?_append_left (by omega)]at hb
   exact h2 i b hb
  ·rw[List.getElem?_append_right (by omega)]at hb
   have:i=n:=by
    have:=(List.getElem?_eq_some_iff.1 hb).1
    simp at this
    omega
   subst this
   rw[h1]at hb
   simp at hb
   subst hb
   exact ha
def Km{H:Type}(enc:TypeId × Value→H)(P:Program)(w:World)(sp:Nat→Bool)(held:Bool)(t:TypeId)(sz:Nat){α:Type}(f:α→List AV)(Q:α→Prop):Prop:=
 ∀(fuel:Nat) (cs:List Value) (x:DataW H × List MemPlace),DataW.trod enc P w 0 sp held fuel t cs=some x→
  ∃ a,Q a∧(f a).length=sz∧cs.length=sz∧∀(k:Nat) (u:AV) (c:Value),(f a)[k]? = some u→cs[k]? = some c→u.one=true∧R w (g0 w) u c
section
variable {H:Type} {enc:TypeId × Value→H} {P:Program} {w:World} {sp:Nat→Bool} {held:Bool}
theorem KA{u:AV}{c:Value}(h:u.one=true∧R w (g0 w) u c):∀(k:Nat) (u':AV) (c':Value),[u][k]? = some u'→[c][k]? = some c'→u'.one=true∧R w (g0 w) u' c'
 |0,_,_,h1,h2=>by cases h1;cases h2;exact h
 |k+1,_,_,h1,_=>by simp at h1
theorem KB{t:TypeId}{k:IntKind}(ht:P.underlying t=some (.int k)):Km enc P w sp held t 1 (fun n:Int=>[AV.v (.int k n)]) (fun n=>(Lit.int k n).wf=true):=by
 intro fuel cs x h
 cases fuel with
 |zero=>cases h
 |succ n =>
  unfold DataW.trod at h
  rw[ht]at h
  split at h<;>rename_i e1<;>try (cases e1)
  ·split at h
   ·rename_i hk
    obtain⟨rfl,hw⟩:=hk
    exact⟨_,hw,rfl,rfl,KA ⟨rfl,.v _⟩⟩
   ·cases h
  ·cases h
theorem Lb{t e:TypeId}{sz:Nat}{α:Type}{f:α→List AV}{Q:α→Prop}(ht:P.underlying t=some (.slice e))(hc:P.cellsOf e=sz)(hpos:0<sz)(he:Km enc P w sp held e sz f Q):
    Km enc P w sp held t 1 (fun l:List α=>[.l (l.map f)]) (fun l=>l.length≤maxLen∧∀ a∈l,Q a):=by
 intro fuel cs x h
 cases fuel with
 |zero=>cases h
 |succ n =>
  unfold DataW.trod at h
  rw[ht]at h
  split at h<;>rename_i e1<;>try (cases e1)
  ·exact⟨[],⟨Nat.zero_le _,fun a h=>by cases h⟩,rfl,rfl,KA ⟨rfl,.l [] none 0 0 (fun _ _=>undef) (Nat.le_refl _) (fun h=>absurd rfl h) (fun i c' j u h=>by simp at h) (fun i c' j u h=>by simp at h)⟩⟩
  ·rename_i a len cap
   rw[hc]at h
   dsimp only at h
   split at h
   ·rename_i hb
    obtain⟨_,hlc,hcm⟩:=hb
    cases hm:(List.range len).mapM (fun i=>(w.cells? 0 (a.add (i*sz)) sz).bind (DataW.trod enc P w 0 sp held n e))with
    |none=>rw[hm]at h;cases h
    |some elems =>
     obtain⟨h1,h2⟩:=KO hm
     have hel:∀ i,i<len→∃(b:α) (cs:List Value),w.cells? 0 (a.add (i*sz)) sz=some cs∧Q b∧(f b).length=sz∧∀(k:Nat) (u:AV) (c:Value),(f b)[k]? = some u→cs[k]? = some c→u.one=true∧R w (g0 w) u c:=by
      intro i hi
      obtain⟨y,_,hy⟩:=h2 i i (by simp[hi])
      obtain⟨cs,hcs,hy⟩:=Option.bind_eq_some_iff.1 hy
      obtain⟨b,hq,hl,_,hr⟩:=he n cs y hy
      exact⟨b,cs,hcs,hq,hl,hr⟩
     obtain⟨l,hll,hl⟩:=UX len hel
     have hv:∃ vs:Nat→Nat→Value,∀(i j:Nat) (v:Value),i<len→j<sz→w.cell? ((a.add (i*sz)).add j)=some v→vs i j=v:=by
      refine⟨fun i j=>(w.cell? ((a.add (i*sz)).add j)).getD undef,fun i j v _ _ h=>by simp[h]⟩
     obtain⟨vs,hvs⟩:=hv
     have hadd:∀ x y:Nat,(a.add x).add y=a.add (x+y):=fun x y=>by by_cases h1:x=0<;>by_cases h2:y=0<;>simp[Addr.add,h1,h2,Nat.add_assoc]
     have hR:∀(i:Nat) (c':List AV) (j:Nat) (u:AV),(l.map f)[i]? = some c'→c'[j]? = some u→u.one=true∧R w (g0 w) u (vs i j):=by
      intro i c' j u hi hj
      rw[List.getElem?_map]at hi
      obtain⟨b,hb,rfl⟩:=Option.map_eq_some_iff.1 hi
      have hil:i<len:=by
       have:=(List.getElem?_eq_some_iff.1 hb).1
       omega
      obtain⟨cs,hcs,_,hfl,hr⟩:=hl i b hb
      have hjs:j<sz:=by
       have:=(List.getElem?_eq_some_iff.1 hj).1
       omega
      obtain⟨c,hc1,hc2⟩:=(Ja hcs).2 j hjs
      rw[hvs i j c hil hjs hc2]
      exact hr j u c hj hc1
     refine⟨l,⟨by omega,fun b hb=>?_⟩,rfl,rfl,KA ⟨rfl,?_⟩⟩
     ·obtain⟨i,hi⟩:=List.getElem?_of_mem hb
      obtain⟨_,_,hq,_⟩:=hl i b hi
      exact hq
     ·have hlen:(l.map f).length=len:=by simp[hll]
      have hmain:=R.l (w:=w) (g:=g0 w) (l.map f) (some a) cap sz vs (by omega) (fun hne=>⟨a,rfl,?_,fun i c' hi=>?_⟩) (fun i c' j u h1 h2=>(hR i c' j u h1 h2).1) (fun i c' j u h1 h2=>(hR i c' j u h1 h2).2)
      ·rw[hlen]at hmain
       exact hmain
      ·have hl0:0<len:=by
         rw[←hlen]
         exact List.length_pos_iff.2 hne
       obtain⟨b,hb⟩:∃ b,l[0]? = some b:=⟨_,List.getElem?_eq_getElem (by omega)⟩
       obtain⟨cs,hcs,_⟩:=hl 0 b hb
       obtain⟨c,_,hc2⟩:=(Ja hcs).2 0 hpos
       have:=mP hc2
       exact(by simpa[Addr.add]using this:a.block<w.heap.size)
      ·rw[List.getElem?_map]at hi
       obtain⟨b,hb,rfl⟩:=Option.map_eq_some_iff.1 hi
       have hil:i<len:=by
        have:=(List.getElem?_eq_some_iff.1 hb).1
        omega
       obtain⟨cs,hcs,_,hfl,hr⟩:=hl i b hb
       refine⟨hfl,fun j hj=>?_⟩
       obtain⟨c,hc1,hc2⟩:=(Ja hcs).2 j hj
       rw[hvs i j c hil hj hc2,←hadd]
       exact hc2
   ·cases h
  ·cases h
theorem Gx{t:TypeId}{α:Type}{f:α→AV}{Q:α→Prop}(h:Km enc P w sp held t 1 (fun a=>[f a]) Q){v:Value}{d:DataW H}{ps:List MemPlace}(hv:v.oneCell'=true)(hd:DataW.Trod enc P w 0 sp held t v d ps):∃ a,Q a∧R w (g0 w) (f a) v:=by
 obtain⟨n,hn⟩:=hd
 rw[Oo hv]at hn
 obtain⟨a,hq,_,_,hr⟩:=h n _ _ hn
 exact⟨a,hq,(hr 0 (f a) v rfl rfl).2⟩
end
theorem Ad.law{P:Program}{f:FuncId}{args:List AV}(h:BF P f args (.v (.bool true))){w:World}(hg:Gl P w (g0 w)){vs:Array Value}(hl:args.length=vs.size)(hr:∀(k:Nat) (u:AV),args[k]? = some u→R w (g0 w) u (vs.getD k undef)):
    Calls P f vs w fun e w'=>e = .returned (.bool true)∧Below w.heap.size w w':=by
 refine((h S0).2 w (g0 w) vs (AeL P w hg) ⟨hl,hr⟩).mono ?_
 rintro e w' ⟨r,S',g',h1,h2,h3,rfl,rfl⟩
 cases e with
 |returned v=>exact⟨by rw[R.BB h3],h2.os,h2.tape,h2.output,h2.size,fun k hk=>h2.AR k hk⟩
 |panicked chain=>exact h3.elim
 |outgrown=>exact h3.elim
end Go.Ab
set_option linter.unusedVariables false
set_option linter.unusedSimpArgs false
namespace Go.Ab
open Go Go.RowKit
section
variable {H:Type} {enc:TypeId × Value→H} {P:Program} {w:World} {sp:Nat→Bool} {held:Bool}
end
end Go.Ab
set_option linter.unusedVariables false
set_option linter.unusedSimpArgs false
namespace Go.Ab
open Go Go.RowKit
variable {D:List Deferred}
section
variable {A:AV→Prop} {P:AV→Prop} {S0:Aa}
theorem vR{x:AV}:(∃ q,(x=q∧S0=S0)∧P q)=P x:=by apply propext;simp
theorem jQ{c:List AV}{j n:Nat}:(∃ q,(shift (.q c j) n S0 fun v S=>v=q∧S=S0)∧P q)=P (.q c (j+n)):=CZ (op:=fun K=>shift (.q c j) n S0 K) fun K=>rfl
theorem AN{c:List AV}{j:Nat}{u:AV}(h:c[j]? = some u):(∃ q,(Ay (.q c j) S0 fun v S=>v=q∧S=S0)∧P q)=P u:=CZ (op:=fun K=>Ay (.q c j) S0 K) fun K=>by simp[Ay,Sq,place,h]
theorem Ct{id t n:Nat}{cs:List AV}{l:Bool}(h:S0.obj id=some (.cells t [cs] l))(hn:cs.length=n):(∃ q,(AB n (.p id 0 0) S0 fun v S=>v=q∧S=S0)∧P q)=P (.a cs):=CZ (op:=fun K=>AB n (.p id 0 0) S0 K) fun K=>An h hn
theorem Ud{c:List AV}{n:Nat}(h:c.length=n):(∃ q,(AB n (.q c 0) S0 fun v S=>v=q∧S=S0)∧P q)=P (.a c):=CZ (op:=fun K=>AB n (.q c 0) S0 K) fun K=>by subst h;simp[AB,Xp,place]
theorem zF{b:Bool}:(∃ q,(un .not (.v (.bool b)) S0 fun v S=>v=q∧S=S0)∧P q)=P (.v (.bool !b)):=CZ (op:=fun K=>un .not (.v (.bool b)) S0 K) fun K=>AJ b
theorem AgJ{k:IntKind}{a b:Int}{kd:Nat}:(∃ q,(bin .eql kd (.v (.int k a)) (.v (.int k b)) S0 fun v S=>v=q∧S=S0)∧P q)=P (.v (.bool (decide (a=b)))):=CZ (op:=fun K=>bin .eql kd (.v (.int k a)) (.v (.int k b)) S0 K) fun K=>AA _ _ _ _
theorem vS{k:IntKind}{a b:Int}{kd:Nat}:(∃ q,(bin .lss kd (.v (.int k a)) (.v (.int k b)) S0 fun v S=>v=q∧S=S0)∧P q)=P (.v (.bool (decide (a<b)))):=CZ (op:=fun K=>bin .lss kd (.v (.int k a)) (.v (.int k b)) S0 K) fun K=>As _ _ _ _
theorem AgG{k:IntKind}{a b:Int}{kd:Nat}:(∃ q,(bin .leq kd (.v (.int k a)) (.v (.int k b)) S0 fun v S=>v=q∧S=S0)∧P q)=P (.v (.bool (decide (a≤b)))):=CZ (op:=fun K=>bin .leq kd (.v (.int k a)) (.v (.int k b)) S0 K) fun K=>Di _ _ _ _
theorem vT{k:IntKind}{a b:Int}{kd:Nat}:(∃ q,(bin .gtr kd (.v (.int k a)) (.v (.int k b)) S0 fun v S=>v=q∧S=S0)∧P q)=P (.v (.bool (decide (b<a)))):=CZ (op:=fun K=>bin .gtr kd (.v (.int k a)) (.v (.int k b)) S0 K) fun K=>AO _ _ _ _
theorem AgI{k:IntKind}{a b:Int}{kd:Nat}:(∃ q,(bin .geq kd (.v (.int k a)) (.v (.int k b)) S0 fun v S=>v=q∧S=S0)∧P q)=P (.v (.bool (decide (b≤a)))):=CZ (op:=fun K=>bin .geq kd (.v (.int k a)) (.v (.int k b)) S0 K) fun K=>BH _ _ _ _
theorem zI{a b:Bool}:(∃ q,(bin .eql 1 (.v (.bool a)) (.v (.bool b)) S0 fun v S=>v=q∧S=S0)∧P q)=P (.v (.bool (a == b))):=CZ (op:=fun K=>bin .eql 1 (.v (.bool a)) (.v (.bool b)) S0 K) fun K=>Kd _ _
theorem VB{a b:Int}{kd:Nat}(h:-9223372036854775808≤a+b)(h':a+b≤9223372036854775807):(∃ q,(bin .add kd (.v (.int .i64 a)) (.v (.int .i64 b)) S0 fun v S=>v=q∧S=S0)∧P q)=P (.v (.int .i64 (a+b))):=CZ (op:=fun K=>bin .add kd (.v (.int .i64 a)) (.v (.int .i64 b)) S0 K) fun K=>Ar h h' kd
theorem HU{op:(AV→Aa→Prop)→Prop}{v:AV}(h:∀ K,op K=K v S0):(∃ q,op (fun u S=>u=q∧S=S0)∧P q)=P v:=CZ h
theorem Kp{Pr:Program}{f:FuncId}{args:List AV}{r:AV}{X:Bh→Aa→Prop}(h:AT Pr f args S0 r)(k:P r):∃ q,(Ah Pr f args S0 X fun v S=>v=q∧S=S0)∧P q:=⟨r,At h ⟨rfl,rfl⟩,k⟩
theorem rV{Pr:Program}{f:FuncId}{args:List AV}{r:AV}{X:Bh→Aa→Prop}(h:BF Pr f args r)(k:P r):∃ q,(Ah Pr f args S0 X fun v S=>v=q∧S=S0)∧P q:=⟨r,Af h ⟨rfl,rfl⟩,k⟩
theorem Bb{b:Bool}{A B:Prop}(h:b=true):gd b A B=A:=by rw[h];rfl
theorem Be{b:Bool}{A B:Prop}(h:b=false):gd b A B=B:=by rw[h];rfl
theorem AK{b:Bool}{A B:Prop}(h:b=true):gd (!b) A B=B:=by rw[h];rfl
theorem AQ{b:Bool}{A B:Prop}(h:b=false):gd (!b) A B=A:=by rw[h];rfl
theorem BE{Pr:Program}{f f':FuncId}{args args':List AV}{r:AV}{X:Bh→Aa→Prop}(h:BF Pr f' args' r)(hf:Nat.beq f f'=true)(ha:args=args')(k:P r):∃ q,(Ah Pr f args S0 X fun v S=>v=q∧S=S0)∧P q:=by
 obtain rfl:=Nat.eq_of_beq_eq_true hf
 subst ha
 exact rV h k
theorem FK{Pr:Program}{f f':FuncId}{args args':List AV}{r:AV}{X:Bh→Aa→Prop}(h:AT Pr f' args' S0 r)(hf:Nat.beq f f'=true)(ha:args=args')(k:P r):∃ q,(Ah Pr f args S0 X fun v S=>v=q∧S=S0)∧P q:=by
 obtain rfl:=Nat.eq_of_beq_eq_true hf
 subst ha
 exact Kp h k
theorem CT{Pr:Program}{f f':FuncId}{args args':List AV}{r:AV}(h:BF Pr f' args' r)(hf:Nat.beq f f'=true)(ha:args=args'){S:Aa}{Q:Bh→Aa→Prop}{K:AV→Aa→Prop}(k:K r S):Ah Pr f args S Q K:=by
 obtain rfl:=Nat.eq_of_beq_eq_true hf
 subst ha
 exact Af h k
theorem NL{Pr:Program}{f f':FuncId}{args args':List AV}{r:AV}{S:Aa}(h:AT Pr f' args' S r)(hf:Nat.beq f f'=true)(ha:args=args'){Q:Bh→Aa→Prop}{K:AV→Aa→Prop}(k:K r S):Ah Pr f args S Q K:=by
 obtain rfl:=Nat.eq_of_beq_eq_true hf
 subst ha
 exact At h k
theorem AgB{x:AV}(k:P x):∃ q,(∀ T:Aa,Am S0 T→x=q∧T=T)∧P q:=⟨x,fun T hT=>⟨rfl,rfl⟩,k⟩
theorem G0{Pr:Program}{f:FuncId}{args:List AV}{r:AV}{X:Bh→Aa→Prop}(h:BF Pr f args r)(k:P r):∃ q,(∀ T,Am S0 T→Ah Pr f args T X fun v S=>v=q∧S=T)∧P q:=⟨r,fun T hT=>Af h ⟨rfl,rfl⟩,k⟩
theorem Cj{id i j n:Nat}(k:P (.p id i (j+n))):∃ q,(∀ T,Am S0 T→shift (.p id i j) n T fun v S=>v=q∧S=T)∧P q:=⟨_,fun T hT=>⟨rfl,rfl⟩,k⟩
theorem Ko{id i j t:Nat}{es:List (List AV)}{c:List AV}{u:AV}{l:Bool}(h:S0.obj id=some (.cells t es l))(hid:id<S0.n)(hi:es[i]? = some c)(hj:c[j]? = some u)(k:P u):∃ q,(∀ T,Am S0 T→Ay (.p id i j) T fun v S=>v=q∧S=T)∧P q:=
 ⟨u,fun T hT=>by rw[Ae ((hT.2 _ hid).trans h) hi hj];exact⟨rfl,rfl⟩,k⟩
theorem Gi{id t n:Nat}{cs:List AV}{l:Bool}(h:S0.obj id=some (.cells t [cs] l))(hid:id<S0.n)(hn:cs.length=n)(k:P (.a cs)):∃ q,(∀ T,Am S0 T→AB n (.p id 0 0) T fun v S=>v=q∧S=T)∧P q:=
 ⟨.a cs,fun T hT=>by rw[An ((hT.2 _ hid).trans h) hn];exact⟨rfl,rfl⟩,k⟩
theorem AgC{c:List AV}{j:Nat}{u:AV}(h:c[j]? = some u)(k:P u):∃ q,(∀ T,Am S0 T→Ay (.q c j) T fun v S=>v=q∧S=T)∧P q:=⟨u,fun T hT=>by simp[Ay,Sq,place,h],k⟩
theorem zC{c:List AV}{n:Nat}(h:c.length=n)(k:P (.a c)):∃ q,(∀ T,Am S0 T→AB n (.q c 0) T fun v S=>v=q∧S=T)∧P q:=⟨.a c,fun T hT=>by subst h;simp[AB,Xp,place],k⟩
end
end Go.Ab
set_option linter.unusedVariables false
set_option linter.unusedSimpArgs false
namespace Go.Ab
open Go
class Jn (a:Prop) (b:outParam Prop):Prop where
 eq:a=b
theorem W{a b:Prop}(h:a=b)(k:b):a:=Eq.mpr h k
theorem WJ{a b:Prop}[h:Jn a b](k:b):a:=Eq.mpr h.eq k
section
variable {P:AV→Prop} {S0 S:Aa} {K:AV→Aa→Prop} {A:AV→Prop} {B C:Prop}
instance {x:AV}:Jn (∃ q,(x=q∧S0=S0)∧P q) (P x):=⟨vR⟩
instance {id i j n:Nat}:Jn (∃ q,(shift (.p id i j) n S0 fun v S=>v=q∧S=S0)∧P q) (P (.p id i (j+n))):=⟨rS⟩
instance (b:Bool) (K:Bool→Prop):Jn (KC (.v (.bool b)) K) (K b):=⟨Ag _ _⟩
instance:Jn (gd true B C) B:=⟨Bf _ _⟩
instance:Jn (gd false B C) C:=⟨A2 _ _⟩
instance {b:Bool}:Jn (∃ t:Bool,BC (.v (.bool b)) b=some t∧∃ q,gd t (A q) (q = .v undef)∧P q) (∃ q,A q∧P q):=⟨AgE⟩
instance:Jn (∃ t:Bool,BC (.v (.bool true)) false=some t∧∃ q,gd t (A q) (q = .v undef)∧P q) (P (.v undef)):=⟨jO⟩
instance:Jn (∃ t:Bool,BC (.v (.bool false)) true=some t∧∃ q,gd t (A q) (q = .v undef)∧P q) (P (.v undef)):=⟨jP⟩
instance {w:Bool}:Jn (∃ t:Bool,BC (.v undef) w=some t∧∃ q,gd t (A q) (q = .v undef)∧P q) (P (.v undef)):=⟨rR⟩
instance {x:AV}:Jn (∃ q,(q=x)∧P q) (P x):=⟨AhG⟩
instance {x y:AV}:Jn (∃ q,(pick (.v (.bool true)) x y S0 fun v S=>v=q∧S=S0)∧P q) (P x):=⟨rT⟩
instance {x y:AV}:Jn (∃ q,(pick (.v (.bool false)) x y S0 fun v S=>v=q∧S=S0)∧P q) (P y):=⟨rU⟩
instance {c:List AV} {j n:Nat}:Jn (∃ q,(shift (.q c j) n S0 fun v S=>v=q∧S=S0)∧P q) (P (.q c (j+n))):=⟨jQ⟩
instance {α:Type} {f:α→AV} {l:List α}:Jn (∃ q,(AF (aL f l) S0 fun v S=>v=q∧S=S0)∧P q) (P (.v (.int .i64 l.length))):=⟨AgH⟩
instance {b:Bool}:Jn (∃ q,(un .not (.v (.bool b)) S0 fun v S=>v=q∧S=S0)∧P q) (P (.v (.bool !b))):=⟨zF⟩
instance {k:IntKind} {a b:Int} {kd:Nat}:Jn (∃ q,(bin .eql kd (.v (.int k a)) (.v (.int k b)) S0 fun v S=>v=q∧S=S0)∧P q) (P (.v (.bool (decide (a=b))))):=⟨AgJ⟩
instance {k:IntKind} {a b:Int} {kd:Nat}:Jn (∃ q,(bin .neq kd (.v (.int k a)) (.v (.int k b)) S0 fun v S=>v=q∧S=S0)∧P q) (P (.v (.bool (!decide (a=b))))):=⟨AgF⟩
instance {k:IntKind} {a b:Int} {kd:Nat}:Jn (∃ q,(bin .lss kd (.v (.int k a)) (.v (.int k b)) S0 fun v S=>v=q∧S=S0)∧P q) (P (.v (.bool (decide (a<b))))):=⟨vS⟩
instance {k:IntKind} {a b:Int} {kd:Nat}:Jn (∃ q,(bin .leq kd (.v (.int k a)) (.v (.int k b)) S0 fun v S=>v=q∧S=S0)∧P q) (P (.v (.bool (decide (a≤b))))):=⟨AgG⟩
instance {k:IntKind} {a b:Int} {kd:Nat}:Jn (∃ q,(bin .gtr kd (.v (.int k a)) (.v (.int k b)) S0 fun v S=>v=q∧S=S0)∧P q) (P (.v (.bool (decide (b<a))))):=⟨vT⟩
instance {k:IntKind} {a b:Int} {kd:Nat}:Jn (∃ q,(bin .geq kd (.v (.int k a)) (.v (.int k b)) S0 fun v S=>v=q∧S=S0)∧P q) (P (.v (.bool (decide (b≤a))))):=⟨AgI⟩
instance {a b:Bool}:Jn (∃ q,(bin .eql 1 (.v (.bool a)) (.v (.bool b)) S0 fun v S=>v=q∧S=S0)∧P q) (P (.v (.bool (a == b)))):=⟨zI⟩
instance {a b:Bool}:Jn (∃ q,(bin .neq 1 (.v (.bool a)) (.v (.bool b)) S0 fun v S=>v=q∧S=S0)∧P q) (P (.v (.bool (a != b)))):=⟨zG⟩
instance (id i j n:Nat):Jn (shift (.p id i j) n S K) (K (.p id i (j+n)) S):=⟨Ac _ _ _ _⟩
instance (c:List AV) (j n:Nat):Jn (shift (.q c j) n S K) (K (.q c (j+n)) S):=⟨rfl⟩
instance (u:AV):Jn (Ay (.q [u] 0) S K) (K u S):=⟨A1 _⟩
instance {α:Type} (f:α→AV) (l:List α):Jn (AF (aL f l) S K) (K (.v (.int .i64 l.length)) S):=⟨Ax _ _⟩
instance (k:IntKind) (a b:Int) (kd:Nat):Jn (bin .eql kd (.v (.int k a)) (.v (.int k b)) S K) (K (.v (.bool (decide (a=b)))) S):=⟨AA _ _ _ _⟩
instance (k:IntKind) (a b:Int) (kd:Nat):Jn (bin .neq kd (.v (.int k a)) (.v (.int k b)) S K) (K (.v (.bool (!decide (a=b)))) S):=⟨Bl _ _ _ _⟩
instance (k:IntKind) (a b:Int) (kd:Nat):Jn (bin .lss kd (.v (.int k a)) (.v (.int k b)) S K) (K (.v (.bool (decide (a<b)))) S):=⟨As _ _ _ _⟩
instance (k:IntKind) (a b:Int) (kd:Nat):Jn (bin .leq kd (.v (.int k a)) (.v (.int k b)) S K) (K (.v (.bool (decide (a≤b)))) S):=⟨Di _ _ _ _⟩
instance (k:IntKind) (a b:Int) (kd:Nat):Jn (bin .gtr kd (.v (.int k a)) (.v (.int k b)) S K) (K (.v (.bool (decide (b<a)))) S):=⟨AO _ _ _ _⟩
instance (k:IntKind) (a b:Int) (kd:Nat):Jn (bin .geq kd (.v (.int k a)) (.v (.int k b)) S K) (K (.v (.bool (decide (b≤a)))) S):=⟨BH _ _ _ _⟩
instance (a b:Bool):Jn (bin .eql 1 (.v (.bool a)) (.v (.bool b)) S K) (K (.v (.bool (a == b))) S):=⟨Kd _ _⟩
instance (a b:Bool):Jn (bin .neq 1 (.v (.bool a)) (.v (.bool b)) S K) (K (.v (.bool (a != b))) S):=⟨DI _ _⟩
instance (b:Bool):Jn (un .not (.v (.bool b)) S K) (K (.v (.bool !b)) S):=⟨AJ _⟩
end
end Go.Ab
set_option linter.unusedVariables false
set_option linter.unusedSimpArgs false
namespace Go.Ab
open Go Go.RowKit
theorem Ad.r8{P:Program}{f:FuncId}{args:List AV}{S:Aa}{Φ:AV→Aa→Prop}(h:Ad P f args S (fun e S'=>∃ r tr,e = .ret r∧Cv (S'.BA (AL S.n)) S'.n r tr∧Φ tr S')):
    Ad P f args S (fun e S''=>∃ tr S',e = .ret tr∧S''=S'.BA (AL S.n)∧Φ tr S'):=by
 refine⟨h.1,fun w g vs hh ha=>(h.2 w g vs hh ha).mono ?_⟩
 rintro e w' ⟨_,S',g',h1,h2,h3,r,tr,rfl,hcv,hphi⟩
 cases e with
 |returned v =>
  have hf:=F0 h1 (AL S.n)
  have hm:=Hr h1 (AL S.n)
  have hcut:(g'.BA S' (AL S.n)).cut S'.n=g'.BA S' (AL S.n):=by
   have:(g'.BA S' (AL S.n)).n=S'.n:=h1.n
   rw[←this];rfl
  have hR:=NJ hf hcv (R.mv hm h3)
  rw[hcut]at hR
  exact⟨.ret tr,S'.BA (AL S.n),g'.BA S' (AL S.n),hf,h2.trans hm,hR,tr,S',rfl,rfl,hphi⟩
 |panicked chain=>exact h3.elim
 |outgrown=>exact h3.elim
theorem D9{n:Nat}{S:Aa}{x:AV}{e:Nat}{es:List (List AV)}(hf:∀ r∈es,∀ u∈r,Tree u)(h:A4 n S x e es){k m:Nat}(hk:k≤n):Cv (S.BA (AL k)) m x (.l es):=by
 rcases h with⟨rfl,rfl⟩|⟨id,rfl,h1,h2,h3⟩
 ·exact .nl
 ·refine .s id 0 _ e _ _ (by rw[GK h3];have:AL k id=true:=by simp[AL];omega
                             rw[this];rfl) (by simp) (by simp) (fun i c c2 hi hi2=>?_) (fun i c c2 k u u2 hi hi2 hk hk2=>?_)
  ·rw[Nat.zero_add]at hi;rw[hi]at hi2;cases hi2;rfl
  ·rw[Nat.zero_add]at hi;rw[hi]at hi2;cases hi2
   rw[hk]at hk2;cases hk2
   exact hf c (List.mem_of_getElem? hi) u (List.mem_of_getElem? hk) _ _
end Go.Ab
set_option linter.unusedVariables false
set_option linter.unusedSimpArgs false
namespace Go.Ab
open Go
section
variable {P:AV→Prop} {S0:Aa}
theorem E9{op:Aa→(AV→Aa→Prop)→Prop}{v:AV}(h:∀ T,Am S0 T→∀ K,op T K=K v T):(∃ q,(∀ T,Am S0 T→op T (fun u S=>u=q∧S=T))∧P q)=P v:=by
 apply propext
 constructor
 ·rintro⟨q,h1,h2⟩
  have h3:=h1 S0 (Am.refl _)
  rw[h S0 (Am.refl _)]at h3
  obtain⟨rfl,_⟩:=h3
  exact h2
 ·intro h2
  exact⟨v,fun T hT=>by rw[h T hT];exact⟨rfl,rfl⟩,h2⟩
theorem Dr{id i j t:Nat}{es:List (List AV)}{c:List AV}{u:AV}{l:Bool}(h:S0.obj id=some (.cells t es l))(hid:id<S0.n)(hi:es[i]? = some c)(hj:c[j]? = some u):(∃ q,(∀ T,Am S0 T→Ay (.p id i j) T fun v S=>v=q∧S=T)∧P q)=P u:=
 E9 (op:=fun T K=>Ay (.p id i j) T K) fun T hT K=>Ae ((hT.2 _ hid).trans h) hi hj
theorem zE{id t n:Nat}{cs:List AV}{l:Bool}(h:S0.obj id=some (.cells t [cs] l))(hid:id<S0.n)(hn:cs.length=n):(∃ q,(∀ T,Am S0 T→AB n (.p id 0 0) T fun v S=>v=q∧S=T)∧P q)=P (.a cs):=
 E9 (op:=fun T K=>AB n (.p id 0 0) T K) fun T hT K=>An ((hT.2 _ hid).trans h) hn
theorem zD{c:List AV}{j:Nat}{u:AV}(h:c[j]? = some u):(∃ q,(∀ T,Am S0 T→Ay (.q c j) T fun v S=>v=q∧S=T)∧P q)=P u:=E9 (op:=fun T K=>Ay (.q c j) T K) fun T hT K=>by simp[Ay,Sq,place,h]
theorem G1{c:List AV}{n:Nat}(h:c.length=n):(∃ q,(∀ T,Am S0 T→AB n (.q c 0) T fun v S=>v=q∧S=T)∧P q)=P (.a c):=E9 (op:=fun T K=>AB n (.q c 0) T K) fun T hT K=>by subst h;simp[AB,Xp,place]
theorem vP{α:Type}{l:List α}{f:α→AV}{e i:Nat}(h:i<l.length):(∃ q,(∀ T,Am S0 T→AS e 1 (aL f l) (.v (.int .i64 i)) T fun v S=>v=q∧S=T)∧P q)=P (.q [f l[i]] 0):=E9 (op:=fun T K=>AS e 1 (aL f l) (.v (.int .i64 i)) T K) fun T hT K=>AM h
instance {x:AV}:Jn (∃ q,(∀ T:Aa,Am S0 T→x=q∧T=T)∧P q) (P x):=⟨by
 apply propext
 exact⟨fun⟨q,h1,h2⟩=>by obtain⟨rfl,_⟩:=h1 S0 (Am.refl _);exact h2,fun h=>⟨x,fun _ _=>⟨rfl,rfl⟩,h⟩⟩⟩
instance {id i j n:Nat}:Jn (∃ q,(∀ T,Am S0 T→shift (.p id i j) n T fun v S=>v=q∧S=T)∧P q) (P (.p id i (j+n))):=⟨E9 (op:=fun T K=>shift (.p id i j) n T K) fun T hT K=>Ac _ _ _ _⟩
instance {c:List AV} {j n:Nat}:Jn (∃ q,(∀ T,Am S0 T→shift (.q c j) n T fun v S=>v=q∧S=T)∧P q) (P (.q c (j+n))):=⟨E9 (op:=fun T K=>shift (.q c j) n T K) fun T hT K=>rfl⟩
instance {b:Bool}:Jn (∃ q,(∀ T,Am S0 T→un .not (.v (.bool b)) T fun v S=>v=q∧S=T)∧P q) (P (.v (.bool !b))):=⟨E9 (op:=fun T K=>un .not (.v (.bool b)) T K) fun T hT K=>AJ _⟩
instance {α:Type} {f:α→AV} {l:List α}:Jn (∃ q,(∀ T,Am S0 T→AF (aL f l) T fun v S=>v=q∧S=T)∧P q) (P (.v (.int .i64 l.length))):=⟨E9 (op:=fun T K=>AF (aL f l) T K) fun T hT K=>Ax _ _⟩
instance {k:IntKind} {a b:Int} {kd:Nat}:Jn (∃ q,(∀ T,Am S0 T→bin .eql kd (.v (.int k a)) (.v (.int k b)) T fun v S=>v=q∧S=T)∧P q) (P (.v (.bool (decide (a=b))))):=⟨E9 (op:=fun T K=>bin .eql kd (.v (.int k a)) (.v (.int k b)) T K) fun T hT K=>AA _ _ _ _⟩
theorem Hb{Pr:Program}{f f':FuncId}{args args':List AV}{r:AV}{X:Bh→Aa→Prop}(h:BF Pr f' args' r)(hf:Nat.beq f f'=true)(ha:args=args')(k:P r):∃ q,(∀ T,Am S0 T→Ah Pr f args T X fun v S=>v=q∧S=T)∧P q:=by
 obtain rfl:=Nat.eq_of_beq_eq_true hf
 subst ha
 exact G0 h k
theorem AhF{Pr:Program}{f f':FuncId}{fs args cs args':List AV}{r:AV}{X:AV→Aa→Prop}(h:∀ T,Am S0 T→AT Pr f' args' T r)(hf:Nat.beq f f'=true)(ha:fs++args++cs=args')(k:P r):∃ q,(∀ T,Am S0 T→Bg Pr (.f (.func f) fs cs) args T (fun v S=>v=q∧S=T) X)∧P q:=by
 obtain rfl:=Nat.eq_of_beq_eq_true hf
 subst ha
 exact⟨r,fun T hT=>BL (h T hT) ⟨rfl,rfl⟩,k⟩
end
end Go.Ab
namespace Go.Ab
open Go
theorem KY{P:Program}{f:FuncId}{args args2:List AV}{r:AV}{S:Aa}(D:Nat→Bool)(hl:args.length=args2.length)(hcv:∀(k:Nat) (u u2:AV),args[k]? = some u→args2[k]? = some u2→Cv (S.BA D) S.n u u2)(h:BF P f args2 r)
    {Q:Bh→Aa→Prop} {K:AV→Aa→Prop} (k:K r (S.BA D)):Ah P f args S Q K:=
 .inl (Ad.BA D hl hcv ((h _).mono fun e S' h=>by obtain⟨rfl,rfl⟩:=h;exact k))
theorem Am.BA{S S':Aa}(h:Am S S'){n:Nat}(hn:S.n≤n):Am S (S'.BA (AL n)):=
 ⟨h.1,fun i hi=>by rw[D0 (by simp[AL];omega)];exact h.2 i hi⟩
end Go.Ab
namespace Go.Ab
open Go
section
variable {A:AV→Prop} {P:AV→Prop} {S0:Aa} {b:Bool}
end
end Go.Ab
set_option linter.unusedVariables false
set_option linter.unusedSimpArgs false
namespace Go.Ab
open Go Go.RowKit
theorem TF{P:Program}{w:World}{g:Gh}{S:Aa}(hh:Ba P w g S){w':World}(hb:Below w.heap.size w w'):Ba P w' g S∧Mv w g w' g:=by
 have m:Mv w g w' g:=⟨hb.os,hb.tape,hb.output,hb.size,fun b h=>hb.block b (hh.im b h),fun _ h=>h,Nat.le_refl _,fun _ _=>rfl,fun _ _=>rfl,fun _ _=>rfl⟩
 exact⟨⟨hh.n,fun b h=>Nat.lt_of_lt_of_le (hh.im b h) hb.size,fun id o ho=>(hh.ob id o ho).mv m (hb.block _ (hh.ob id o ho).blk) (fun hl=>(hh.ob id o ho).imY hl),hh.sp,hh.gl.mv m⟩,m⟩
theorem Ad.below{P:Program}{f:FuncId}{args:List AV}{S:Aa}{r:AV}(he:GW P f=true)
    (h:∀(w:World) (g:Gh) (vs:Array Value),Ba P w g S→Fb w g args vs→Calls P f vs w fun e w'=>Below w.heap.size w w'∧∃ v,e = .returned v∧R w' g r v):AT P f args S r:=by
 refine⟨Fu he,fun w g vs hh ha=>(h w g vs hh ha).mono ?_⟩
 rintro e w' ⟨hb,v,rfl,hr⟩
 obtain⟨h1,h2⟩:=TF hh hb
 exact⟨.ret r,S,g,h1,h2,hr,rfl,rfl⟩
theorem Fb.one{w:World}{g:Gh}{x:Value}{vs:Array Value}(h:Fb w g [.v x] vs):vs = #[x]:=by
 obtain⟨h1,h2⟩:=h
 have h3:R w g (.v x) (vs.getD 0 undef):=h2 0 _ rfl
 have h4:=R.BB h3
 have h5:vs.size=1:=h1.symm
 apply Array.ext
 ·exact h5
 ·intro i hi1 hi2
  have:i=0:=by omega
  subst this
  have h6:vs.getD 0 undef=vs[0]:=by simp[Array.getD,h5]
  rw[←h6,h4]
  rfl
theorem R.t2{w:World}{g:Gh}{a b:AV}{x y:Value}(h1:R w g a x)(h2:R w g b y):R w g (.t [a,b]) (.tuple #[x,y]):=
 .t _ _ rfl fun k u h=>match k,h with
  |0,h=>by cases h;exact h1
  |1,h=>by cases h;exact h2
  |k+2,h=>by simp at h
end Go.Ab

/- Tree -/
import Derived.WalkMore
import Derived.Defers
import Derived.Laws.LoneSync
import Derived.Below
import Derived.WalkKit
import Derived.ProofKit
import Derived.Test.YtfhekpnddoihkaaGreatTgT1
set_option linter.unusedVariables false
set_option linter.unusedSimpArgs false
namespace Go.Ab
open Go Go.RowKit
variable {D:List Deferred}
def wantT(x:AV)(want:Bool):Option Bool:=
 match x with
 |.v (.bool b)=>some (b == want)
 |.v (.tuple _)=>some false
 |_=>none
def valJ(P:Program)(op:Op)(env:Env)(S:Store)(v:AV):Prop:=
 match mvA op env with
 |some x=>v=x
 |none=>vcOp P op env S (fun u S'=>u=v∧S'=S) (fun _ _=>False)
theorem valJ_vc{P:Program}{op:Op}{env:Env}{S:Store}{v:AV}(h:valJ P op env S v):vcOp P op env S (fun u S'=>u=v∧S'=S) (fun _ _=>False):=by
 unfold valJ at h
 split at h
 ·rename_i x hx
  subst h
  exact mvA_op hx
 ·exact h
def guJ(ops:Array Oper)(o:Oper)(env:Env)(run:Prop)(K:Bool→Prop):Prop:=
 match o.guard with
 |none=>run
 |some (j,want)=>match(ops[j]?).bind (·.dst)with
  |none=>False
  |some d=>match Nat.blt d env.n with
   |false=>False
   |true=>∃ t,wantT (env.f d) want=some t∧K t
theorem guJ_spec{ops:Array Oper}{o:Oper}{env:Env}{run:Prop}{K:Bool→Prop}(h:guJ ops o env run K):(wantA ops env o=some true∧run)∨∃ t,wantA ops env o=some t∧K t:=by
 unfold guJ at h
 unfold wantA
 split at h
 ·rename_i hg
  rw[hg]
  exact .inl ⟨rfl,h⟩
 ·rename_i j want hg
  rw[hg]
  dsimp only
  split at h
  ·exact h.elim
  ·rename_i d hd
   rw[hd]
   dsimp only
   split at h
   ·exact h.elim
   ·rename_i hb
    rw[hb]
    dsimp only
    obtain⟨t,ht,hK⟩:=h
    refine .inr ⟨t,?_,hK⟩
    unfold wantT at ht
    split at ht<;>simp_all
def quietOp:Op→Bool
 |.store _ _ _|.alloc _|.box _ _|.makeSlice _ _ _|.makeMap _ _|.mapUpdate _ _ _ _|.insert _ _ _ _|.mapEntry _ _ _|.entryStore _ _ _ _|.range _ _|.next _ _|.panic _|.call { callee:=.builtin .append,.. }|.call { callee:=.builtin .unsafeString,.. }=>false
 |_=>true
def vcJ(P:Program)(ops:Array Oper):List Oper→Env→Store→(Env→Store→Prop)→(AV→Env→Store→Prop)→Prop
 |[],env,S,K,_=>K env S
 |o :: rest,env,S,K,X =>
  guJ ops o env (match quietOp o.op with
      |true=>match mvA o.op env with
       |some v=>vcJ P ops rest (setD env o.dst v) S K X
       |none=>∃ v,vcOp P o.op env S (fun u S'=>u=v∧S'=S) (fun _ _=>False)∧vcJ P ops rest (setD env o.dst v) S K X
      |false=>vcOp P o.op env S (fun v S'=>vcJ P ops rest (setD env o.dst v) S' K X) (fun u S'=>X u env S'))
   (fun t=>∃ v,gd t (valJ P o.op env S v) (v = .v undef)∧vcJ P ops rest (setD env o.dst v) S K X)
theorem vcJ_sound{P:Program}{ops:Array Oper}{Q:AX→Env→Store→Prop}{w0:World}{g0:Gh}:∀(l:List Oper) (env:Env) (S:Store) (w:World) (g:Gh) (a:Act),Heap P w g S→EnvR D w g env a→Mv w0 g0 w g→
    vcJ P ops l env S (Q .normal) (fun u env' S'=>Q (.pan u) env' S')→wpList P ops (Post P D w0 g0 Q) l a w
 |[],env,S,w,g,a,hh,he,m,h=>⟨.normal,env,S,g,hh,he,m,trivial,h⟩
 |o :: rest,env,S,w,g,a,hh,he,m,h=>by
  unfold wpList
  have quiet:∀ v,vcOp P o.op env S (fun u S'=>u=v∧S'=S) (fun _ _=>False)→vcJ P ops rest (setD env o.dst v) S (Q .normal) (fun u env' S'=>Q (.pan u) env' S')→
      o.wp P a w (fun a w=>wpList P ops (Post P D w0 g0 Q) rest a w) (Post P D w0 g0 Q):=fun v h1 h2 =>
   vcOp_sound h1 D w g a _ _ hh he (fun u S' w' g' y k1 k2 k3 k4=>by
    obtain⟨rfl,rfl⟩:=k4
    exact vcJ_sound rest _ _ w' g' _ k1 ((he.mv k2).put o.dst k3) (m.trans k2) h2) (fun u S' w' g' y k1 k2 k3 k4=>k4.elim)
  simp only[vcJ]at h
  rcases guJ_spec h with⟨ht,h'⟩|⟨t,ht,v,h1,h2⟩
  ·rw[if_pos (wantA_sound he ht)]
   split at h'
   ·split at h'
    ·rename_i v hv
     exact .inl (quiet v (mvA_op hv) h')
    ·obtain⟨v,h1,h2⟩:=h'
     exact .inl (quiet v h1 h2)
   ·exact .inl (vcOp_sound h' D w g a _ _ hh he (fun v S' w' g' y k1 k2 k3 k4=>vcJ_sound rest _ _ w' g' _ k1 ((he.mv k2).put o.dst k3) (m.trans k2) k4)
      (fun u S' w' g' y k1 k2 k3 k4=>⟨.pan u,env,S',g',k1,he.mv k2,m.trans k2,⟨y,rfl,k3⟩,k4⟩))
  ·rcases gd_cases h1 with⟨rfl,h1⟩|⟨rfl,rfl⟩
   ·rw[if_pos (wantA_sound he ht)]
    exact .inl (quiet v (valJ_vc h1) h2)
   ·rw[if_neg (by rw[wantA_sound he ht];simp)]
    exact vcJ_sound rest _ _ w g _ hh (he.put o.dst (.v _)) m h2
def vcQJ(P:Program)(ops:Array Oper)(S:Store):List Oper→Env→(Env→Prop)→Prop
 |[],env,K=>K env
 |o :: rest,env,K =>
  guJ ops o env (match mvA o.op env with
      |some v=>vcQJ P ops S rest (setD env o.dst v) K
      |none=>∃ v,vcOp P o.op env S (fun u S'=>u=v∧S'=S) (fun _ _=>False)∧vcQJ P ops S rest (setD env o.dst v) K)
   (fun t=>∃ v,gd t (valJ P o.op env S v) (v = .v undef)∧vcQJ P ops S rest (setD env o.dst v) K)
theorem aAny_lexJ{P:Program}{ops:Array Oper}{S:Store}{K:Env→Prop}:∀(l:List Oper) (k:Nat) (listed:Array Bool) (env:Env),(∀ j:Nat,l[j]? = ops[k+j]?)→
    Region.lexFrom .any ops l.length k listed=true→vcQJ P ops S l env K→aAny P ops S K l.length listed env
 |[],_,_,_,_,hB,h=>⟨by simpa[Region.lexFrom]using hB,h⟩
 |o :: l,k,listed,env,hl,hB,h=>by
  have h0:ops[k]? = some o:=by simpa using(hl 0).symm
  simp only[List.length_cons,Region.lexFrom,Bool.and_eq_true]at hB
  obtain⟨⟨hr,hf⟩,hB'⟩:=hB
  have hrest:=fun env'=>aAny_lexJ (P:=P) (S:=S) (K:=K) l (k+1) (listed.setIfInBounds k true) env' (fun j=>by have:=hl (j+1);simpa[Nat.add_assoc,Nat.add_comm 1 j]using this) hB'
  simp only[vcQJ]at h
  have fin:∀ v,Yd P ops S o v env→vcQJ P ops S l (setD env o.dst v) K→aAny P ops S K (l.length+1) listed env:=fun v h1 h2 =>
   aAny_first h0 l.length listed env (Region.free_spec h0 hf) (by simpa using hr) h1 (hrest _ h2)
  rcases guJ_spec h with⟨ht,h'⟩|⟨t,ht,v,h1,h2⟩
  ·split at h'
   ·rename_i v hv
    exact fin v ⟨true,ht,mvA_op hv⟩ h'
   ·obtain⟨v,h1,h2⟩:=h'
    exact fin v ⟨true,ht,h1⟩ h2
  ·refine fin v ⟨t,ht,?_⟩ h2
   rcases gd_cases h1 with⟨rfl,h1⟩|⟨rfl,rfl⟩
   ·exact valJ_vc h1
   ·rfl
theorem draw_quietJ{P:Program}(hm:P.follows .mixedOrders=true){id:Nat}{ops:Array Oper}(hB:Region.lexB .any ops=true){env:Env}{S:Store}{K:AX→Env→Store→Prop}
    (h:vcQJ P ops S ops.toList env (fun env'=>K .normal env' S)):drawV P id ops env S K:=by
 intro D w g a hh he
 simp only[Region.lexB,Bool.and_eq_true]at hB
 refine wp_region_any hm ?_
 have h1:=aAny_lexJ (P:=P) (S:=S) ops.toList 0 (Array.replicate ops.size false) env (by simp) (by simpa using hB.2) h
 have h2:=aAny_wp (w0:=w) (g0:=g) ops.toList.length (Array.replicate ops.size false) env w.drew g a hh.drew (he.mv (mv_drew w g)) (mv_drew w g) h1
 simpa using h2
inductive St where
 |q (i:Nat)
 |l (i D:Nat)
 |k (i:Nat)
 |n (is:List Nat)
 |s (i j:Nat)
 deriving DecidableEq
def newObj(P:Program)(op:Op)(env:Env):Option AObj:=
 match op with
 |.alloc t=>match zT P t,szT P t with
  |some z,some n=>match cellsOf (absC z)with
   |some cs=>match decide (cs.length=n)with|true=>some (.cells t [cs] true)|false=>none
   |none=>none
  |_,_=>none
 |.box t x=>match szT P t with
  |some n=>match cellsOf (ev env x)with
   |some cs=>match decide (cs.length=n)with|true=>some (.cells t [cs] true)|false=>none
   |none=>none
  |none=>none
 |_=>none
theorem newObj_vc{P:Program}{op:Op}{env:Env}{o:AObj}(h:newObj P op env=some o){S:Store}{K X:AV→Store→Prop}(hK:K (.p S.n 0 0) (S.new o)):vcOp P op env S K X:=by
 unfold newObj at h
 split at h
 ·split at h
  ·rename_i z n hz hn
   split at h
   ·rename_i cs hcs
    split at h
    ·rename_i hd
     cases h
     simp only[vcOp,alloc,hz,box,hn]
     exact⟨cs,hcs,of_decide_eq_true hd,hK⟩
    ·cases h
   ·cases h
  ·cases h
 ·split at h
  ·rename_i n hn
   split at h
   ·rename_i cs hcs
    split at h
    ·rename_i hd
     cases h
     simp only[vcOp,box,hn]
     exact⟨cs,hcs,of_decide_eq_true hd,hK⟩
    ·cases h
   ·cases h
  ·cases h
 ·cases h
def newOp:Op→Bool
 |.alloc _|.box _ _=>true
 |_=>false
theorem vc_newObj{P:Program}{op:Op}{env:Env}(hn:newOp op=true){S:Store}{K X:AV→Store→Prop}(h:vcOp P op env S K X):∃ o,newObj P op env=some o∧K (.p S.n 0 0) (S.new o):=by
 cases op<;>simp[newOp]at hn
 ·simp only[vcOp,alloc]at h
  split at h
  ·rename_i z hz
   obtain⟨cs,h1,h2,h3⟩:=box_open h
   exact⟨_,by simp[newObj,hz,h2,h1],h3⟩
  ·exact h.elim
 ·simp only[vcOp]at h
  obtain⟨cs,h1,h2,h3⟩:=box_open h
  exact⟨_,by simp[newObj,h2,h1],h3⟩
theorem newObj_congr{P:Program}{op:Op}{env env':Env}(h:∀ x,x∈op.operands→ev env x=ev env' x):newObj P op env=newObj P op env':=by
 cases op<;>simp only[Op.operands]at h<;>try rfl
 case box t x=>simp only[newObj,h x (by simp)]
structure Newed (S:Store) (os:List AObj) (ids:List Nat) (S':Store):Prop where
 n:S'.n=S.n+os.length
 old:∀ i,i<S.n→S'.obj i=S.obj i
 len:ids.length=os.length
 nodup:ids.Nodup
 lo:∀ id∈ids,S.n≤id
 hi:∀ id∈ids,id<S'.n
 new:∀(k id:Nat) (o:AObj),ids[k]? = some id→os[k]? = some o→S'.obj id=some o
theorem Newed.keep{S S':Store}{os:List AObj}{ids:List Nat}(h:Newed S os ids S'):Keep S S':=⟨by rw[h.n];omega,h.old⟩
def newObjs(P:Program)(ops:Array Oper)(env:Env):List Nat→Option (List AObj)
 |[]=>some []
 |i :: is=>match ops[i]? with
  |some o=>match newObj P o.op env with
   |some x=>match newObjs P ops env is with
    |some xs=>some (x :: xs)
    |none=>none
   |none=>none
  |none=>none
def newObjK(P:Program)(op:Op)(env:Env)(K:AObj→Prop):Prop:=
 match op with
 |.alloc t=>match newObj P (.alloc t) env with
  |some o=>K o
  |none=>False
 |.box t x=>match szT P t with
  |some n=>optP (cellsOf (ev env x)) fun cs=>cs.length=n∧K (.cells t [cs] true)
  |none=>False
 |_=>False
theorem newObjK_spec{P:Program}{op:Op}{env:Env}{K:AObj→Prop}(h:newObjK P op env K):∃ o,newObj P op env=some o∧K o:=by
 unfold newObjK at h
 split at h
 ·split at h
  ·rename_i o ho
   exact⟨o,ho,h⟩
  ·exact h.elim
 ·split at h
  ·rename_i n hn
   obtain⟨cs,h1,h2,h3⟩:=h
   exact⟨_,by simp[newObj,hn,h1,h2],h3⟩
  ·exact h.elim
 ·exact h.elim
def newObjsK(P:Program)(ops:Array Oper)(env:Env):List Nat→(List AObj→Prop)→Prop
 |[],K=>K []
 |i :: is,K=>match ops[i]? with
  |some o=>newObjK P o.op env fun x=>newObjsK P ops env is fun xs=>K (x :: xs)
  |none=>False
theorem newObjsK_spec{P:Program}{ops:Array Oper}{env:Env}:∀{is:List Nat} {K:List AObj→Prop},newObjsK P ops env is K→∃ os,newObjs P ops env is=some os∧K os
 |[],K,h=>⟨[],rfl,h⟩
 |i :: is,K,h=>by
  simp only[newObjsK]at h
  split at h
  ·rename_i o ho
   obtain⟨x,hx,h⟩:=newObjK_spec h
   obtain⟨xs,hxs,h⟩:=newObjsK_spec h
   exact⟨x :: xs,by simp[newObjs,ho,hx,hxs],h⟩
  ·exact h.elim
def newsV(os:List AObj)(S:Store)(K:List Nat→Store→Prop):Prop:=∀ ids S',Newed S os ids S'→K ids S'
def putN:List (Option Tmp)→List Nat→Env→Env
 |[],_,env=>env
 |d :: ds,ids,env=>putN ds ids.tail (setD env d (.p (ids.headD 0) 0 0))
def skN:List (Option Tmp)→(Nat→Bool)→(Nat→Bool)
 |[],sk=>sk
 |d :: ds,sk=>skN ds (skSet sk d false)
def dstOf(ops:Array Oper)(i:Nat):Option Tmp:=(ops[i]?).bind (·.dst)
def setAll:List Nat→Array Bool→Array Bool
 |[],l=>l
 |i :: is,l=>setAll is (l.setIfInBounds i true)
def staysP(P:Program)(op:Op)(env:Env)(v:AV)(S:Store):Prop:=∀ T,Keep S T→vcOp P op env T (fun u T'=>u=v∧T'=T) (fun _ _=>False)
def blankE(n:Nat):Env:=⟨n,fun _=>.j,fun _ _=>rfl⟩
def vcD(P:Program)(ops:Array Oper)(X:AV→Store→Prop):List St→(Nat→Bool)→Env→Store→(Nat→Store→Prop→Prop)→(Env→Store→Prop)→Prop
 |[],_,env,S,_,K=>K env S
 |.q i :: rest,sk,env,S,Φ,K=>match ops[i]? with
  |none=>False
  |some o=>gu sk ops o env (fun env=>match mvA o.op env with
     |some v=>vcD P ops X rest (skSet sk o.dst false) (setD env o.dst v) S Φ K
     |none=>∃ v,(∀ T,Keep S T→vcOp P o.op env T (fun u T'=>u=v∧T'=T) (fun _ _=>False))∧vcD P ops X rest (skSet sk o.dst false) (setD env o.dst v) S Φ K)
   (fun env=>vcD P ops X rest (skSet sk o.dst true) (setD env o.dst (.v undef)) S Φ K)
 |.l i D :: rest,sk,env,S,Φ,K=>match ops[i]? with
  |none=>False
  |some o=>match o.guard,mvA o.op env with
   |none,some v=>vcD P ops X rest (skSet sk o.dst false) (setD env o.dst v) S Φ K
   |none,none=>∃ v,(∀ T,Keep S T→vcOp P o.op env T (fun u T'=>u=v∧T'=T) (fun _ _=>False))∧vcD P ops X rest (skSet sk o.dst false) (setD env o.dst v) S (fun j S' p=>match D.testBit j with|true=>(∀ T,Keep S' T→vcOp P o.op env T (fun u T'=>u=v∧T'=T) (fun _ _=>False))∧Φ j S' p|false=>Φ j S' p) K
   |_,_=>False
 |.k i :: rest,sk,env,S,Φ,K=>match ops[i]? with
  |none=>False
  |some o=>gu sk ops o env (fun env=>vcOp P o.op env S (fun v S'=>Φ i S' (vcD P ops X rest (skSet sk o.dst false) (setD env o.dst v) S' Φ K)) X)
   (fun env=>vcD P ops X rest (skSet sk o.dst true) (setD env o.dst (.v undef)) S Φ K)
 |.n is :: rest,sk,env,S,Φ,K=>newObjsK P ops env is fun os=>newsV os S fun ids S'=>vcD P ops X rest (skN (is.map (dstOf ops)) sk) (putN (is.map (dstOf ops)) ids env) S' Φ K
 |.s i j :: rest,sk,env,S,Φ,K=>match ops[i]? with
  |none=>False
  |some oi=>match ops[j]? with
   |none=>False
   |some oj=>vcOp P oi.op env S (fun _ S'=>Φ i S' (vcOp P oj.op env S' (fun _ S'=>Φ j S' (vcD P ops X rest sk env S' Φ K)) X)) X∧
    vcOp P oj.op env S (fun _ S'=>Φ j S' (vcOp P oi.op env S' (fun _ S'=>Φ i S' (vcD P ops X rest sk env S' Φ K)) X)) X
def early(ops:Array Oper)(qs:List Nat)(j:Nat):Bool:=qs.contains j || match ops[j]? with|some o=>newOp o.op && o.guard.isNone|none=>false
def aftM(o:Oper):Nat:=o.after.toList.foldl (fun m e=>match Region.binds .any e with|true=>m ||| (1 <<< e.on)|false=>m) 0
def maskL:List Bool→Nat→Nat→Nat
 |[],_,D=>D
 |b :: bs,k,D=>maskL bs (k+1) (match b with|true=>D ||| (1 <<< k)|false=>D)
def passM(i:Nat):List Nat→Nat→Nat→Nat
 |[],_,D=>D
 |a :: as,k,D=>passM i as (k+1) (match Nat.beq k i with|true=>D|false=>match Nat.beq (a &&& D) a with|true=>D ||| (1 <<< k)|false=>D)
def chkM(ops:Array Oper)(qs:List Nat)(i:Nat)(listed:Array Bool)(D:Nat):List Nat→Nat→Bool
 |[],_=>true
 |a :: as,k=>(!listed.getD k false || D.testBit k) && ((Nat.beq k i || (D.testBit k || !Nat.beq (a &&& D) a)) && ((!D.testBit k || (listed.getD k true || early ops qs k)) && chkM ops qs i listed D as (k+1)))
def calm(ops:Array Oper)(am:List Nat)(qs:List Nat)(i:Nat)(listed:Array Bool):Bool:=
 let D:=passM i am 0 (passM i am 0 (maskL listed.toList 0 0))
 !D.testBit i && chkM ops qs i listed D am 0
def chkL(i:Nat)(listed:Array Bool)(D:Nat):List Nat→Nat→Bool
 |[],_=>true
 |a :: as,k=>(!listed.getD k false || D.testBit k) && ((Nat.beq k i || (D.testBit k || !Nat.beq (a &&& D) a)) && chkL i listed D as (k+1))
def bareSt(ops:Array Oper)(i:Nat):Bool:=match ops[i]? with|some o=>o.guard.isNone && o.dst.isNone|none=>false
def planOk(ops:Array Oper)(am:List Nat)(qs:List Nat):List St→Array Bool→Bool
 |[],listed=>(Region.ready .any ops listed).isEmpty
 |.q i :: rest,listed=>(Region.ready .any ops listed).contains i && (Region.free .any ops listed i && (qs.contains i && (calm ops am qs i listed && planOk ops am qs rest (listed.setIfInBounds i true))))
 |.l i D :: rest,listed=>(Region.ready .any ops listed).contains i && (Region.free .any ops listed i && (qs.contains i && (chkL i listed D am 0 && planOk ops am qs rest (listed.setIfInBounds i true))))
 |.k i :: rest,listed=>Region.ready .any ops listed == [i] && (!qs.contains i && planOk ops am qs rest (listed.setIfInBounds i true))
 |.n is :: rest,listed=>is.all (fun i=>(Region.ready .any ops listed).contains i && (!qs.contains i && (match ops[i]? with|some o=>newOp o.op && o.guard.isNone|none=>false))) &&
    (is.all (fun j=>(Region.ready .any ops (setAll (is.erase j) listed)).all (· == j)) && (decide is.Nodup &&
    (is.all (fun i=>is.all fun j=>i == j || (match ops[i]?,ops[j]? with|some oi,some oj=>oi.apart ops oj|_,_=>false)) && planOk ops am qs rest (setAll is listed))))
 |.s i j :: rest,listed=>Region.ready .any ops listed == [i,j] && (!qs.contains i && (!qs.contains j && (Region.ready .any ops (listed.setIfInBounds i true) == [j] && (Region.ready .any ops (listed.setIfInBounds j true) == [i] &&
    (bareSt ops i && (bareSt ops j && planOk ops am qs rest ((listed.setIfInBounds i true).setIfInBounds j true)))))))
def stepsOf(ops:Array Oper)(am:List Nat)(qs:List Nat)(wr:List Nat):Nat→Array Bool→List St
 |0,_=>[]
 |n+1,listed =>
  let r:=Region.ready .any ops listed
  match r.filter (fun i=>!wr.contains i)with
  |i :: _=>(match calm ops am qs i listed with|true=>St.q i|false=>St.l i (passM i am 0 (passM i am 0 (maskL listed.toList 0 0)))) :: stepsOf ops am qs wr n (listed.setIfInBounds i true)
  |[]=>match r with
   |[]=>[]
   |[i]=>.k i :: stepsOf ops am qs wr n (listed.setIfInBounds i true)
   |[i,j]=>match bareSt ops i with
    |true=>.s i j :: stepsOf ops am qs wr n ((listed.setIfInBounds i true).setIfInBounds j true)
    |false=>.n [i,j] :: stepsOf ops am qs wr n (setAll [i,j] listed)
   |is=>.n is :: stepsOf ops am qs wr n (setAll is listed)
def callsW(hs:List Nat):Op→Bool
 |.call { callee:=.value (.func f),.. }=>hs.contains f
 |.call { callee:=.value _,.. }=>hs.contains 0
 |.buildSlice _ _ _=>hs.contains 1
 |_=>false
def quietH(hs:List Nat)(op:Op):Bool:=quietOp op && !callsW hs op
def writersOf(hs:List Nat)(ops:Array Oper):List Nat:=(List.range ops.size).filter fun i=>match ops[i]? with|some o=>!quietH hs o.op|none=>false
def qsOf:List St→List Nat
 |[]=>[]
 |.q i :: r=>i :: qsOf r
 |.l i _ :: r=>i :: qsOf r
 |_ :: r=>qsOf r
def cntSt:List St→Nat
 |[]=>0
 |.n is :: r=>is.length+cntSt r
 |.s _ _ :: r=>cntSt r+2
 |_ :: r=>cntSt r+1
def planOf(hs:List Nat)(ops:Array Oper):Option (List St):=
 let wr:=writersOf hs ops
 let pl:=stepsOf ops (ops.toList.map aftM) ((List.range ops.size).filter fun i=>!wr.contains i) wr ops.size (Array.replicate ops.size false)
 match cntSt pl == ops.size && planOk ops (ops.toList.map aftM) (qsOf pl) pl (Array.replicate ops.size false)with
 |true=>some pl
 |false=>none
def Step1(P:Program)(ops:Array Oper)(X:AV→Store→Prop)(o:Oper)(env:Env)(S:Store)(k:AV→Store→Prop):Prop:=
 ∃ t,wantA ops env o=some t∧gd t (∃ k',vcOp P o.op env S k' X∧∀ v S',k' v S'→k v S') (k (.v undef) S)
def aW(P:Program)(ops:Array Oper)(X:AV→Store→Prop)(qs:List Nat)(Φ:Nat→Store→Prop)(K:Env→Store→Prop):Nat→Array Bool→Env→Store→Prop
 |0,listed,env,S=>Region.ready .any ops listed = []∧K env S
 |n+1,listed,env,S=>(Region.ready .any ops listed = []→K env S)∧∀ i,i∈Region.ready .any ops listed→∃ o,ops[i]? = some o∧
   gd (qs.contains i) (∃ v,Yd P ops S o v env∧aW P ops X qs Φ K n (listed.setIfInBounds i true) (setD env o.dst v) S)
    (Step1 P ops X o env S fun v S'=>(Keep S S'∨Φ i S')∧aW P ops X qs Φ K n (listed.setIfInBounds i true) (setD env o.dst v) S')
theorem vcOp_mono{P:Program}{o:Oper}{env:Env}{S:Store}{K X:AV→Store→Prop}{w:World}{g:Gh}{a:Act}(h:vcOp P o.op env S K X)(hh:Heap P w g S)(he:EnvR D w g env a){next:Act→World→Prop}{Q:Exit→Act→World→Prop}
    (hn:∀ v S' w' g' y,Heap P w' g' S'→Mv w g w' g'→R w' g' v y→K v S'→next (a.put o.dst y) w') (hx:∀ u S' w' g' y,Heap P w' g' S'→Mv w g w' g'→R w' g' u y→X u S'→Q (.panic [{ v:=y,recovered:=false }]) a w'):o.wp P a w next Q:=
 vcOp_sound h D w g a next Q hh he hn hx
theorem aW_wp{P:Program}{ops:Array Oper}{qs:List Nat}{Q:AX→Env→Store→Prop}{w0:World}{g0:Gh}{N:Nat}:∀(n:Nat) (listed:Array Bool) (env:Env) (S:Store) (w:World) (g:Gh) (a:Act),Heap P w g S→EnvR D w g env a→Mv w0 g0 w g→env.n=N→
    aW P ops (fun u S'=>Q (.pan u) (blankE N) S') qs (fun _ _=>True) (fun env' S'=>Q .normal env' S') n listed env S→wpAny P .any ops (Post P D w0 g0 Q) n listed a w
 |0,_,env,S,w,g,a,hh,he,m,hN,h=>⟨h.1,.normal,env,S,g,hh,he,m,trivial,h.2⟩
 |n+1,listed,env,S,w,g,a,hh,he,m,hN,h=>by
  refine⟨fun h0=>⟨.normal,env,S,g,hh,he,m,trivial,h.1 h0⟩,fun i hi=>?_⟩
  obtain⟨o,ho,hg⟩:=h.2 i hi
  unfold wpOp
  simp only[ho]
  rcases gd_cases hg with⟨_,v,⟨t,ht,hy⟩,hn⟩|⟨_,t,ht,hy⟩
  ·have hw:=wantA_sound he ht
   rcases gd_cases hy with⟨rfl,hy'⟩|⟨rfl,hy'⟩
   ·rw[if_pos hw]
    refine .inl (vcOp_sound hy' D w g a _ _ hh he (fun u S' w' g' y h1 h2 h3 h4=>?_) (fun u S' w' g' y h1 h2 h3 h4=>h4.elim))
    obtain⟨rfl,rfl⟩:=h4
    exact aW_wp n _ _ _ w' g' _ h1 ((he.mv h2).put o.dst h3) (m.trans h2) ((setD_n _ _ _).trans hN) hn
   ·rw[if_neg (by rw[hw];simp)]
    subst hy'
    exact aW_wp n _ _ _ w g _ hh (he.put o.dst (.v _)) m ((setD_n _ _ _).trans hN) hn
  ·have hw:=wantA_sound he ht
   rcases gd_cases hy with⟨rfl,hy'⟩|⟨rfl,hy'⟩
   ·rw[if_pos hw]
    obtain⟨k',hy',hk'⟩:=hy'
    exact .inl (vcOp_sound hy' D w g a _ _ hh he (fun u S' w' g' y h1 h2 h3 h4=>aW_wp n _ _ _ w' g' _ h1 ((he.mv h2).put o.dst h3) (m.trans h2) ((setD_n _ _ _).trans hN) (hk' _ _ h4).2) (fun u S' w' g' y h1 h2 h3 h4=>⟨.pan u,blankE N,S',g',h1,⟨hN ▸ he.size,fun k=>.j _,he.defers⟩,m.trans h2,⟨y,rfl,h3⟩,h4⟩))
   ·rw[if_neg (by rw[hw];simp)]
    exact aW_wp n _ _ _ w g _ hh (he.put o.dst (.v _)) m ((setD_n _ _ _).trans hN) hy'.2
structure Calm (ops:Array Oper) (qs:List Nat) (i:Nat) (listed D:Array Bool):Prop where
 size:D.size=listed.size
 sub:∀ k,listed.getD k false=true→D.getD k false=true
 end_:∀ k,k∈Region.ready .any ops D→k=i
 ear:∀ k,k<ops.size→D.getD k false=true→listed.getD k true=true∨early ops qs k=true
theorem getD_dd{l:Array Bool}{k:Nat}(h:k<l.size)(a b:Bool):l.getD k a=l.getD k b:=by simp[Array.getD_eq_getD_getElem?,h]
theorem Calm.ready{ops:Array Oper}{qs:List Nat}{i:Nat}{listed D:Array Bool}(c:Calm ops qs i listed D)(hs:listed.size=ops.size){j:Nat}(hj:j∈Region.ready .any ops listed)(hne:j≠i):
    early ops qs j=true∧Calm ops qs i (listed.setIfInBounds j true) D:=by
 obtain⟨hjun,oj,hoj,hall⟩:=mem_ready.1 hj
 have hlt:j<ops.size:=(Array.getElem?_eq_some_iff.1 hoj).1
 have hD:D.getD j false=true:=by
  cases hb:D.getD j false with
  |true=>rfl
  |false =>
   exact absurd (c.end_ j (mem_ready.2 ⟨by rw[getD_dd (by rw[c.size,hs];exact hlt) true false];exact hb,oj,hoj,fun e he hb=>c.sub _ (hall e he hb)⟩)) hne
 have he:early ops qs j=true:=by
  rcases c.ear j hlt hD with h|h
  ·rw[hjun]at h;cases h
  ·exact h
 refine⟨he,⟨by simpa using c.size,fun k hk=>?_,c.end_,fun k hk hd=>?_⟩⟩
 ·by_cases e:j=k
  ·subst e;exact hD
  ·rw[getD_set_ne false e]at hk
   exact c.sub k hk
 ·by_cases e:j=k
  ·subst e;exact .inr he
  ·rw[getD_set_ne true e]
   exact c.ear k hk hd
theorem aW_weak{P:Program}{X:AV→Store→Prop}{ops:Array Oper}{qs:List Nat}{Φ Ψ:Nat→Store→Prop}{K:Env→Store→Prop}(hΦ:∀ i S,Φ i S→Ψ i S):∀(n:Nat) (listed:Array Bool) (env:Env) (S:Store),aW P ops X qs Φ K n listed env S→aW P ops X qs Ψ K n listed env S
 |0,_,_,_,h=>h
 |n+1,listed,env,S,h=>by
  refine⟨h.1,fun i hi=>?_⟩
  obtain⟨o,ho,hg⟩:=h.2 i hi
  refine⟨o,ho,?_⟩
  cases hq:qs.contains i with
  |true =>
   rw[hq]at hg
   obtain⟨v,h1,h2⟩:=hg
   exact⟨v,h1,aW_weak hΦ n _ _ _ h2⟩
  |false =>
   rw[hq]at hg
   obtain⟨t,ht,hy⟩:=hg
   refine⟨t,ht,?_⟩
   cases t with
   |true =>
    rw[gd_true]at hy ⊢
    obtain⟨k',h1,h2⟩:=hy
    exact⟨k',h1,fun v S' hv=>⟨(h2 v S' hv).1.imp id (hΦ _ _),aW_weak hΦ n _ _ _ (h2 v S' hv).2⟩⟩
   |false =>
    rw[gd_false]at hy ⊢
    exact⟨hy.1.imp id (hΦ _ _),aW_weak hΦ n _ _ _ hy.2⟩
theorem aW_first{P:Program}{X:AV→Store→Prop}{ops:Array Oper}{qs:List Nat}{Φ:Nat→Store→Prop}{K:Env→Store→Prop}{i:Nat}{oi:Oper}{v:AV}(hi:ops[i]? = some oi)(hq:qs.contains i=true){D:Array Bool}:∀(n:Nat) (listed:Array Bool) (env:Env) (S:Store),
    listed.size=ops.size→Calm ops qs i listed D→
    (∀ j oj,ops[j]? = some oj→j≠i→listed.getD j true=false→(∀ e∈oj.after,Region.binds .any e=true→e.on≠i)→oi.apart ops oj=true)→
    i∈Region.ready .any ops listed→(∀ T,Keep S T→Yd P ops T oi v env)→aW P ops X qs Φ K n (listed.setIfInBounds i true) (setD env oi.dst v) S→aW P ops X qs Φ K (n+1) listed env S:=by
 intro n
 induction n with
 |zero =>
  intro listed env S hs hc hfree hr hy H
  refine⟨fun h=>(by rw[h]at hr;cases hr),fun j hj=>?_⟩
  by_cases hji:j=i
  ·subst hji
   exact⟨oi,hi,by rw[hq];exact⟨v,hy S (Keep.refl S),H⟩⟩
  ·have:=ready_mono hj hji
   rw[H.1]at this
   cases this
 |succ n ih =>
  intro listed env S hs hc hfree hr hy H
  refine⟨fun h=>(by rw[h]at hr;cases hr),fun j hj=>?_⟩
  by_cases hji:j=i
  ·subst hji
   exact⟨oi,hi,by rw[hq];exact⟨v,hy S (Keep.refl S),H⟩⟩
  ·obtain⟨oj,hoj,Hj⟩:=H.2 j (ready_mono hj hji)
   obtain⟨hjun,oj',hoj',hall⟩:=mem_ready.1 hj
   rw[hoj]at hoj'
   cases hoj'
   have hnot:∀ e∈oj.after,Region.binds .any e=true→e.on≠i:=fun e he hb heq=>by
    have h1:=hall e he hb
    have h0:=(mem_ready.1 hr).1
    rw[heq]at h1
    rcases Nat.lt_or_ge i listed.size with h'|h'
    ·simp[h']at h0 h1;rw[h0]at h1;cases h1
    ·simp[Array.getElem?_eq_none h']at h1
   obtain⟨h1,h2,h3⟩:=Oper.apart_spec (hfree j oj hoj hji hjun hnot)
   obtain⟨hej,hcj⟩:=hc.ready hs hj hji
   have hfree':∀ k ok,ops[k]? = some ok→k≠i→(listed.setIfInBounds j true).getD k true=false→(∀ e∈ok.after,Region.binds .any e=true→e.on≠i)→oi.apart ops ok=true:=fun k ok hk hki hun hno=>by
    refine hfree k ok hk hki ?_ hno
    by_cases hjk:j=k
    ·subst hjk;exact hjun
    ·rw[getD_set_ne true hjk]at hun;exact hun
   refine⟨oj,hoj,?_⟩
   have hgo:∀(u:AV) (S':Store),Keep S S'→aW P ops X qs Φ K n ((listed.setIfInBounds i true).setIfInBounds j true) (setD (setD env oi.dst v) oj.dst u) S'→aW P ops X qs Φ K (n+1) (listed.setIfInBounds j true) (setD env oj.dst u) S':=fun u S' hk hA=>by
    refine ih _ _ S' (by simpa using hs) hcj hfree' (ready_mono hr (Ne.symm hji)) (fun T hT=>(Yd.setD h3).2 (hy T (hk.trans hT))) ?_
    rw[Array.setIfInBounds_comm _ _ hji,←setD_comm v u h2]
    exact hA
   cases hqj:qs.contains j with
   |true =>
    rw[hqj]at Hj
    obtain⟨u,hyj,Hj⟩:=Hj
    exact⟨u,(Yd.setD h1).1 hyj,hgo u S (Keep.refl S) Hj⟩
   |false =>
    rw[hqj]at Hj
    have hnew:newOp oj.op=true∧oj.guard=none:=by
     simp only[early,hqj,hoj,Bool.false_or,Bool.and_eq_true,Option.isNone_iff_eq_none]at hej
     exact hej
    obtain⟨t,ht,hs'⟩:=Hj
    rw[wantA_setD h1]at ht
    have htt:t=true:=by
     have:wantA ops env oj=some true:=by simp[wantA,hnew.2]
     rw[this]at ht;cases ht;rfl
    subst htt
    rw[gd_true]at hs'
    obtain⟨k',hs',hk'⟩:=hs'
    obtain⟨x,hx1,hx2⟩:=vc_newObj hnew.1 hs'
    have hx2:=(hk' _ _ hx2).2
    rw[newObj_congr (looksAt_ev h1)]at hx1
    refine⟨true,ht,?_⟩
    rw[gd_true]
    exact⟨_,newObj_vc (K:=fun v S'=>(Keep S S'∨Φ j S')∧aW P ops X qs Φ K (n+1) (listed.setIfInBounds j true) (setD env oj.dst v) S') hx1 ⟨.inl ((Keep.refl S).new _),hgo _ _ ((Keep.refl S).new _) hx2⟩,fun _ _ h=>h⟩
structure LateD (ops:Array Oper) (i:Nat) (listed:Array Bool) (D:Nat):Prop where
 sub:∀ k,listed.getD k false=true→D.testBit k=true
 shut:∀ k o,ops[k]? = some o→k≠i→(∀ e∈o.after,Region.binds .any e=true→D.testBit e.on=true)→D.testBit k=true
theorem LateD.ready{ops:Array Oper}{i:Nat}{listed:Array Bool}{D:Nat}(c:LateD ops i listed D){j:Nat}(hj:j∈Region.ready .any ops listed)(hne:j≠i):D.testBit j=true∧LateD ops i (listed.setIfInBounds j true) D:=by
 obtain⟨hjun,oj,hoj,hall⟩:=mem_ready.1 hj
 have hD:=c.shut j oj hoj hne fun e he hb=>c.sub _ (hall e he hb)
 refine⟨hD,fun k hk=>?_,c.shut⟩
 by_cases e:j=k
 ·subst e;exact hD
 ·rw[getD_set_ne false e]at hk
  exact c.sub k hk
theorem aW_late{P:Program}{X:AV→Store→Prop}{ops:Array Oper}{qs:List Nat}{Φ:Nat→Store→Prop}{K:Env→Store→Prop}{i:Nat}{oi:Oper}{v:AV}{E:Env}{D:Nat}(hi:ops[i]? = some oi)(hq:qs.contains i=true)(hg:oi.guard=none):∀(n:Nat) (listed:Array Bool) (env:Env) (S:Store),LateD ops i listed D→
    (∀ x,x∈oi.op.operands→ev env x=ev E x)→
    (∀ j oj,ops[j]? = some oj→j≠i→listed.getD j true=false→(∀ e∈oj.after,Region.binds .any e=true→e.on≠i)→oi.apart ops oj=true)→
    i∈Region.ready .any ops listed→(∀ T,Keep S T→Yd P ops T oi v env)→aW P ops X qs (fun j S=>Φ j S∧(D.testBit j=true→staysP P oi.op E v S)) K n (listed.setIfInBounds i true) (setD env oi.dst v) S→aW P ops X qs Φ K (n+1) listed env S:=by
 intro n
 induction n with
 |zero =>
  intro listed env S hD hE hfree hr hy H
  refine⟨fun h=>(by rw[h]at hr;cases hr),fun j hj=>?_⟩
  by_cases hji:j=i
  ·subst hji
   exact⟨oi,hi,by rw[hq];exact⟨v,hy S (Keep.refl S),H⟩⟩
  ·have:=ready_mono hj hji
   rw[H.1]at this
   cases this
 |succ n ih =>
  intro listed env S hD hE hfree hr hy H
  refine⟨fun h=>(by rw[h]at hr;cases hr),fun j hj=>?_⟩
  by_cases hji:j=i
  ·subst hji
   exact⟨oi,hi,by rw[hq];exact⟨v,hy S (Keep.refl S),aW_weak (fun _ _ h=>h.1) _ _ _ _ H⟩⟩
  ·obtain⟨oj,hoj,Hj⟩:=H.2 j (ready_mono hj hji)
   obtain⟨hjun,oj',hoj',hall⟩:=mem_ready.1 hj
   rw[hoj]at hoj'
   cases hoj'
   have hnot:∀ e∈oj.after,Region.binds .any e=true→e.on≠i:=fun e he hb heq=>by
    have h1:=hall e he hb
    have h0:=(mem_ready.1 hr).1
    rw[heq]at h1
    rcases Nat.lt_or_ge i listed.size with h'|h'
    ·simp[h']at h0 h1;rw[h0]at h1;cases h1
    ·simp[Array.getElem?_eq_none h']at h1
   obtain⟨h1,h2,h3⟩:=Oper.apart_spec (hfree j oj hoj hji hjun hnot)
   have hfree':∀ k ok,ops[k]? = some ok→k≠i→(listed.setIfInBounds j true).getD k true=false→(∀ e∈ok.after,Region.binds .any e=true→e.on≠i)→oi.apart ops ok=true:=fun k ok hk hki hun hno=>by
    refine hfree k ok hk hki ?_ hno
    by_cases hjk:j=k
    ·subst hjk;exact hjun
    ·rw[getD_set_ne true hjk]at hun;exact hun
   refine⟨oj,hoj,?_⟩
   have hgo:∀(u:AV) (S':Store),(∀ T,Keep S' T→Yd P ops T oi v env)→aW P ops X qs (fun j S=>Φ j S∧(D.testBit j=true→staysP P oi.op E v S)) K n ((listed.setIfInBounds i true).setIfInBounds j true) (setD (setD env oi.dst v) oj.dst u) S'→aW P ops X qs Φ K (n+1) (listed.setIfInBounds j true) (setD env oj.dst u) S':=fun u S' hk hA=>by
    refine ih _ _ S' (hD.ready hj hji).2 (fun x hx=>(looksAt_ev h3 x hx).trans (hE x hx)) hfree' (ready_mono hr (Ne.symm hji)) (fun T hT=>(Yd.setD h3).2 (hk T hT)) ?_
    rw[Array.setIfInBounds_comm _ _ hji,←setD_comm v u h2]
    exact hA
   cases hqj:qs.contains j with
   |true =>
    rw[hqj]at Hj
    obtain⟨u,hyj,Hj⟩:=Hj
    exact⟨u,(Yd.setD h1).1 hyj,hgo u S hy Hj⟩
   |false =>
    rw[hqj]at Hj
    obtain⟨t,ht,hs'⟩:=Hj
    rw[wantA_setD h1]at ht
    have hall':∀(u:AV) (S':Store),((Keep S S'∨(Φ j S'∧(D.testBit j=true→staysP P oi.op E v S')))∧aW P ops X qs (fun j S=>Φ j S∧(D.testBit j=true→staysP P oi.op E v S)) K n ((listed.setIfInBounds i true).setIfInBounds j true) (setD (setD env oi.dst v) oj.dst u) S')→
        (Keep S S'∨Φ j S')∧aW P ops X qs Φ K (n+1) (listed.setIfInBounds j true) (setD env oj.dst u) S':=fun u S' ⟨h4,h5⟩=>by
     refine⟨h4.imp id (·.1),hgo u S' (fun T hT=>?_) h5⟩
     rcases h4 with h4|h4
     ·exact hy T (h4.trans hT)
     ·refine⟨true,by simp[wantA,hg],?_⟩
      rw[gd_true,vcOp_congr hE]
      exact h4.2 (hD.ready hj hji).1 T hT
    refine⟨t,ht,?_⟩
    cases t with
    |true =>
     rw[gd_true]at hs' ⊢
     obtain⟨k',hs',hk'⟩:=hs'
     rw[vcOp_congr (looksAt_ev h1)]at hs'
     exact⟨k',hs',fun u S' hu=>hall' u S' (hk' u S' hu)⟩
    |false =>
     rw[gd_false]at hs' ⊢
     exact hall' _ _ hs'
theorem setAll_get{l:Array Bool}:∀{is:List Nat} {k:Nat} {d:Bool},k<l.size→(setAll is l).getD k d=(is.contains k || l.getD k d)
 |[],k,d,h=>by simp[setAll]
 |i :: is,k,d,h=>by
  rw[setAll,setAll_get (by simpa using h)]
  by_cases e:i=k
  ·subst e;simp[h]
  ·have e':¬ k=i:=fun q=>e q.symm
   rw[getD_set_ne d e]
   simp[e',List.contains_cons]
theorem setAll_size:∀{is:List Nat} {l:Array Bool},(setAll is l).size=l.size
 |[],_=>rfl
 |i :: is,l=>by rw[setAll,setAll_size];simp
theorem setAll_ge{l:Array Bool}:∀{is:List Nat} {k:Nat} {d:Bool},l.size≤k→(setAll is l).getD k d=d
 |is,k,d,h=>by
  have:(setAll is l).size≤k:=by rw[setAll_size];exact h
  simp[Array.getD_eq_getD_getElem?,Array.getElem?_eq_none this]
theorem setAll_comm:∀{is:List Nat} {l:Array Bool} {i:Nat},setAll is (l.setIfInBounds i true)=(setAll is l).setIfInBounds i true
 |[],l,i=>rfl
 |j :: is,l,i=>by
  rw[setAll,setAll,←setAll_comm]
  by_cases e:i=j
  ·subst e;rfl
  ·rw[Array.setIfInBounds_comm _ _ e]
theorem setAll_erase:∀{is:List Nat} {l:Array Bool} {i:Nat},i∈is→setAll (is.erase i) (l.setIfInBounds i true)=setAll is l
 |j :: is,l,i,h=>by
  by_cases e:j=i
  ·subst e;simp[setAll]
  ·have hi:i∈is:=by
     rcases List.mem_cons.1 h with h|h
     ·exact absurd h.symm e
     ·exact h
   rw[List.erase_cons_tail (by simpa using e),setAll,setAll,←setAll_erase (l:=l.setIfInBounds j true) hi,Array.setIfInBounds_comm _ _ e]
theorem ready_of_sub{ops:Array Oper}{l l':Array Bool}{j:Nat}(hs:l.size=ops.size)(hs':l'.size=ops.size)(hsub:∀ k,l.getD k false=true→l'.getD k false=true)(hj:j∈Region.ready .any ops l)(hno:l'.getD j false=false):j∈Region.ready .any ops l':=by
 obtain⟨_,o,ho,hall⟩:=mem_ready.1 hj
 have hlt:j<ops.size:=(Array.getElem?_eq_some_iff.1 ho).1
 exact mem_ready.2 ⟨by rw[getD_dd (by rw[hs'];exact hlt) true false];exact hno,o,ho,fun e he hb=>hsub _ (hall e he hb)⟩
structure NewR (P:Program) (ops:Array Oper) (qs:List Nat) (is:List Nat) (listed:Array Bool):Prop where
 size:listed.size=ops.size
 nodup:is.Nodup
 rdy:∀ i∈is,i∈Region.ready .any ops listed
 last:∀ j∈is,∀ k,k∈Region.ready .any ops (setAll (is.erase j) listed)→k=j
 op:∀ i∈is,qs.contains i=false∧∃ o,ops[i]? = some o∧newOp o.op=true∧o.guard=none
 apart:∀ i∈is,∀ j∈is,i≠j→∀ oi oj,ops[i]? = some oi→ops[j]? = some oj→oi.apart ops oj=true
theorem NewR.only{P:Program}{ops:Array Oper}{qs:List Nat}{is:List Nat}{listed:Array Bool}(h:NewR P ops qs is listed)(hne:is≠[]){k:Nat}(hk:k∈Region.ready .any ops listed):k∈is:=by
 obtain⟨j,hj⟩:=List.exists_mem_of_ne_nil is hne
 by_cases hm:k∈is
 ·exact hm
 ·have hkl:k<ops.size:=(by obtain⟨_,o,ho,_⟩:=mem_ready.1 hk;exact(Array.getElem?_eq_some_iff.1 ho).1)
  have h0:=(mem_ready.1 hk).1
  have hne':k∉is.erase j:=fun q=>hm (List.mem_of_mem_erase q)
  have:=h.last j hj k (ready_of_sub h.size (by rw[setAll_size];exact h.size) (fun x hx=>by
   rcases Nat.lt_or_ge x listed.size with hx'|hx'
   ·rw[setAll_get hx',hx];simp
   ·simp[Array.getD_eq_getD_getElem?,Array.getElem?_eq_none hx']at hx) hk (by
    have hks:k<listed.size:=by rw[h.size];exact hkl
    rw[setAll_get hks,getD_dd hks false true,h0];simpa using hne'))
  subst this
  exact hj
theorem NewR.step{P:Program}{ops:Array Oper}{qs:List Nat}{is:List Nat}{listed:Array Bool}(h:NewR P ops qs is listed){i:Nat}(hi:i∈is):NewR P ops qs (is.erase i) (listed.setIfInBounds i true) where
 size:=by simpa using h.size
 nodup:=h.nodup.erase i
 rdy j hj:=ready_mono (h.rdy j (List.mem_of_mem_erase hj)) (fun e=>by subst e;exact(h.nodup.mem_erase_iff.1 hj).1 rfl)
 last j hj k hk:=by
  have hj':=h.nodup.mem_erase_iff.1 hj
  have hi':i∈is.erase j:=h.nodup.mem_erase_iff.2 ⟨Ne.symm hj'.1,hi⟩
  rw[List.erase_comm,setAll_erase hi']at hk
  exact h.last j hj'.2 k hk
 op j hj:=h.op j (List.mem_of_mem_erase hj)
 apart a ha b hb:=h.apart a (List.mem_of_mem_erase ha) b (List.mem_of_mem_erase hb)
theorem putN_split{d:Option Tmp}{x:Nat}:∀(l1:List (Option Tmp)) (l2:List (Option Tmp)) (a b:List Nat) (env:Env),a.length=l1.length→(∀ e∈l1,∀ t,d=some t→e≠some t)→
    putN (l1++d :: l2) (a++x :: b) env=putN (l1++l2) (a++b) (setD env d (.p x 0 0))
 |[],l2,a,b,env,hl,_=>by
  obtain rfl:=List.eq_nil_of_length_eq_zero hl
  rfl
 |d1 :: l1,l2,a,b,env,hl,hd=>by
  match a,hl with
  |a1 :: a,hl =>
   have hne:=hd d1 (by simp)
   show putN (l1++d :: l2) (a++x :: b) (setD env d1 (.p a1 0 0))=putN (l1++l2) (a++b) (setD (setD env d (.p x 0 0)) d1 (.p a1 0 0))
   rw[putN_split l1 l2 a b _ (by simpa using hl) (fun e he=>hd e (by simp[he]))]
   rw[setD_comm (x:=d) (y:=d1) (.p x 0 0) (.p a1 0 0) (fun t ht=>hne t ht)]
theorem newObjs_get{P:Program}{ops:Array Oper}{env:Env}:∀{is:List Nat} {os:List AObj},newObjs P ops env is=some os→os.length=is.length∧∀(k i:Nat),is[k]? = some i→∃ o x,ops[i]? = some o∧newObj P o.op env=some x∧os[k]? = some x
 |[],os,h=>by cases h;exact⟨rfl,fun k i h=>by simp at h⟩
 |i :: is,os,h=>by
  simp only[newObjs]at h
  split at h
  ·rename_i o ho
   split at h
   ·rename_i x hx
    split at h
    ·rename_i xs hxs
     cases h
     obtain⟨h1,h2⟩:=newObjs_get hxs
     refine⟨by simp[h1],fun k j hj=>?_⟩
     cases k with
     |zero=>cases hj;exact⟨o,x,ho,hx,rfl⟩
     |succ k=>exact h2 k j (by simpa using hj)
    ·cases h
   ·cases h
  ·cases h
theorem newObjs_of{P:Program}{ops:Array Oper}{env:Env}:∀{is:List Nat} {os:List AObj},os.length=is.length→(∀(k i:Nat) (x:AObj),is[k]? = some i→os[k]? = some x→∃ o,ops[i]? = some o∧newObj P o.op env=some x)→newObjs P ops env is=some os
 |[],os,hl,_=>by obtain rfl:=List.eq_nil_of_length_eq_zero hl;rfl
 |i :: is,os,hl,h=>by
  match os,hl with
  |x :: xs,hl =>
   obtain⟨o,ho,hx⟩:=h 0 i x rfl rfl
   have:=newObjs_of (P:=P) (env:=env) (is:=is) (os:=xs) (by simpa using hl) (fun k j y hj hy=>h (k+1) j y (by simpa using hj) (by simpa using hy))
   simp[newObjs,ho,hx,this]
theorem aW_news{P:Program}{X:AV→Store→Prop}{ops:Array Oper}{qs:List Nat}{Φ:Nat→Store→Prop}{K:Env→Store→Prop}(N:Nat):∀(m:Nat) (is:List Nat) (os:List AObj) (listed:Array Bool) (env:Env) (S:Store),is.length=m→NewR P ops qs is listed→
    newObjs P ops env is=some os→(∀ ids S',Newed S os ids S'→aW P ops X qs Φ K N (setAll is listed) (putN (is.map (dstOf ops)) ids env) S')→aW P ops X qs Φ K (N+m) listed env S:=by
 intro m
 induction m with
 |zero =>
  intro is os listed env S hl hr ho H
  obtain rfl:=List.eq_nil_of_length_eq_zero hl
  cases ho
  exact H [] S ⟨rfl,fun _ _=>rfl,rfl,List.nodup_nil,fun _ h=>(by cases h),fun _ h=>(by cases h),fun k id o h=>(by simp at h)⟩
 |succ m ih =>
  intro is os listed env S hl hr ho H
  have hne:is≠[]:=by rintro rfl;simp at hl
  refine⟨fun h0=>?_,fun i hi=>?_⟩
  ·obtain⟨j,hj⟩:=List.exists_mem_of_ne_nil is hne
   have:=hr.rdy j hj
   rw[h0]at this;cases this
  ·have him:=hr.only hne hi
   obtain⟨hqi,oi,hoi,hnew,hgd⟩:=hr.op i him
   refine⟨oi,hoi,?_⟩
   rw[hqi]
   obtain⟨l1,l2,rfl,hn1⟩:=List.eq_append_cons_of_mem him
   have hn2:i∉l2:=by
    have:=(List.nodup_append.1 hr.nodup).2.1
    exact(List.nodup_cons.1 this).1
   have her:(l1++i :: l2).erase i=l1++l2:=by rw[List.erase_append_right _ hn1];simp
   obtain⟨hol,hog⟩:=newObjs_get ho
   have hoL:os.length=l1.length+(l2.length+1):=by simpa using hol
   obtain⟨o1,x,ho1,hx1,hx2⟩:=hog l1.length i (by simp)
   rw[hoi]at ho1
   cases ho1
   have hos:os=os.take l1.length++x :: os.drop (l1.length+1):=by
    have hlt:l1.length<os.length:=by omega
    have hx3:os[l1.length]=x:=by rw[List.getElem?_eq_getElem hlt]at hx2;exact Option.some.inj hx2
    rw[←hx3,←List.drop_eq_getElem_cons,List.take_append_drop]
   generalize hA:os.take l1.length=A at hos
   generalize hB:os.drop (l1.length+1)=B at hos
   have hAl:A.length=l1.length:=by rw[←hA];simp;omega
   have hBl:B.length=l2.length:=by rw[←hB];simp;omega
   subst hos
   refine⟨true,by simp[wantA,hgd],?_⟩
   rw[gd_true]
   refine⟨_,newObj_vc (K:=fun v S'=>(Keep S S'∨Φ i S')∧aW P ops X qs Φ K (N+m) (listed.setIfInBounds i true) (setD env oi.dst v) S') hx1 ⟨.inl ((Keep.refl S).new _),?_⟩,fun _ _ h=>h⟩
   have hstep:=hr.step him
   rw[her]at hstep
   have hset:=setAll_erase (l:=listed) him
   rw[her]at hset
   refine ih (l1++l2) (A++B) _ _ _ (by simp at hl ⊢;omega) hstep (newObjs_of (by simp[hAl,hBl]) (fun k j y hj hy=>?_)) (fun ids S' hN=>?_)
   ·have hjm:j∈l1++l2:=List.mem_of_getElem? hj
    have hji:j≠i:=fun e=>by subst e;rcases List.mem_append.1 hjm with h|h;exact hn1 h;exact hn2 h
    have hjis:j∈l1++i :: l2:=by rcases List.mem_append.1 hjm with h|h<;>simp[h]
    have hk:∃ k':Nat,(l1++i :: l2)[k']? = some j∧(A++x :: B)[k']? = some y:=by
     by_cases hkl:k<l1.length
     ·refine⟨k,?_,?_⟩
      ·rw[List.getElem?_append_left hkl]at hj ⊢;exact hj
      ·rw[List.getElem?_append_left (by omega)]at hy ⊢;exact hy
     ·refine⟨k+1,?_,?_⟩
      ·rw[List.getElem?_append_right (by omega)]at hj
       rw[List.getElem?_append_right (by omega),show k+1 - l1.length=(k - l1.length)+1 by omega];simpa using hj
      ·rw[List.getElem?_append_right (by omega)]at hy
       rw[List.getElem?_append_right (by omega),show k+1 - A.length=(k - A.length)+1 by omega];simpa using hy
    obtain⟨k',h1,h2⟩:=hk
    obtain⟨o,y',h3,h4,h5⟩:=hog k' j h1
    rw[h2]at h5
    cases h5
    refine⟨o,h3,?_⟩
    have hap:=(Oper.apart_spec (hr.apart i him j hjis (Ne.symm hji) oi o hoi h3)).1
    rw[newObj_congr (looksAt_ev hap)]
    exact h4
   ·rw[hset]
    have hlen:ids.length=l1.length+l2.length:=by rw[hN.len];simp[hAl,hBl]
    have hids:ids=ids.take l1.length++ids.drop l1.length:=(List.take_append_drop _ _).symm
    generalize hC:ids.take l1.length=C at hids
    generalize hE:ids.drop l1.length=E at hids
    have hCl:C.length=l1.length:=by rw[←hC];simp;omega
    have hEl:E.length=l2.length:=by rw[←hE];simp;omega
    subst hids
    have hdst:(setD env oi.dst (.p S.n 0 0))=setD env (dstOf ops i) (.p S.n 0 0):=by simp[dstOf,hoi]
    rw[hdst,List.map_append,←putN_split (l1.map (dstOf ops)) (l2.map (dstOf ops)) C E env (by simp[hCl]) ?_]
    ·have:=H (C++S.n :: E) S' ?_
     ·simpa using this
     ·have hlo:∀ id∈C++E,S.n+1≤id:=fun id h=>by simpa[Store.new]using hN.lo id h
      refine⟨by rw[hN.n];simp[hAl,hBl,Store.new];omega,fun q hq=>?_,by simp[hCl,hEl,hAl,hBl],?_,fun id h=>?_,fun id h=>?_,fun k id o h1 h2=>?_⟩
      ·rw[hN.old q (by simp[Store.new];omega)]
       simp only[Store.new]
       rw[if_neg (by omega)]
      ·have hnd:=hN.nodup
       rw[List.nodup_append]at hnd ⊢
       refine⟨hnd.1,List.nodup_cons.2 ⟨fun h=>?_,hnd.2.1⟩,fun p hp q hq=>?_⟩
       ·have:=hlo _ (List.mem_append_right _ h);omega
       ·rcases List.mem_cons.1 hq with rfl|hq
        ·intro e;subst e;have:=hlo _ (List.mem_append_left _ hp);omega
        ·exact hnd.2.2 p hp q hq
      ·rcases List.mem_append.1 h with h|h
       ·have:=hlo _ (List.mem_append_left _ h);omega
       ·rcases List.mem_cons.1 h with rfl|h
        ·exact Nat.le_refl _
        ·have:=hlo _ (List.mem_append_right _ h);omega
      ·have hSn:S.n<S'.n:=by rw[hN.n];simp[Store.new];omega
       rcases List.mem_append.1 h with h|h
       ·exact hN.hi _ (List.mem_append_left _ h)
       ·rcases List.mem_cons.1 h with rfl|h
        ·exact hSn
        ·exact hN.hi _ (List.mem_append_right _ h)
      ·rcases Nat.lt_trichotomy k C.length with hk|hk|hk
       ·rw[List.getElem?_append_left hk]at h1
        rw[List.getElem?_append_left (by omega)]at h2
        exact hN.new k id o (by rw[List.getElem?_append_left hk];exact h1) (by rw[List.getElem?_append_left (by omega)];exact h2)
       ·subst hk
        simp at h1
        have:(A++x :: B)[C.length]? = some x:=by rw[hCl,←hAl];simp
        rw[this]at h2
        cases h2
        subst h1
        rw[hN.old _ (by simp[Store.new])]
        simp[Store.new]
       ·rw[List.getElem?_append_right (by omega),show k - C.length=(k - 1 - C.length)+1 by omega]at h1
        rw[List.getElem?_append_right (by omega),show k - A.length=(k - 1 - A.length)+1 by omega]at h2
        exact hN.new (k - 1) id o (by rw[List.getElem?_append_right (by omega)];simpa using h1) (by rw[List.getElem?_append_right (by omega)];simpa using h2)
    ·intro e he t ht hq
     obtain⟨j,hj,rfl⟩:=List.mem_map.1 he
     have hji:i≠j:=fun q=>by subst q;exact hn1 hj
     obtain⟨_,oj,hoj,_⟩:=hr.op j (by simp[hj])
     have:=(Oper.apart_spec (hr.apart i him j (by simp[hj]) hji oi oj hoi hoj)).2.1
     simp[dstOf,hoi]at ht
     simp[dstOf,hoj]at hq
     exact this t ht hq
theorem Sk.putN:∀{ds:List (Option Tmp)} {ids:List Nat} {sk:Nat→Bool} {env:Env},Sk sk env→Sk (skN ds sk) (putN ds ids env)
 |[],_,_,_,h=>h
 |d :: ds,ids,sk,env,h=>Sk.putN (ds:=ds) (ids:=ids.tail) (sk:=skSet sk d false) (env:=setD env d (.p (ids.headD 0) 0 0)) (h.del d _)
theorem aftM_bit(o:Oper)(j:Nat)(h:(aftM o).testBit j=true):∃ e∈o.after,Region.binds .any e=true∧e.on=j:=by
 have main:∀(l:List Edge) (m:Nat),(l.foldl (fun m e=>match Region.binds .any e with|true=>m ||| (1 <<< e.on)|false=>m) m).testBit j=true→m.testBit j=true∨∃ e∈l,Region.binds .any e=true∧e.on=j:=by
  intro l
  induction l with
  |nil=>intro m h;exact .inl h
  |cons e l ih =>
   intro m h
   rw[List.foldl_cons]at h
   rcases ih _ h with h|⟨e',h1,h2⟩
   ·split at h
    ·rename_i hb
     rw[Nat.testBit_or,Bool.or_eq_true]at h
     rcases h with h|h
     ·exact .inl h
     ·refine .inr ⟨e,by simp,hb,?_⟩
      rw[Nat.shiftLeft_eq,Nat.one_mul,Nat.testBit_two_pow]at h
      simpa using h
    ·exact .inl h
   ·exact .inr ⟨e',by simp[h1],h2⟩
 rcases main _ _ h with h|⟨e,h1,h2⟩
 ·simp at h
 ·exact⟨e,by simpa using h1,h2⟩
theorem chkM_spec{ops:Array Oper}{qs:List Nat}{i:Nat}{listed:Array Bool}{D:Nat}:∀(as:List Nat) (k:Nat),chkM ops qs i listed D as k=true→∀(j a:Nat),as[j]? = some a→
    (listed.getD (k+j) false=true→D.testBit (k+j)=true)∧(k+j=i∨D.testBit (k+j)=true∨¬ a &&& D=a)∧(D.testBit (k+j)=true→listed.getD (k+j) true=true∨early ops qs (k+j)=true)
 |[],_,_,j,a,h=>by simp at h
 |a0 :: as,k,h,j,a,hj=>by
  simp only[chkM,Bool.and_eq_true,Bool.or_eq_true,Bool.not_eq_true']at h
  obtain⟨h1,h2,h3,h4⟩:=h
  cases j with
  |zero =>
   cases hj
   refine⟨fun hl=>?_,?_,fun hd=>?_⟩
   ·rcases h1 with h|h
    ·rw[Nat.add_zero,h]at hl;cases hl
    ·exact h
   ·rcases h2 with h|h|h
    ·exact .inl (Nat.eq_of_beq_eq_true h)
    ·exact .inr (.inl h)
    ·exact .inr (.inr fun e=>by rw[e,Nat.beq_refl]at h;cases h)
   ·rcases h3 with h|h|h
    ·rw[Nat.add_zero,h]at hd;cases hd
    ·exact .inl h
    ·exact .inr h
  |succ j =>
   have:=chkM_spec as (k+1) h4 j a (by simpa using hj)
   rw[show k+1+j=k+(j+1)by omega]at this
   exact this
theorem calm_spec{ops:Array Oper}{qs:List Nat}{i:Nat}{listed:Array Bool}(h:calm ops (ops.toList.map aftM) qs i listed=true)(hs:listed.size=ops.size):∃ D,Calm ops qs i listed D:=by
 simp only[calm,Bool.and_eq_true,Bool.not_eq_true']at h
 generalize passM i (ops.toList.map aftM) 0 (passM i (ops.toList.map aftM) 0 (maskL listed.toList 0 0))=D at h
 obtain⟨h1,h2⟩:=h
 have hc:∀ k (hk:k<ops.size),(listed.getD k false=true→D.testBit k=true)∧(k=i∨D.testBit k=true∨¬ aftM ops[k] &&& D=aftM ops[k])∧(D.testBit k=true→listed.getD k true=true∨early ops qs k=true):=fun k hk=>by
  have:=chkM_spec _ 0 h2 k (aftM ops[k]) (by simp[hk])
  simpa using this
 let A:Array Bool:=((List.range ops.size).map fun k=>D.testBit k).toArray
 have hA:∀ k d,k<ops.size→A.getD k d=D.testBit k:=fun k d hk=>by simp[A,Array.getD_eq_getD_getElem?,hk]
 have hA':∀ k d,ops.size≤k→A.getD k d=d:=fun k d hk=>by
  have:¬ k<ops.size:=by omega
  simp[A,Array.getD_eq_getD_getElem?,this]
 refine⟨A,⟨by simp[A,hs],fun k hk=>?_,fun k hk=>?_,fun k hk hd=>?_⟩⟩
 ·have hkl:k<ops.size:=by
    rcases Nat.lt_or_ge k ops.size with h'|h'
    ·exact h'
    ·simp[Array.getD_eq_getD_getElem?,Array.getElem?_eq_none (show listed.size≤k by omega)]at hk
  rw[hA k _ hkl]
  exact(hc k hkl).1 hk
 ·obtain⟨hno,o,ho,hall⟩:=mem_ready.1 hk
  have hlt:=(Array.getElem?_eq_some_iff.1 ho).1
  have hoe:=(Array.getElem?_eq_some_iff.1 ho).2
  rw[hA k _ hlt]at hno
  rcases(hc k hlt).2.1 with h|h|h
  ·exact h
  ·rw[hno]at h;cases h
  ·refine absurd ?_ h
   rw[hoe]
   apply Nat.eq_of_testBit_eq
   intro j
   rw[Nat.testBit_and]
   cases hj:(aftM o).testBit j with
   |false=>rfl
   |true =>
    obtain⟨e,he,hb,rfl⟩:=aftM_bit o j hj
    have:=hall e he hb
    rcases Nat.lt_or_ge e.on ops.size with h'|h'
    ·rw[hA _ _ h']at this;simp[this]
    ·rw[hA' _ _ h']at this;cases this
 ·rw[hA k _ hk]at hd
  exact(hc k hk).2.2 hd
theorem chkL_spec{ops:Array Oper}{i:Nat}{listed:Array Bool}{D:Nat}(h:chkL i listed D (ops.toList.map aftM) 0=true)(hs:listed.size=ops.size):LateD ops i listed D:=by
 have main:∀(as:List Nat) (k:Nat),chkL i listed D as k=true→∀(j a:Nat),as[j]? = some a→(listed.getD (k+j) false=true→D.testBit (k+j)=true)∧(k+j=i∨D.testBit (k+j)=true∨¬ a &&& D=a):=by
  intro as
  induction as with
  |nil=>intro k h j a hj;simp at hj
  |cons a0 as ih =>
   intro k h j a hj
   simp only[chkL,Bool.and_eq_true,Bool.or_eq_true,Bool.not_eq_true']at h
   obtain⟨h1,h2,h4⟩:=h
   cases j with
   |zero =>
    cases hj
    refine⟨fun hl=>?_,?_⟩
    ·rcases h1 with h|h
     ·rw[Nat.add_zero,h]at hl;cases hl
     ·exact h
    ·rcases h2 with h|h|h
     ·exact .inl (Nat.eq_of_beq_eq_true h)
     ·exact .inr (.inl h)
     ·exact .inr (.inr fun e=>by rw[e,Nat.beq_refl]at h;cases h)
   |succ j =>
    have:=ih (k+1) h4 j a (by simpa using hj)
    rw[show k+1+j=k+(j+1)by omega]at this
    exact this
 have hc:∀ k (hk:k<ops.size),(listed.getD k false=true→D.testBit k=true)∧(k=i∨D.testBit k=true∨¬ aftM ops[k] &&& D=aftM ops[k]):=fun k hk=>by
  have:=main _ 0 h k (aftM ops[k]) (by simp[hk])
  simpa using this
 refine⟨fun k hk=>?_,fun k o ho hne hall=>?_⟩
 ·have hkl:k<ops.size:=by
    rcases Nat.lt_or_ge k ops.size with h'|h'
    ·exact h'
    ·simp[Array.getD_eq_getD_getElem?,Array.getElem?_eq_none (show listed.size≤k by omega)]at hk
  exact(hc k hkl).1 hk
 ·have hlt:=(Array.getElem?_eq_some_iff.1 ho).1
  have hoe:=(Array.getElem?_eq_some_iff.1 ho).2
  rcases(hc k hlt).2 with h|h|h
  ·exact absurd h hne
  ·exact h
  ·refine absurd ?_ h
   rw[hoe]
   apply Nat.eq_of_testBit_eq
   intro j
   rw[Nat.testBit_and]
   cases hj:(aftM o).testBit j with
   |false=>rfl
   |true =>
    obtain⟨e,he,hb,rfl⟩:=aftM_bit o j hj
    rw[hall e he hb];rfl
theorem aW_plan{P:Program}{X:AV→Store→Prop}{ops:Array Oper}{qs:List Nat}{K:Env→Store→Prop}:∀(pl:List St) (Φ:Nat→Store→Prop→Prop) (Ψ:Nat→Store→Prop) (sk:Nat→Bool) (listed:Array Bool) (env:Env) (S:Store),listed.size=ops.size→Sk sk env→planOk ops (ops.toList.map aftM) qs pl listed=true→
    (∀ i S p,Φ i S p→(Ψ i S∧p))→vcD P ops X pl sk env S Φ K→aW P ops X qs Ψ K (cntSt pl) listed env S
 |[],Φ,Ψ,sk,listed,env,S,hs,hsk,hp,hΦ,h=>⟨by simpa[planOk]using hp,h⟩
 |.q i :: rest,Φ,Ψ,sk,listed,env,S,hs,hsk,hp,hΦ,h=>by
  simp only[planOk,Bool.and_eq_true]at hp
  obtain⟨h1,h2,h3,h4,h5⟩:=hp
  obtain⟨D,hD⟩:=calm_spec h4 hs
  simp only[vcD]at h
  split at h
  ·exact h.elim
  ·rename_i o ho
   rcases gu_spec hsk h with⟨ht,h'⟩|⟨ht,h'⟩
   ·have h'':∃ v,(∀ T,Keep S T→vcOp P o.op env T (fun u T'=>u=v∧T'=T) (fun _ _=>False))∧vcD P ops X rest (skSet sk o.dst false) (setD env o.dst v) S Φ K:=by
      split at h'
      ·rename_i v hv
       exact⟨v,fun T _=>mvA_op hv,h'⟩
      ·exact h'
    obtain⟨v,k1,k2⟩:=h''
    exact aW_first ho h3 _ listed env S hs hD (Region.free_spec ho h2) (by simpa using h1) (fun T hT=>⟨true,ht,k1 T hT⟩) (aW_plan rest Φ Ψ _ _ _ _ (by simpa using hs) (hsk.del o.dst v) h5 hΦ k2)
   ·exact aW_first ho h3 _ listed env S hs hD (Region.free_spec ho h2) (by simpa using h1) (fun T hT=>⟨false,ht,rfl⟩) (aW_plan rest Φ Ψ _ _ _ _ (by simpa using hs) (hsk.add o.dst) h5 hΦ h')
 |.l i D :: rest,Φ,Ψ,sk,listed,env,S,hs,hsk,hp,hΦ,h=>by
  simp only[planOk,Bool.and_eq_true]at hp
  obtain⟨h1,h2,h3,hq,h5⟩:=hp
  have hD:=chkL_spec hq hs
  simp only[vcD]at h
  split at h
  ·exact h.elim
  ·rename_i o ho
   split at h
   ·rename_i v hg hv
    have hst:∀ T,vcOp P o.op env T (fun u T'=>u=v∧T'=T) (fun _ _=>False):=fun T=>mvA_op hv
    refine aW_late (E:=env) ho h3 hg _ listed env S hD (fun _ _=>rfl) (Region.free_spec ho h2) (by simpa using h1) (fun T hT=>⟨true,by simp[wantA,hg],hst T⟩) (aW_weak (Φ:=Ψ) (fun j S hS=>⟨hS,fun _ T _=>hst T⟩) _ _ _ _ (aW_plan rest Φ Ψ _ _ _ _ (by simpa using hs) (hsk.del o.dst v) h5 hΦ h))
   ·rename_i hg hv
    obtain⟨v,k1,k2⟩:=h
    refine aW_late (E:=env) ho h3 hg _ listed env S hD (fun _ _=>rfl) (Region.free_spec ho h2) (by simpa using h1) (fun T hT=>⟨true,by simp[wantA,hg],k1 T hT⟩) (aW_plan rest _ _ _ _ _ _ (by simpa using hs) (hsk.del o.dst v) h5 (fun j S p hp=>?_) k2)
    split at hp
    ·obtain⟨h6,h7⟩:=hp
     obtain⟨h8,h9⟩:=hΦ _ _ _ h7
     exact⟨⟨h8,fun _=>h6⟩,h9⟩
    ·rename_i hb
     obtain⟨h8,h9⟩:=hΦ _ _ _ hp
     exact⟨⟨h8,fun hd=>by rw[hb]at hd;cases hd⟩,h9⟩
   ·exact h.elim
 |.k i :: rest,Φ,Ψ,sk,listed,env,S,hs,hsk,hp,hΦ,h=>by
  simp only[planOk,Bool.and_eq_true,beq_iff_eq,Bool.not_eq_true']at hp
  obtain⟨h1,h2,h3⟩:=hp
  simp only[vcD]at h
  split at h
  ·exact h.elim
  ·rename_i o ho
   refine⟨fun h0=>(by rw[h0]at h1;cases h1),fun j hj=>?_⟩
   rw[h1]at hj
   obtain rfl:=List.mem_singleton.1 hj
   refine⟨o,ho,?_⟩
   rw[h2]
   rcases gu_spec hsk h with⟨ht,h'⟩|⟨ht,h'⟩
   ·refine⟨true,ht,?_⟩
    rw[gd_true]
    exact⟨_,h',fun v S' hv=>by
     obtain⟨h6,h7⟩:=hΦ _ _ _ hv
     exact⟨.inr h6,aW_plan rest Φ Ψ _ _ _ _ (by simpa using hs) (hsk.del o.dst v) h3 hΦ h7⟩⟩
   ·exact⟨false,ht,.inl (Keep.refl S),aW_plan rest Φ Ψ _ _ _ _ (by simpa using hs) (hsk.add o.dst) h3 hΦ h'⟩
 |.n is :: rest,Φ,Ψ,sk,listed,env,S,hs,hsk,hp,hΦ,h=>by
  simp only[planOk,Bool.and_eq_true,List.all_eq_true,Bool.not_eq_true',decide_eq_true_eq,Bool.or_eq_true,beq_iff_eq]at hp
  obtain⟨h1,h2,h3,h4,h5⟩:=hp
  simp only[vcD]at h
  ·obtain⟨os,hos,h⟩:=newObjsK_spec h
   show aW P ops X qs Ψ K (is.length+cntSt rest) listed env S
   rw[Nat.add_comm]
   refine aW_news (cntSt rest) is.length is os listed env S rfl ⟨hs,h3,fun i hi=>by simpa using(h1 i hi).1,h2,fun i hi=>?_,fun a ha b hb hne oa ob hoa hob=>?_⟩ hos (fun ids S' hN=>aW_plan rest Φ Ψ _ _ _ _ (by rw[setAll_size];exact hs) (Sk.putN hsk) h5 hΦ (h ids S' hN))
   ·obtain⟨_,k2,k3⟩:=h1 i hi
    refine⟨k2,?_⟩
    cases ho:ops[i]? with
    |none=>rw[ho]at k3;cases k3
    |some o =>
     rw[ho]at k3
     simp only[Bool.and_eq_true,Option.isNone_iff_eq_none]at k3
     exact⟨o,rfl,k3⟩
   ·rcases h4 a ha b hb with h|h
    ·exact absurd h hne
    ·rw[hoa,hob]at h;exact h
 |.s i j :: rest,Φ,Ψ,sk,listed,env,S,hs,hsk,hp,hΦ,h=>by
  simp only[planOk,Bool.and_eq_true,beq_iff_eq,Bool.not_eq_true']at hp
  obtain⟨h1,h2,h3,h4,h5,h6,h7,h8⟩:=hp
  simp only[vcD]at h
  split at h
  ·exact h.elim
  ·rename_i oi hoi
   split at h
   ·exact h.elim
   ·rename_i oj hoj
    obtain⟨hA,hB⟩:=h
    simp only[bareSt,hoi,hoj,Bool.and_eq_true,Option.isNone_iff_eq_none]at h6 h7
    have w1:wantA ops env oi=some true:=by simp[wantA,h6.1]
    have w2:wantA ops env oj=some true:=by simp[wantA,h7.1]
    have d1:∀ v,setD env oi.dst v=env:=fun v=>by rw[h6.2];rfl
    have d2:∀ v,setD env oj.dst v=env:=fun v=>by rw[h7.2];rfl
    have hne:i≠j:=by
     intro e
     subst e
     have hm:i∈Region.ready .any ops (listed.setIfInBounds i true):=by rw[h4];simp
     have hlt:i<ops.size:=(Array.getElem?_eq_some_iff.1 hoi).1
     have:=(mem_ready.1 hm).1
     rw[getD_dd (by simpa[hs]using hlt) true false,Array.getD_eq_getD_getElem?]at this
     simp[hs,hlt]at this
    have hcomm:(listed.setIfInBounds j true).setIfInBounds i true=(listed.setIfInBounds i true).setIfInBounds j true:=Array.setIfInBounds_comm _ _ (fun e=>hne e.symm)
    show aW P ops X qs Ψ K (cntSt rest+1+1) listed env S
    refine⟨fun h0=>(by rw[h0]at h1;cases h1),fun k hk=>?_⟩
    rw[h1]at hk
    have hk:k=i∨k=j:=by simpa using hk
    rcases hk with rfl|rfl
    ·refine⟨oi,hoi,?_⟩
     rw[h2]
     refine⟨true,w1,?_⟩
     rw[gd_true]
     refine⟨_,hA,fun v S' hv=>?_⟩
     obtain⟨q1,q2⟩:=hΦ _ _ _ hv
     refine⟨.inr q1,?_⟩
     rw[d1]
     refine⟨fun h0=>(by rw[h0]at h4;cases h4),fun k2 hk2=>?_⟩
     rw[h4]at hk2
     obtain rfl:=List.mem_singleton.1 hk2
     refine⟨oj,hoj,?_⟩
     rw[h3]
     refine⟨true,w2,?_⟩
     rw[gd_true]
     refine⟨_,q2,fun v S' hv=>?_⟩
     obtain⟨q3,q4⟩:=hΦ _ _ _ hv
     refine⟨.inr q3,?_⟩
     rw[d2]
     exact aW_plan rest Φ Ψ _ _ _ _ (by simpa using hs) hsk h8 hΦ q4
    ·refine⟨oj,hoj,?_⟩
     rw[h3]
     refine⟨true,w2,?_⟩
     rw[gd_true]
     refine⟨_,hB,fun v S' hv=>?_⟩
     obtain⟨q1,q2⟩:=hΦ _ _ _ hv
     refine⟨.inr q1,?_⟩
     rw[d2]
     refine⟨fun h0=>(by rw[h0]at h5;cases h5),fun k2 hk2=>?_⟩
     rw[h5]at hk2
     obtain rfl:=List.mem_singleton.1 hk2
     refine⟨oi,hoi,?_⟩
     rw[h2]
     refine⟨true,w1,?_⟩
     rw[gd_true]
     refine⟨_,q2,fun v S' hv=>?_⟩
     obtain⟨q3,q4⟩:=hΦ _ _ _ hv
     refine⟨.inr q3,?_⟩
     rw[d1,hcomm]
     exact aW_plan rest Φ Ψ _ _ _ _ (by simpa using hs) hsk h8 hΦ q4
theorem planOf_spec{hs:List Nat}{ops:Array Oper}{pl:List St}(h:planOf hs ops=some pl):cntSt pl=ops.size∧planOk ops (ops.toList.map aftM) (qsOf pl) pl (Array.replicate ops.size false)=true:=by
 simp only[planOf]at h
 split at h
 ·rename_i hb
  cases h
  simp only[Bool.and_eq_true,beq_iff_eq]at hb
  exact hb
 ·cases h
theorem draw_plan{P:Program}(hm:P.follows .mixedOrders=true){id:Nat}{hs:List Nat}{ops:Array Oper}{pl:List St}(hp:planOf hs ops=some pl){env:Env}{S:Store}{K:AX→Env→Store→Prop}
    (h:vcD P ops (fun u S'=>K (.pan u) (blankE env.n) S') pl (fun _=>false) env S (fun _ _ p=>p) (fun env' S'=>K .normal env' S')):drawV P id ops env S K:=by
 intro D w g a hh he
 obtain⟨h1,h2⟩:=planOf_spec hp
 refine wp_region_any hm ?_
 have h3:=aW_plan (qs:=qsOf pl) pl (fun _ _ p=>p) (fun _ _=>True) (fun _=>false) (Array.replicate ops.size false) env S (by simp) (Sk.nil env) h2 (fun _ _ _ hp=>⟨trivial,hp⟩) h
 have h4:=aW_wp (w0:=w) (g0:=g) (cntSt pl) (Array.replicate ops.size false) env S w.drew g a hh.drew (he.mv (mv_drew w g)) (mv_drew w g) rfl h3
 rw[h1]at h4
 simpa using h4
end Go.Ab
set_option linter.unusedVariables false
set_option linter.unusedSimpArgs false
namespace Go.Ab
open Go Go.RowKit
variable {D:List Deferred}
abbrev seqK(V:Env→Store→(AX→Env→Store→Prop)→Prop)(K:AX→Env→Store→Prop):AX→Env→Store→Prop
 |.normal,env,S=>V env S K
 |x,env,S=>K x env S
abbrev thenK(N:Env→Store→Prop)(K:AX→Env→Store→Prop):AX→Env→Store→Prop
 |.normal,env,S=>N env S
 |x,env,S=>K x env S
def mkE(n:Nat):List Nat→List AV→Env
 |d :: ds,x :: xs=>(mkE n ds xs).put d x
 |_,_=>⟨n,fun _=>.j,fun _ _=>rfl⟩
theorem mkE_n(n:Nat):∀(ds:List Nat) (xs:List AV),(mkE n ds xs).n=n
 |d :: ds,x :: xs=>mkE_n n ds xs
 |[],xs=>by cases xs<;>rfl
 |d :: ds,[]=>rfl
theorem EnvR.some{w:World}{g:Gh}{env:Env}{a:Act}(h:EnvR D w g env a):∀ lv:List Nat,EnvR D w g (mkE env.n lv (lv.map env.f)) a
 |[]=>⟨h.size,fun k=>.j _,h.defers⟩
 |d :: lv=>by
  have ih:=EnvR.some h lv
  refine⟨(mkE_n env.n (d :: lv) _).trans h.size,fun k=>?_,h.defers⟩
  show R w g (((mkE env.n lv (lv.map env.f)).put d (env.f d)).f k) _
  by_cases e:k=d
  ·subst e
   rcases Nat.lt_or_ge k env.n with hi|hi
   ·rw[Env.put_eq _ _ (by rw[mkE_n];exact hi)]
    exact h.rel k
   ·rw[Env.out _ k (by show(mkE env.n lv (lv.map env.f)).n≤k;rw[mkE_n];exact hi)]
    exact .j _
  ·rw[Env.put_ne _ _ e]
   exact ih.rel k
abbrev fgK(lv:List Nat)(KE:Nat→List AV→Store→Prop)(e:Env)(S:Store):Prop:=KE e.n (lv.map e.f) S
def Wk(S:Store)(l:List AV)(S':Store)(l':List AV):Prop:=
 l.length=l'.length∧∀(P:Program) (w:World) (g:Gh),Heap P w g S→∃ g',Heap P w g' S'∧Mv w g w g'∧∀(k:Nat) (u u2:AV) (y:Value),l[k]? = some u→l'[k]? = some u2→R w g u y→R w g' u2 y
abbrev PoT:=AEnd→Store→Prop
abbrev KeT:=Nat→List AV→Store→Prop
theorem Wk.refl(S:Store)(l:List AV):Wk S l S l:=⟨rfl,fun P w g h=>⟨g,h,Mv.refl _ _,fun k u u2 y h1 h2 hr=>by rw[h1]at h2;cases h2;exact hr⟩⟩
theorem Wk.trans{S S1 S2:Store}{l l1 l2:List AV}(h:Wk S l S1 l1)(k:Wk S1 l1 S2 l2):Wk S l S2 l2:=⟨h.1.trans k.1,fun P w g hh=>by
 obtain⟨g1,h1,m1,r1⟩:=h.2 P w g hh
 obtain⟨g2,h2,m2,r2⟩:=k.2 P w g1 h1
 refine⟨g2,h2,m1.trans m2,fun i u u2 y e1 e2 hr=>?_⟩
 have hi:i<l1.length:=by rw[←h.1];exact(List.getElem?_eq_some_iff.1 e1).1
 exact r2 i _ u2 y (List.getElem?_eq_getElem hi) e2 (r1 i u _ y e1 (List.getElem?_eq_getElem hi) hr)⟩
theorem EnvR.of_list{w:World}{g g':Gh}{env:Env}{a:Act}(h:EnvR D w g env a):∀(lv:List Nat) (l':List AV),(∀(k d:Nat) (u2:AV),lv[k]? = Option.some d→l'[k]? = Option.some u2→∀ y,R w g (env.f d) y→R w g' u2 y)→EnvR D w g' (mkE env.n lv l') a
 |[],l',_=>by
  have:mkE env.n [] l'=⟨env.n,fun _=>.j,fun _ _=>rfl⟩:=by cases l'<;>rfl
  rw[this]
  exact⟨h.size,fun k=>.j _,h.defers⟩
 |d :: lv,[],_=>⟨h.size,fun k=>.j _,h.defers⟩
 |d :: lv,x :: l',hc=>by
  have ih:=EnvR.of_list h lv l' (fun k d' u2 h1 h2=>hc (k+1) d' u2 (by simpa using h1) (by simpa using h2))
  refine⟨(mkE_n env.n (d :: lv) _).trans h.size,fun k=>?_,h.defers⟩
  show R w g' (((mkE env.n lv l').put d x).f k) _
  by_cases e:k=d
  ·subst e
   rcases Nat.lt_or_ge k env.n with hi|hi
   ·rw[Env.put_eq _ _ (by rw[mkE_n];exact hi)]
    exact hc 0 k x rfl rfl _ (h.rel k)
   ·rw[Env.out _ k (by show(mkE env.n lv l').n≤k;rw[mkE_n];exact hi)]
    exact .j _
  ·rw[Env.put_ne _ _ e]
   exact ih.rel k
def loopV(lv:List Nat)(B:Env→Store→(AX→Env→Store→Prop)→Prop)(n:Nat)(l:List AV)(S:Store)(K:AX→Env→Store→Prop):Prop:=
 ∃(I:Nat→List AV→Store→Prop) (μ:Nat→List AV→Store→Nat),(∃ S' l',Wk S l S' l'∧I n l' S')∧
  ∀ n l S,I n l S→B (mkE n lv l) S (thenK (fgK lv fun n' l' S'=>∃ S'' l'',Wk S' l' S'' l''∧I n' l'' S''∧μ n' l'' S''<μ n l S) K)
abbrev blockK(id:Nat)(K:AX→Env→Store→Prop):AX→Env→Store→Prop
 |.exit id',env,S=>match Nat.beq id' id with|true=>K .normal env S|false=>K (.exit id') env S
 |x,env,S=>K x env S
abbrev scopeK(K:AX→Env→Store→Prop):AX→Env→Store→Prop
 |.goto _,_,_=>False
 |x,env,S=>K x env S
def stillOp:Op→Bool
 |.store _ _ _|.alloc _|.box _ _|.makeSlice _ _ _|.makeMap _ _|.mapUpdate _ _ _ _|.insert _ _ _ _|.mapEntry _ _ _|.entryStore _ _ _ _|.range _ _|.next _ _|.call { callee:=.builtin .append,.. }|.call { callee:=.builtin .unsafeString,.. }=>false
 |.move _|.assign _|.pick _ _ _|.build _ _|.buildSlice _ _ _|.load _ _|.binOp _ _ _ _ _|.unOp _ _ _|.makeFunc _ _ _|.slice _ _ _ _ _|.fieldAddr _ _ _|.field _ _ _|.indexAddr _ _ _|.index _ _ _|.extract _ _|.convert _ _ _|.nilCheck _|.call _=>true
 |_=>false
def long(ops:Array Oper):Bool:=Nat.blt 40 ops.size
def nl:Code→Nat
 |.seq a b=>nl a+nl b
 |.cond _ a b=>nl a+nl b
 |.block _ c=>nl c
 |.scope c=>nl c
 |.loop c=>nl c+1
 |_=>0
def vc(P:Program):Code→List (List Nat)→Env→Store→(AX→Env→Store→Prop)→Prop
 |.skip,_,env,S,K=>K .normal env S
 |.label _,_,env,S,K=>K .normal env S
 |.exit id,_,env,S,K=>K (.exit id) env S
 |.goto l,_,env,S,K=>K (.goto l) env S
 |.ret,_,env,S,K=>K .ret env S
 |.seq a b,ms,env,S,K=>vc P a ms env S (seqK (vc P b (ms.drop (nl a))) K)
 |.cond c x y,ms,env,S,K=>onB (ev env c) fun b=>gd b (vc P x ms env S K) (vc P y (ms.drop (nl x)) env S K)
 |.block id c,ms,env,S,K=>vc P c ms env S (blockK id K)
 |.loop c,ms,env,S,K=>loopV (ms.headD []) (vc P c ms.tail) env.n ((ms.headD []).map env.f) S K
 |.scope c,ms,env,S,K=>vc P c ms env S (scopeK K)
 |.region id ops draw,ms,env,S,K=>match draw with
  |true=>match P.follows .mixedOrders && (Region.lexB .any ops && ops.all (quietH (ms.getLastD []) ·.op))with
   |true=>match long ops with
    |true=>vcQJ P ops S ops.toList env (fun env'=>K .normal env' S)
    |false=>vcQ P ops S ops.toList (fun _=>false) env (fun env'=>K .normal env' S)
   |false=>match planOf (ms.getLastD []) ops,P.follows .mixedOrders with
    |some pl,true=>vcD P ops (fun u S'=>K (.pan u) (blankE env.n) S') pl (fun _=>false) env S (fun _ _ p=>p) (fun env' S'=>K .normal env' S')
    |_,_=>drawV P id ops env S K
  |false=>match long ops with
   |true=>vcJ P ops ops.toList env S (fun env' S'=>K .normal env' S') (fun u env' S'=>K (.pan u) env' S')
   |false=>vcOps P ops ops.toList (fun _=>false) env S (fun env' S'=>K .normal env' S') (fun u env' S'=>K (.pan u) env' S')
 |_,_,_,_,_=>False
theorem Post.of_mv{P:Program}{w0:World}{g0:Gh}{w:World}{g:Gh}(m:Mv w0 g0 w g){Q:AX→Env→Store→Prop}{e:Exit}{a:Act}{w':World}(h:Post P D w g Q e a w'):Post P D w0 g0 Q e a w':=by
 obtain⟨x,env',S',g',h1,h2,h3,h4,h5⟩:=h
 exact⟨x,env',S',g',h1,h2,m.trans h3,h4,h5⟩
theorem exists_min{p:Nat→Prop}(h:∃ n,p n):∃ m,p m∧∀ n,p n→m≤n:=by
 obtain⟨n,hn⟩:=h
 induction n using Nat.strongRecOn with
 |_ n ih =>
  by_cases hm:∃ k,k<n∧p k
  ·obtain⟨k,hk,hp⟩:=hm
   exact ih k hk hp
  ·exact⟨n,hn,fun k hk=>by
     rcases Nat.lt_or_ge k n with h|h
     ·exact absurd ⟨k,h,hk⟩ hm
     ·exact h⟩
open Classical in
noncomputable def sInfN (p:Nat→Prop):Nat:=if h:∃ n,p n then Classical.choose (exists_min h)else 0
theorem sInfN_mem{p:Nat→Prop}(h:∃ n,p n):p (sInfN p):=by
 unfold sInfN
 rw[dif_pos h]
 exact(Classical.choose_spec (exists_min h)).1
theorem sInfN_le{p:Nat→Prop}{n:Nat}(h:p n):sInfN p≤n:=by
 unfold sInfN
 rw[dif_pos ⟨n,h⟩]
 exact(Classical.choose_spec (exists_min ⟨n,h⟩)).2 n h
theorem vc_sound{P:Program}:∀(c:Code) (ms:List (List Nat)) (env:Env) (S:Store) (K:AX→Env→Store→Prop),vc P c ms env S K→AWp P c env S K
 |.skip,ms,env,S,K,h=>fun D w g a hh he=>wp_skip ⟨.normal,env,S,g,hh,he,Mv.refl _ _,trivial,h⟩
 |.label _,ms,env,S,K,h=>fun D w g a hh he=>wp_label ⟨.normal,env,S,g,hh,he,Mv.refl _ _,trivial,h⟩
 |.exit id,ms,env,S,K,h=>fun D w g a hh he=>wp_exit ⟨.exit id,env,S,g,hh,he,Mv.refl _ _,rfl,h⟩
 |.goto l,ms,env,S,K,h=>fun D w g a hh he=>wp_goto ⟨.goto l,env,S,g,hh,he,Mv.refl _ _,rfl,h⟩
 |.ret,ms,env,S,K,h=>fun D w g a hh he=>wp_ret ⟨.ret,env,S,g,hh,he,Mv.refl _ _,trivial,h⟩
 |.seq a b,ms,env,S,K,h=>by
  have ha:=vc_sound a ms env S _ h
  intro D w g ac hh he
  refine wp_seq (wp_mono (ha D w g ac hh he) ?_)
  rintro e a' w' ⟨x,env',S',g',h1,h2,h3,h4,h5⟩
  cases x with
  |normal =>
   cases e with
   |normal=>exact wp_mono (vc_sound b _ env' S' K h5 D w' g' a' h1 h2) (fun e a w=>Post.of_mv h3)
   |_=>exact h4.elim
  |exit id=>cases e<;>first|exact h4.elim|exact⟨.exit id,env',S',g',h1,h2,h3,h4,h5⟩
  |goto l=>cases e<;>first|exact h4.elim|exact⟨.goto l,env',S',g',h1,h2,h3,h4,h5⟩
  |ret=>cases e<;>first|exact h4.elim|exact⟨.ret,env',S',g',h1,h2,h3,h4,h5⟩
  |pan x=>cases e<;>first|exact h4.elim|exact⟨.pan x,env',S',g',h1,h2,h3,h4,h5⟩
 |.cond c x y,ms,env,S,K,h=>by
  simp only[vc,onB]at h
  split at h
  ·rename_i b hb
   intro D w g a hh he
   have h1:=he.ev c
   rw[hb]at h1
   rcases gd_cases h with⟨rfl,h'⟩|⟨rfl,h'⟩
   ·exact wp_cond_true h1.inv_v (vc_sound x _ env S K h' D w g a hh he)
   ·exact wp_cond_false h1.inv_v (vc_sound y _ env S K h' D w g a hh he)
  ·exact h.elim
 |.block id c,ms,env,S,K,h=>by
  have hc:=vc_sound c _ env S _ h
  intro D w g a hh he
  refine wp_block (wp_mono (hc D w g a hh he) ?_)
  rintro e a' w' ⟨x,env',S',g',h1,h2,h3,h4,h5⟩
  cases x with
  |normal=>cases e<;>first|exact h4.elim|exact⟨.normal,env',S',g',h1,h2,h3,trivial,h5⟩
  |exit id' =>
   cases e with
   |exit id2 =>
    obtain rfl:id'=id2:=h4
    simp only[blockK]at h5
    simp only[Exit.inBlock]
    split at h5
    ·rename_i hid
     have hid:id'=id:=Nat.eq_of_beq_eq_true hid
     rw[if_pos hid]
     exact⟨.normal,env',S',g',h1,h2,h3,trivial,h5⟩
    ·rename_i hid
     have hid:id'≠id:=Nat.ne_of_beq_eq_false hid
     rw[if_neg hid]
     exact⟨.exit id',env',S',g',h1,h2,h3,rfl,h5⟩
   |_=>exact h4.elim
  |goto l=>cases e<;>first|exact h4.elim|exact⟨.goto l,env',S',g',h1,h2,h3,h4,h5⟩
  |ret=>cases e<;>first|exact h4.elim|exact⟨.ret,env',S',g',h1,h2,h3,h4,h5⟩
  |pan x=>cases e<;>first|exact h4.elim|exact⟨.pan x,env',S',g',h1,h2,h3,h4,h5⟩
 |.loop c,ms,env,S,K,h=>by
  obtain⟨I,μ,⟨Sw,lw,hw,hI⟩,hr⟩:=h
  intro D w g a hh he
  generalize hlv:ms.headD []=lv at *
  have hcl:∀ n l S,I n l S→AWp P c (mkE n lv l) S (thenK (fgK lv fun n' l' S'=>∃ S'' l'',Wk S' l' S'' l''∧I n' l'' S''∧μ n' l'' S''<μ n l S) K):=fun n l S hi=>vc_sound c _ (mkE n lv l) S _ (hr n l S hi)
  have turn:∀{w':World} {g1:Gh} {S1:Store} {env1:Env} {a1:Act} {S2:Store} {l2:List AV},Heap P w' g1 S1→EnvR D w' g1 env1 a1→Wk S1 (lv.map env1.f) S2 l2→∃ g2,Heap P w' g2 S2∧EnvR D w' g2 (mkE env1.n lv l2) a1∧Mv w' g1 w' g2:=by
   intro w' g1 S1 env1 a1 S2 l2 h1 h2 hw
   obtain⟨g2,h3,h4,h5⟩:=hw.2 P w' g1 h1
   refine⟨g2,h3,h2.of_list lv l2 fun k d u2 e1 e2 y hr=>h5 k _ u2 y (by rw[List.getElem?_map,e1];rfl) e2 hr,h4⟩
  obtain⟨gw,hw1,hw2,hw3⟩:=turn hh he hw
  have key:=wp_loop (P:=P) (c:=c) (Q:=Post P D w g K) (a:=a) (w:=w)
   (I:=fun a' w'=>∃ n l S' g' m,Heap P w' g' S'∧EnvR D w' g' (mkE n lv l) a'∧Mv w g w' g'∧I n l S'∧μ n l S'=m)
   (μ:=fun a' w'=>sInfN (fun m=>∃ n l S' g',Heap P w' g' S'∧EnvR D w' g' (mkE n lv l) a'∧Mv w g w' g'∧I n l S'∧μ n l S'=m))
   ⟨env.n,lw,Sw,gw,_,hw1,hw2,hw3,hI,rfl⟩ ?_
  ·exact key
  ·rintro a1 w1 ⟨n0,l0,S0,g0,m0,h10,h20,h30,h40,h50⟩
   obtain⟨n1,l1,S1,g1,h1,h2,h3,h4,h5⟩:=sInfN_mem (p:=fun m=>∃ n l S' g',Heap P w1 g' S'∧EnvR D w1 g' (mkE n lv l) a1∧Mv w g w1 g'∧I n l S'∧μ n l S'=m) ⟨m0,n0,l0,S0,g0,h10,h20,h30,h40,h50⟩
   refine wp_mono (hcl n1 l1 S1 h4 D w1 g1 a1 h1 h2) ?_
   rintro e a' w' ⟨x,env',S',g',k1,k2,k3,k4,k5⟩
   cases x with
   |normal =>
    cases e with
    |normal =>
     obtain⟨S2,l2,kw,k6,k7⟩:=k5
     obtain⟨g2,q1,q2,q3⟩:=turn k1 k2 kw
     refine⟨⟨env'.n,l2,S2,g2,_,q1,q2,(h3.trans k3).trans q3,k6,rfl⟩,?_⟩
     have hle:=sInfN_le (p:=fun m=>∃ n l S'' g'',Heap P w' g'' S''∧EnvR D w' g'' (mkE n lv l) a'∧Mv w g w' g''∧I n l S''∧μ n l S''=m) (n:=μ env'.n l2 S2) ⟨env'.n,l2,S2,g2,q1,q2,(h3.trans k3).trans q3,k6,rfl⟩
     exact Nat.lt_of_le_of_lt hle (by rw[h5]at k7;exact k7)
    |_=>exact k4.elim
   |exit id=>cases e<;>first|exact k4.elim|exact⟨.exit id,env',S',g',k1,k2,h3.trans k3,k4,k5⟩
   |goto l=>cases e<;>first|exact k4.elim|exact⟨.goto l,env',S',g',k1,k2,h3.trans k3,k4,k5⟩
   |ret=>cases e<;>first|exact k4.elim|exact⟨.ret,env',S',g',k1,k2,h3.trans k3,k4,k5⟩
   |pan x=>cases e<;>first|exact k4.elim|exact⟨.pan x,env',S',g',k1,k2,h3.trans k3,k4,k5⟩
 |.scope c,ms,env,S,K,h=>by
  have hc:=vc_sound c _ env S _ h
  intro D w g a hh he
  refine wp_scope_straight (wp_mono (hc D w g a hh he) ?_)
  rintro e a' w' ⟨x,env',S',g',h1,h2,h3,h4,h5⟩
  cases x with
  |normal=>cases e<;>first|exact h4.elim|exact⟨.normal,env',S',g',h1,h2,h3,trivial,h5⟩
  |exit id'=>cases e<;>first|exact h4.elim|exact⟨.exit id',env',S',g',h1,h2,h3,h4,h5⟩
  |goto l=>exact h5.elim
  |ret=>cases e<;>first|exact h4.elim|exact⟨.ret,env',S',g',h1,h2,h3,h4,h5⟩
  |pan x=>cases e<;>first|exact h4.elim|exact⟨.pan x,env',S',g',h1,h2,h3,h4,h5⟩
 |.region id ops draw,ms,env,S,K,h=>by
  cases draw with
  |true =>
   simp only[vc]at h
   split at h
   ·rename_i hb
    simp only[Bool.and_eq_true]at hb
    split at h
    ·exact draw_quietJ hb.1 hb.2.1 h
    ·exact draw_quiet hb.1 hb.2.1 h
   ·split at h
    ·rename_i pl hp hm
     exact draw_plan hm hp h
    ·exact h
  |false =>
   simp only[vc]at h
   split at h
   ·exact fun D w g a hh he=>wp_region_list (vcJ_sound ops.toList env S w g a hh he (Mv.refl _ _) h)
   ·exact fun D w g a hh he=>wp_region_list (vcOps_sound ops.toList (fun _=>false) env S w g a (Sk.nil env) hh he (Mv.refl _ _) h)
 |.rangeFunc _ _ _ _,_,_,_,_,h=>h.elim
 |.refuse _,_,_,_,_,h=>h.elim
abbrev resV(P:Program):List ResultVar→Env→Store→(List AV→Prop)→Prop
 |[],_,_,K=>K []
 |.tmp t :: rs,env,S,K=>resV P rs env S fun l=>K (env.f t :: l)
 |.cell a t :: rs,env,S,K=>ld P t (env.f a) S fun u _=>resV P rs env S fun l=>K (u :: l)
def retV(l:List AV):AV:=match l with|[x]=>x|l=>.t l
abbrev bodyK(P:Program)(rs:List ResultVar)(Q:AEnd→Store→Prop):AX→Env→Store→Prop
 |.normal,env,S|.ret,env,S=>resV P rs env S fun l=>Q (.ret (retV l)) S
 |.pan x,_,S=>Q (.pan x) S
 |_,_,_=>False
theorem run_results{P:Program}{w:World}{g:Gh}{S:Store}(hh:Heap P w g S){env:Env}{a:Act}(he:EnvR D w g env a):∀(rs:List ResultVar) (K:List AV→Prop),resV P rs env S K→
    ∃(l:List AV) (vs:List Value),(rs.mapM (m:=Sem) fun|.tmp t=>pure (a.tmps.getD t undef)|.cell ad t=>do loadVar t (←asAddr (a.tmps.getD ad undef))).run P w = .ok vs w∧l.length=vs.length∧(∀(k:Nat) (u:AV),l[k]? = some u→∃ v,vs[k]? = some v∧R w g u v)∧K l
 |[],K,h=>⟨[],[],by simp,rfl,fun k u hu=>by simp at hu,h⟩
 |.tmp t :: rs,K,h=>by
  obtain⟨l,vs,h1,h2,h3,h4⟩:=run_results hh he rs _ h
  refine⟨env.f t :: l,a.tmps.getD t undef :: vs,?_,by simp[h2],fun k u hu=>?_,h4⟩
  ·rw[List.mapM_cons]
   simp only[Sem.run_bind,Sem.run_pure,Result.andThen_ok,h1]
  ·cases k with
   |zero=>cases hu;exact⟨_,rfl,he.ev (.tmp t)⟩
   |succ k=>exact h3 k u (by simpa using hu)
 |.cell ad t :: rs,K,h=>by
  obtain⟨ad',u,v,hy,hrun,hr,h'⟩:=run_ld hh (he.ev (.tmp ad)) h
  have hy':a.tmps.getD ad undef = .pointer (some ad'):=hy
  obtain⟨l,vs,h1,h2,h3,h4⟩:=run_results hh he rs _ h'
  refine⟨u :: l,v :: vs,?_,by simp[h2],fun k u hu=>?_,h4⟩
  ·rw[List.mapM_cons]
   have hA:(asAddr (a.tmps.getD ad undef)).run P w = .ok ad' w:=by rw[hy'];rfl
   simp only[Sem.run_bind,Sem.run_pure,Result.andThen_ok,hA,hrun,h1]
  ·cases k with
   |zero=>cases hu;exact⟨_,rfl,hr⟩
   |succ k=>exact h3 k u (by simpa using hu)
def enterOk(P:Program)(f:FuncId):Bool:=
 match P.funcs[f]? with
 | some fn => !(fn.name == "runtime.NumGoroutine") && fn.body.isSome
 |none=>false
theorem enterOk_run{P:Program}{f:FuncId}(h:enterOk P f=true)(vs:Array Value)(w:World):(callFunc f vs).run P w = .ok (.enter f vs) w:=by
 unfold enterOk at h
 unfold callFunc
 simp only[Sem.run_bind,run_program,Result.andThen_ok]
 split at h
 ·rename_i fn hf
  rw[hf]
  simp only[Bool.and_eq_true,Bool.not_eq_true']at h
  obtain⟨h1,h2⟩:=h
  have h3:fn.body.isNone=false:=by cases hb:fn.body<;>simp_all
  simp[h1,h3]
 ·cases h
theorem run_retV{P:Program}{fn:Func}{w:World}{g:Gh}{S:Store}(hh:Heap P w g S){env:Env}{a:Act}(he:EnvR D w g env a){K:List AV→Prop}(h:resV P fn.results.toList env S K):
    ∃ l v,(results fn a.tmps).run P w = .ok v w∧R w g (retV l) v∧K l:=by
 obtain⟨l,vs,h1,h2,h3,h4⟩:=run_results hh he fn.results.toList K h
 refine⟨l,if h:vs.toArray.size=1 then vs.toArray[0]else .tuple vs.toArray,?_,?_,h4⟩
 ·unfold results
  rw[Sem.run_bind,Array.mapM_eq_mapM_toList,Sem.run_map]
  erw [h1]
  simp
 ·unfold retV
  split
  ·rename_i x
   obtain⟨v,hv,hr⟩:=h3 0 x rfl
   have hl:vs.toArray.size=1:=by simp;simp at h2;omega
   rw[dif_pos hl]
   have:vs.toArray[0]=v:=by
    have h5:=(List.getElem?_eq_some_iff.1 hv).2
    simpa using h5
   rw[this]
   exact hr
  ·rename_i hne
   have hl:¬ vs.toArray.size=1:=by
    intro hl
    simp at hl
    rw[hl]at h2
    match l,h2 with
    |[x],_=>exact hne x rfl
   rw[dif_neg hl]
   refine .t _ _ (by simpa using h2) (fun k u hu=>?_)
   obtain⟨v,hv,hr⟩:=h3 k u hu
   simpa[Array.getD_eq_getD_getElem?,hv]using hr
def ofArgs(n:Nat)(args:List AV):Env:=
 ⟨n,fun i=>match Nat.blt i n with|true=>args.getD i .j|false=>.j,fun k h=>by
  cases hb:Nat.blt k n with
  |false=>rfl
  |true=>have:k<n:=by simpa[Nat.blt_eq]using hb
         omega⟩
theorem EnvR.begin{n:Nat}{args:List AV}{w:World}{g:Gh}{vs:Array Value}{m:Nat}(ha:Args w g args vs)(hn:args.length+(m - args.length)=n):EnvR [] w g (ofArgs n args) { tmps:=vs++Array.replicate (m - vs.size) undef,defers:=[] }:=by
 have hsz:=ha.1
 refine⟨by simp[ofArgs];omega,fun k=>?_,rfl⟩
 show R w g (match Nat.blt k n with|true=>args.getD k .j|false=>.j) _
 split
 ·rw[List.getD_eq_getElem?_getD]
  cases hq:args[k]? with
  |none=>exact .j _
  |some u =>
   have hk:k<vs.size:=by rw[←hsz];exact(List.getElem?_eq_some_iff.1 hq).1
   have:=ha.2 k u hq
   simpa[Array.getD_eq_getD_getElem?,Array.getElem?_append,hk]using this
 ·exact .j _
theorem body_of_vc{P:Program}{fn:Func}{c:Code}{args:List AV}{S:Store}{Q:AEnd→Store→Prop}{n:Nat}(hn:args.length+(fn.ntmps - args.length)=n)(ms:List (List Nat))
    (h:vc P c ms (ofArgs n args) S (bodyK P fn.results.toList Q)) {w:World} {g:Gh} {vs:Array Value} (hh:Heap P w g S) (ha:Args w g args vs):
    c.wp P (bodyPost P fn fun e w'=>∃ r S' g',Heap P w' g' S'∧Mv w g w' g'∧ER w' g' r e∧Q r S') { tmps:=vs++Array.replicate (fn.ntmps - vs.size) undef,defers:=[] } w:=by
 have hE:EnvR [] w g (ofArgs n args) { tmps:=vs++Array.replicate (fn.ntmps - vs.size) undef,defers:=[] }:=EnvR.begin ha hn
 refine wp_mono (vc_sound c ms _ S _ h [] w g _ hh hE) ?_
 rintro e a' w' ⟨x,env',S',g',h1,h2,h3,h4,h5⟩
 cases x with
 |normal =>
  cases e with
  |normal =>
   obtain⟨l,v,hrun,hr,hQ⟩:=run_retV h1 h2 h5
   exact⟨h2.defers,v,hrun,.ret _,S',g',h1,h3,hr,hQ⟩
  |_=>exact h4.elim
 |ret =>
  cases e with
  |ret =>
   obtain⟨l,v,hrun,hr,hQ⟩:=run_retV h1 h2 h5
   exact⟨h2.defers,v,hrun,.ret _,S',g',h1,h3,hr,hQ⟩
  |_=>exact h4.elim
 |pan y =>
  cases e with
  |panic chain=>exact⟨h2.defers,.pan y,S',g',h1,h3,h4,h5⟩
  |_=>exact h4.elim
 |exit id=>exact h5.elim
 |goto l=>exact h5.elim
theorem calls_of_vc{P:Program}{f:FuncId}{fn:Func}{c:Code}{args:List AV}{S:Store}{Q:AEnd→Store→Prop}{n:Nat}(hf:P.funcs[f]? = some fn)(hb:fn.body=some c)(he:enterOk P f=true)(hn:args.length+(fn.ntmps - args.length)=n)(ms:List (List Nat))
    (h:vc P c ms (ofArgs n args) S (bodyK P fn.results.toList Q)):ACalls P f args S Q:=
 ⟨enterOk_run he,fun w g vs hh ha=>calls_of_wp hf hb (body_of_vc hn ms h hh ha)⟩
def ADCalls(P:Program)(f:FuncId)(args:List AV)(S:Store)(Q:AEnd→Store→Prop):Prop:=
 (∀(vs:Array Value) (w:World),(callFunc f vs).run P w = .ok (.enter f vs) w)∧
 ∀(w:World) (g:Gh) (vs:Array Value) (u:FrameMode),Heap P w g S→Args w g args vs→CallsD P f vs u w (fun e u' w'=>u'=u∧∃ r S' g',Heap P w' g' S'∧Mv w g w' g'∧ER w' g' r e∧Q r S')
theorem dcalls_of_vc{P:Program}{f:FuncId}{fn:Func}{c:Code}{args:List AV}{S:Store}{Q:AEnd→Store→Prop}{n:Nat}(hf:P.funcs[f]? = some fn)(hb:fn.body=some c)(he:enterOk P f=true)(hn:args.length+(fn.ntmps - args.length)=n)(ms:List (List Nat))
    (h:vc P c ms (ofArgs n args) S (bodyK P fn.results.toList Q)):ADCalls P f args S Q:=
 ⟨enterOk_run he,fun w g vs u hh ha=>callsD_of_wp hf hb (body_of_vc hn ms h hh ha)⟩
def _root_.Go.Code.at_:Code→List Nat→Code
 |c,[]=>c
 |.seq a _,0 :: p=>a.at_ p
 |.seq _ b,_ :: p=>b.at_ p
 |.cond _ a _,0 :: p=>a.at_ p
 |.cond _ _ b,_ :: p=>b.at_ p
 |.block _ c,_ :: p=>c.at_ p
 |.loop c,_ :: p=>c.at_ p
 |.scope c,_ :: p=>c.at_ p
 |c,_=>c
def _root_.Go.Code.ops_:Code→Array Oper
 |.region _ ops _=>ops
 |_=>#[]
end Go.Ab
set_option linter.unusedVariables false
set_option linter.unusedSimpArgs false
namespace Go.Ab
open Go Go.RowKit
variable {D:List Deferred}
def AObj.frz(d:Bool):AObj→AObj
 |.cells t es l=>.cells t es (l && !d)
 |.map kk es l=>.map kk es (l && !d)
 |o=>o
def AObj.frzs:AObj→Bool
 |.cells _ _ _|.map _ _ _=>true
 |_=>false
def Store.frz(S:Store)(D:Nat→Bool):Store:=⟨S.n,fun i=>(S.obj i).map (AObj.frz (D i))⟩
def Gh.frz(g:Gh)(S:Store)(D:Nat→Bool):Gh:=
 { g with im:=fun b=>g.im b∨∃ id o,D id=true∧S.obj id=some o∧o.frzs=true∧g.blk id=b }
theorem frz_ob{S:Store}{D:Nat→Bool}{i:Nat}{o:AObj}(h:(S.frz D).obj i=some o):∃ o0,S.obj i=some o0∧o=o0.frz (D i):=by
 simp only[Store.frz,Option.map_eq_some_iff]at h
 obtain⟨o0,h1,h2⟩:=h
 exact⟨o0,h1,h2.symm⟩
theorem frz_id(o:AObj):o.frz false=o:=by cases o<;>simp[AObj.frz]
theorem frz_false{S:Store}{D:Nat→Bool}{i:Nat}(h:D i=false):(S.frz D).obj i=S.obj i:=by
 simp only[Store.frz,h]
 cases S.obj i with
 |none=>rfl
 |some o=>simp[frz_id]
theorem frz_of{S:Store}{D:Nat→Bool}{i:Nat}{t:TypeId}{es:List (List AV)}{l:Bool}(h:S.obj i=some (.cells t es l)):(S.frz D).obj i=some (.cells t es (l && !D i)):=by
 simp[Store.frz,h,AObj.frz]
theorem frz_ofM{S:Store}{D:Nat→Bool}{i:Nat}{kk:KK}{es:List (Key × AV)}{l:Bool}(h:S.obj i=some (.map kk es l)):(S.frz D).obj i=some (.map kk es (l && !D i)):=by
 simp[Store.frz,h,AObj.frz]
theorem mv_frz{P:Program}{w:World}{g:Gh}{S:Store}(hh:Heap P w g S)(D:Nat→Bool):Mv w g w (g.frz S D):=
 ⟨rfl,rfl,rfl,Nat.le_refl _,fun _ _=>rfl,fun _ h=>.inl h,Nat.le_refl _,fun _ _=>rfl,fun _ _=>rfl,fun _ _=>rfl⟩
theorem live_frz{o:AObj}{d:Bool}:(o.frz d).live=true→o.live=true∧(o.frzs=true→d=false):=by
 cases o<;>cases d<;>simp[AObj.frz,AObj.live,AObj.frzs]
theorem dead_frz{o:AObj}{d:Bool}:(o.frz d).live=false→o.live=true→o.frzs=true∧d=true:=by
 cases o<;>cases d<;>simp[AObj.frz,AObj.live,AObj.frzs]
theorem ORow.frz{P:Program}{w:World}{g:Gh}{id:Nat}{o:AObj}(d:Bool)(h:ORow P w g id o):ORow P w g id (o.frz d):=by
 cases o<;>exact h
theorem heap_frz{P:Program}{w:World}{g:Gh}{S:Store}(hh:Heap P w g S)(D:Nat→Bool):Heap P w (g.frz S D) (S.frz D) where
 gl:=hh.gl.mv (mv_frz hh D)
 n:=hh.n
 im b hb:=by
  rcases hb with hb|⟨id,o,_,ho,_,rfl⟩
  ·exact hh.im b hb
  ·exact(hh.ob _ _ ho).blk
 ob i o h:=by
  obtain⟨o0,ho,rfl⟩:=frz_ob h
  have hob:=hh.ob _ _ ho
  refine⟨hob.lt,hob.blk,fun hl=>?_,fun hl=>?_,(hob.row.frz (D i)).mv (mv_frz hh D) hob.lt rfl⟩
  ·obtain⟨hl0,hD⟩:=live_frz hl
   rintro(hb|⟨id,o',hD',ho',hf,hb⟩)
   ·exact hob.imY hl0 hb
   ·cases hl':o'.live with
    |true =>
     obtain rfl:=hh.sp _ _ _ _ ho' ho hl' hl0 hb
     rw[ho]at ho'
     cases ho'
     rw[hD hf]at hD'
     cases hD'
    |false=>exact hob.imY hl0 (hb ▸ (hh.ob _ _ ho').imN hl')
  ·cases hl0:o0.live with
   |false=>exact .inl (hob.imN hl0)
   |true =>
    obtain⟨h1,h2⟩:=dead_frz hl hl0
    exact .inr ⟨i,o0,h2,ho,h1,rfl⟩
 sp a b o o' h1 h2 l1 l2 he:=by
  obtain⟨o1,h3,rfl⟩:=frz_ob h1
  obtain⟨o2,h5,rfl⟩:=frz_ob h2
  exact hh.sp _ _ _ _ h3 h5 (live_frz l1).1 (live_frz l2).1 he
inductive Cv (S:Store) (n:Nat):AV→AV→Prop
 |v (x:Value):Cv S n (.v x) (.v x)
 |nl:Cv S n .nl (.l [])
 |nl':Cv S n .nl .nl
 |p (id i j:Nat) (h:id<n):Cv S n (.p id i j) (.p id i j)
 |s' (id b m:Nat) (h:id<n):Cv S n (.s id b m) (.s id b m)
 |s (id b m:Nat) (t:TypeId) (es es2:List (List AV)) (ho:S.obj id=some (.cells t es false)) (hb:b+m≤es.length) (hl:es2.length=m)
    (hc:∀(i:Nat) (c c2:List AV),es[b+i]? = some c→es2[i]? = some c2→c.length=c2.length)
    (hR:∀(i:Nat) (c c2:List AV) (k:Nat) (u u2:AV),es[b+i]? = some c→es2[i]? = some c2→c[k]? = some u→c2[k]? = some u2→Cv S n u u2):Cv S n (.s id b m) (.l es2)
 |l (es es2:List (List AV)) (hl:es.length=es2.length) (hc:∀(i:Nat) (c c2:List AV),es[i]? = some c→es2[i]? = some c2→c.length=c2.length)
    (hR:∀(i:Nat) (c c2:List AV) (k:Nat) (u u2:AV),es[i]? = some c→es2[i]? = some c2→c[k]? = some u→c2[k]? = some u2→Cv S n u u2):Cv S n (.l es) (.l es2)
 |q (c c2:List AV) (j:Nat) (hl:c.length=c2.length) (hR:∀(k:Nat) (u u2:AV),c[k]? = some u→c2[k]? = some u2→Cv S n u u2):Cv S n (.q c j) (.q c2 j)
 |f (fn:Fn) (fs cs fs2 cs2:List AV) (hl:fs.length=fs2.length) (hl2:cs.length=cs2.length) (hR:∀(k:Nat) (u u2:AV),fs[k]? = some u→fs2[k]? = some u2→Cv S n u u2)
    (hR2:∀(k:Nat) (u u2:AV),cs[k]? = some u→cs2[k]? = some u2→Cv S n u u2):Cv S n (.f fn fs cs) (.f fn fs2 cs2)
 |a (cs cs2:List AV) (hl:cs.length=cs2.length) (hR:∀(k:Nat) (u u2:AV),cs[k]? = some u→cs2[k]? = some u2→Cv S n u u2):Cv S n (.a cs) (.a cs2)
 |t (cs cs2:List AV) (hl:cs.length=cs2.length) (hR:∀(k:Nat) (u u2:AV),cs[k]? = some u→cs2[k]? = some u2→Cv S n u u2):Cv S n (.t cs) (.t cs2)
 |i (t:TypeId) (x x2:AV) (h:Cv S n x x2):Cv S n (.i t x) (.i t x2)
 |m (id:Nat) (h:id<n):Cv S n (.m id) (.m id)
 |m' (id:Nat) (kk:KK) (es es2:List (Key × AV)) (ho:S.obj id=some (.map kk es false)) (hl:es.length=es2.length) (hk:∀(i:Nat) (e e2:Key × AV),es[i]? = some e→es2[i]? = some e2→e.1=e2.1)
    (hR:∀(i:Nat) (e e2:Key × AV),es[i]? = some e→es2[i]? = some e2→Cv S n e.2 e2.2):Cv S n (.m id) (.mt kk es2)
 |mt (kk:KK) (es es2:List (Key × AV)) (hl:es.length=es2.length) (hk:∀(i:Nat) (e e2:Key × AV),es[i]? = some e→es2[i]? = some e2→e.1=e2.1)
    (hR:∀(i:Nat) (e e2:Key × AV),es[i]? = some e→es2[i]? = some e2→Cv S n e.2 e2.2):Cv S n (.mt kk es) (.mt kk es2)
 |j:Cv S n .j .j
 |pq (id i j:Nat) (t:TypeId) (es:List (List AV)) (c c2:List AV) (ho:S.obj id=some (.cells t es false)) (hi:es[i]? = some c) (hl:c.length=c2.length)
    (hR:∀(k:Nat) (u u2:AV),c[k]? = some u→c2[k]? = some u2→Cv S n u u2):Cv S n (.p id i j) (.q c2 j)
theorem Cv.one{S:Store}{n:Nat}{u u2:AV}(h:Cv S n u u2)(h1:u.one=true):u2.one=true:=by
 cases h<;>first|rfl|exact h1|(simp[AV.one]at h1)
def Gh.cut(g:Gh)(n:Nat):Gh:={ g with n:=n }
theorem get_of{α:Type}{l:List α}{n i:Nat}(h:l.length=n)(hi:i<n):∃ x,l[i]? = some x:=⟨_,List.getElem?_eq_getElem (by omega)⟩
theorem MapRow.conv{kk:KK}{es es2:List (Key × AV)}{ms:Array MapEntry}(h:MapRow kk es ms)(hl:es.length=es2.length)(hk:∀(i:Nat) (e e2:Key × AV),es[i]? = some e→es2[i]? = some e2→e.1=e2.1):MapRow kk es2 ms:=by
 refine⟨h.1.trans hl,fun i e2 h2=>?_⟩
 obtain⟨e,h1⟩:=get_of hl (List.getElem?_eq_some_iff.1 h2).1
 rw[←hk i e e2 h1 h2]
 exact h.2 i e h1
theorem R_cv{P:Program}{w:World}{g:Gh}{S:Store}(hh:Heap P w g S){n:Nat}{u u2:AV}(h:Cv S n u u2):∀{y:Value},R w g u y→R w (g.cut n) u2 y:=by
 induction h with
 |v x=>intro y hr;obtain rfl:=hr.inv_v;exact .v _
 |nl=>intro y hr;obtain⟨A,rfl⟩:=hr.inv_nl;exact .l [] A 0 0 (fun _ _=>undef) (Nat.le_refl _) (fun h=>absurd rfl h) (fun i c' j u h=>by simp at h) (fun i c' j u h=>by simp at h)
 |nl'=>intro y hr;obtain⟨A,rfl⟩:=hr.inv_nl;exact .nl _
 |p id i j h=>intro y hr;obtain⟨_,rfl⟩:=hr.inv_p;exact .p (g:=g.cut n) id i j h
 |s' id b m h=>intro y hr;obtain⟨_,A,c,rfl,h1,h2,h3⟩:=hr.inv_s;exact .s (g:=g.cut n) id b m c A h h1 h2 h3
 |s id b m t es es2 ho hb hl hc hR ih =>
  intro y hr
  obtain⟨_,A,c,rfl,h1,h2,h3⟩:=hr.inv_s
  have hob:=hh.obj _ _ _ _ ho
  obtain⟨cs,hrow,hcs,hro⟩:=hob.row
  subst hl
  refine .l es2 (some A) c (g.sz id) (fun i j=>cs.getD ((b+i)*g.sz id+j) undef) h1 (fun hne=>?_) (fun i c2 j u2 h4 h5=>?_) (fun i c2 j u2 h4 h5=>?_)
  ·have hpos:0<es2.length:=List.length_pos_iff.2 hne
   have hA:=h3 (by omega)
   subst hA
   refine⟨_,rfl,hob.imN rfl,fun i c2 h4=>?_⟩
   have hi:=(List.getElem?_eq_some_iff.1 h4).1
   obtain⟨c1,h5⟩:∃ c1,es[b+i]? = some c1:=⟨_,List.getElem?_eq_getElem (by omega)⟩
   refine⟨by rw[←hc i c1 c2 h5 h4];exact(hro _ _ h5).1,fun j hj=>?_⟩
   have hlt:(b+i)*g.sz id+j<cs.size:=by
    rw[hcs]
    exact idx_lt (List.getElem?_eq_some_iff.1 h5).1 hob.len hj
   rw[add_at,cell_row hrow,←Nat.add_assoc,←Nat.add_mul]
   simp[Array.getD_eq_getD_getElem?,Array.getElem?_eq_getElem hlt]
  ·have hi:=(List.getElem?_eq_some_iff.1 h4).1
   obtain⟨c1,h6⟩:∃ c1,es[b+i]? = some c1:=⟨_,List.getElem?_eq_getElem (by omega)⟩
   obtain⟨u,h7⟩:=get_of (hc i c1 c2 h6 h4) (List.getElem?_eq_some_iff.1 h5).1
   exact(hR i c1 c2 j u u2 h6 h4 h7 h5).one ((hro _ _ h6).2 _ _ h7).1
  ·have hi:=(List.getElem?_eq_some_iff.1 h4).1
   obtain⟨c1,h6⟩:∃ c1,es[b+i]? = some c1:=⟨_,List.getElem?_eq_getElem (by omega)⟩
   obtain⟨u,h7⟩:=get_of (hc i c1 c2 h6 h4) (List.getElem?_eq_some_iff.1 h5).1
   exact ih i c1 c2 j u u2 h6 h4 h7 h5 ((hro _ _ h6).2 _ _ h7).2
 |l es es2 hl hc hR ih =>
  intro y hr
  obtain⟨A,c,sz,vs,rfl,h1,hm,h3⟩:=hr.inv_l
  rw[hl]
  refine .l es2 A c sz vs (by omega) (fun hne=>?_) (fun i c2 j u2 h4 h5=>?_) (fun i c2 j u2 h4 h5=>?_)
  ·have hne':es≠[]:=by
     rintro rfl
     simp at hl
     exact hne (List.eq_nil_of_length_eq_zero hl.symm)
   obtain⟨ad,rfl,him,hcell⟩:=hm hne'
   refine⟨ad,rfl,him,fun i c2 h4=>?_⟩
   obtain⟨c1,h5⟩:=get_of hl (List.getElem?_eq_some_iff.1 h4).1
   exact⟨by rw[←hc i c1 c2 h5 h4];exact(hcell _ _ h5).1,(hcell _ _ h5).2⟩
  ·obtain⟨c1,h6⟩:=get_of hl (List.getElem?_eq_some_iff.1 h4).1
   obtain⟨u,h7⟩:=get_of (hc i c1 c2 h6 h4) (List.getElem?_eq_some_iff.1 h5).1
   exact(hR i c1 c2 j u u2 h6 h4 h7 h5).one (h3 _ _ _ _ h6 h7).1
  ·obtain⟨c1,h6⟩:=get_of hl (List.getElem?_eq_some_iff.1 h4).1
   obtain⟨u,h7⟩:=get_of (hc i c1 c2 h6 h4) (List.getElem?_eq_some_iff.1 h5).1
   exact ih i c1 c2 j u u2 h6 h4 h7 h5 (h3 _ _ _ _ h6 h7).2
 |q c c2 j hl hR ih =>
  intro y hr
  cases hr with
  |q c j ad vs him hm h1 h2 =>
   refine .q c2 j ad vs him (fun k hk=>hm k (by omega)) (fun k u2 h5=>?_) (fun k u2 h5=>?_)
   ·obtain⟨u,h7⟩:=get_of hl (List.getElem?_eq_some_iff.1 h5).1
    exact(hR k u u2 h7 h5).one (h1 _ _ h7)
   ·obtain⟨u,h7⟩:=get_of hl (List.getElem?_eq_some_iff.1 h5).1
    exact ih k u u2 h7 h5 (h2 _ _ h7)
 |f fn fs cs fs2 cs2 hl hl2 hR hR2 ih1 ih2 =>
  intro y hr
  cases hr with
  |f fn fs cs fs' cs' hf hc hF hC =>
   refine .f fn fs2 cs2 fs' cs' (by omega) (by omega) (fun k u2 h5=>?_) (fun k u2 h5=>?_)
   ·obtain⟨u,h7⟩:=get_of hl (List.getElem?_eq_some_iff.1 h5).1
    exact ih1 k u u2 h7 h5 (hF _ _ h7)
   ·obtain⟨u,h7⟩:=get_of hl2 (List.getElem?_eq_some_iff.1 h5).1
    exact ih2 k u u2 h7 h5 (hC _ _ h7)
 |a cs cs2 hl hR ih =>
  intro y hr
  cases hr with
  |a cs cs' hl' h1 h2 =>
   refine .a cs2 cs' (by omega) (fun k u2 h5=>?_) (fun k u2 h5=>?_)
   ·obtain⟨u,h7⟩:=get_of hl (List.getElem?_eq_some_iff.1 h5).1
    exact(hR k u u2 h7 h5).one (h1 _ _ h7)
   ·obtain⟨u,h7⟩:=get_of hl (List.getElem?_eq_some_iff.1 h5).1
    exact ih k u u2 h7 h5 (h2 _ _ h7)
 |t cs cs2 hl hR ih =>
  intro y hr
  cases hr with
  |t cs cs' hl' h2 =>
   refine .t cs2 cs' (by omega) (fun k u2 h5=>?_)
   obtain⟨u,h7⟩:=get_of hl (List.getElem?_eq_some_iff.1 h5).1
   exact ih k u u2 h7 h5 (h2 _ _ h7)
 |i t x x2 h ih =>
  intro y hr
  cases hr with
  |i t x y h'=>exact .i t x2 y (ih h')
 |m id h =>
  intro y hr
  cases hr with
  |m id h'=>exact .m (g:=g.cut n) id h
 |m' id kk es es2 ho hl hk hR ih =>
  intro y hr
  cases hr with
  |m id h' =>
   have hob:=hh.ob _ _ ho
   obtain⟨ms,h1,h2,h3⟩:=hob.row
   refine .mt kk es2 (g.blk id) ms (hob.imN rfl) h1 (h2.conv hl hk) (fun i e2 h5=>?_)
   obtain⟨e,h4⟩:=get_of hl (List.getElem?_eq_some_iff.1 h5).1
   exact ih i e e2 h4 h5 (h3 i e h4)
 |mt kk es es2 hl hk hR ih =>
  intro y hr
  cases hr with
  |mt kk es r ms him hm hrow hR' =>
   refine .mt kk es2 r ms him hm (hrow.conv hl hk) (fun i e2 h5=>?_)
   obtain⟨e,h4⟩:=get_of hl (List.getElem?_eq_some_iff.1 h5).1
   exact ih i e e2 h4 h5 (hR' i e h4)
 |j=>intro y hr;exact .j _
 |pq id i j t es c c2 ho hi hl hR ih =>
  intro y hr
  obtain⟨_,rfl⟩:=hr.inv_p
  have hob:=hh.obj _ _ _ _ ho
  obtain⟨cs,hrow,hcs,hro⟩:=hob.row
  obtain⟨hc,hu⟩:=hro _ _ hi
  rw[show(⟨g.blk id,i*g.sz id+j,none⟩:Addr)=(⟨g.blk id,i*g.sz id,none⟩:Addr).add j from(add_at _ _ _).symm]
  refine .q c2 j ⟨g.blk id,i*g.sz id,none⟩ (fun k=>cs.getD (i*g.sz id+k) undef) (hob.imN rfl) (fun k hk=>?_) (fun k u2 h5=>?_) (fun k u2 h5=>?_)
  ·have hlt:i*g.sz id+k<cs.size:=by
     rw[hcs]
     exact idx_lt (List.getElem?_eq_some_iff.1 hi).1 hob.len (by omega)
   rw[add_at,cell_row hrow]
   simp[Array.getD_eq_getD_getElem?,Array.getElem?_eq_getElem hlt]
  ·obtain⟨u,h7⟩:=get_of hl (List.getElem?_eq_some_iff.1 h5).1
   exact(hR k u u2 h7 h5).one (hu _ _ h7).1
  ·obtain⟨u,h7⟩:=get_of hl (List.getElem?_eq_some_iff.1 h5).1
   exact ih k u u2 h7 h5 (hu _ _ h7).2
theorem R.cl{w:World}{g:Gh}{u:AV}{y:Value}(h:R w g u y)(S:Store):Cv S g.n u u:=by
 induction h with
 |v x=>exact .v x
 |nl A=>exact .nl'
 |p id i j h=>exact .p id i j h
 |s id i n c A h hn hc hA=>exact .s' id i n h
 |l es A c sz vs hc hm h1 hR ih=>exact .l es es rfl (fun i c c2 h h'=>by rw[h]at h';cases h';rfl) (fun i c c2 k u u2 h h' h3 h4=>by rw[h]at h';cases h';rw[h3]at h4;cases h4;exact ih _ _ _ _ h h3)
 |q c j ad vs him hm h1 hR ih=>exact .q c c j rfl (fun k u u2 h3 h4=>by rw[h3]at h4;cases h4;exact ih _ _ h3)
 |f fn fs cs fs' cs' hf hc hF hC ih1 ih2=>exact .f fn fs cs fs cs rfl rfl (fun k u u2 h3 h4=>by rw[h3]at h4;cases h4;exact ih1 _ _ h3) (fun k u u2 h3 h4=>by rw[h3]at h4;cases h4;exact ih2 _ _ h3)
 |a cs cs' hl h1 hR ih=>exact .a cs cs rfl (fun k u u2 h3 h4=>by rw[h3]at h4;cases h4;exact ih _ _ h3)
 |t cs cs' hl hR ih=>exact .t cs cs rfl (fun k u u2 h3 h4=>by rw[h3]at h4;cases h4;exact ih _ _ h3)
 |i t x y h ih=>exact .i t x x ih
 |m id h=>exact .m id h
 |mt kk es r ms him hm hrow hR ih=>exact .mt kk es es rfl (fun i e e2 h h'=>by rw[h]at h';cases h';rfl) (fun i e e2 h h'=>by rw[h]at h';cases h';exact ih _ _ h)
 |j y=>exact .j
theorem heap_cut{P:Program}{w:World}{g:Gh}{S:Store}(hh:Heap P w g S){w':World}{g':Gh}{S':Store}(hh':Heap P w' g' S')(hk:∀ i,i<S.n→S'.obj i=S.obj i):Heap P w' (g'.cut S.n) S where
 gl:=hh'.gl
 n:=rfl
 im:=hh'.im
 ob i o ho:=by
  have hob0:=hh.ob _ _ ho
  have hi:i<S.n:=by rw[←hh.n];exact hob0.lt
  have ho':=hk i hi
  rw[ho]at ho'
  have hob:=hh'.ob _ _ ho'
  refine⟨hi,hob.blk,hob.imY,hob.imN,?_⟩
  have hr0:=hob0.row
  have hr:=hob.row
  cases o with
  |cells t es l =>
   obtain⟨_,_,cs0,_,_,h03⟩:=hr0
   obtain⟨a1,a2,cs,h1,h2,h3⟩:=hr
   refine⟨a1,a2,cs,h1,h2,fun i c hc=>⟨(h3 i c hc).1,fun k u hu=>⟨((h3 i c hc).2 k u hu).1,?_⟩⟩⟩
   have hcl:=((h03 i c hc).2 k u hu).2.cl S'
   rw[hh.n]at hcl
   exact R_cv hh' hcl ((h3 i c hc).2 k u hu).2
  |map kk es l =>
   obtain⟨_,_,_,h03⟩:=hr0
   obtain⟨ms,h1,h2,h3⟩:=hr
   refine⟨ms,h1,h2,fun i e he=>?_⟩
   have hcl:=(h03 i e he).cl S'
   rw[hh.n]at hcl
   exact R_cv hh' hcl (h3 i e he)
  |sit s pos=>exact hr
  |mit x n seen =>
   obtain⟨_,_,h03⟩:=hr0
   obtain⟨r,h1,h2⟩:=hr
   have hcl:=h03.cl S'
   rw[hh.n]at hcl
   exact⟨r,h1,R_cv hh' hcl h2⟩
 sp a b o o' h1 h2 l1 l2 he:=by
  have ha:a<S.n:=by rw[←hh.n];exact(hh.ob _ _ h1).lt
  have hb:b<S.n:=by rw[←hh.n];exact(hh.ob _ _ h2).lt
  exact hh'.sp _ _ _ _ ((hk a ha).trans h1) ((hk b hb).trans h2) l1 l2 he
theorem mv_cut{w:World}{g:Gh}{w':World}{g':Gh}{n:Nat}(m:Mv w g w' g')(hn:g.n=n):Mv w g w' (g'.cut n):=
 ⟨m.os,m.tape,m.output,m.size,m.keep,m.im,by rw[hn];exact Nat.le_refl _,m.blk,m.sz,m.cap⟩
def newer(n:Nat)(i:Nat):Bool:=decide (n≤i)
theorem ACalls.tree{P:Program}{f:FuncId}{args:List AV}{S:Store}{tr:AV}(h:ACalls P f args S (fun e S'=>∃ r,e = .ret r∧Keep S S'∧Cv (S'.frz (newer S.n)) S.n r tr)):ACalls P f args S (fun e S'=>e = .ret tr∧S'=S):=by
 refine⟨h.1,fun w g vs hh ha=>(h.2 w g vs hh ha).mono ?_⟩
 rintro e w' ⟨_,S',g',h1,h2,h3,r,rfl,hk,hcv⟩
 cases e with
 |returned v =>
  have hf:=heap_frz h1 (newer S.n)
  have hm:=mv_frz h1 (newer S.n)
  refine⟨.ret tr,S,(g'.frz S' (newer S.n)).cut S.n,heap_cut hh hf (fun i hi=>?_),mv_cut (h2.trans hm) hh.n,R_cv hf hcv (R.mv hm h3),rfl,rfl⟩
  rw[←hk.2 i hi]
  exact frz_false (by simp[newer];omega)
 |panicked chain=>exact h3.elim
 |outgrown=>exact h3.elim
theorem Args.cv{P:Program}{w:World}{g:Gh}{S:Store}(hh:Heap P w g S){n:Nat}{args args2:List AV}{vs:Array Value}(hl:args.length=args2.length)
    (hcv:∀(k:Nat) (u u2:AV),args[k]? = some u→args2[k]? = some u2→Cv S n u u2) (ha:Args w g args vs):Args w (g.cut n) args2 vs:=by
 refine⟨by rw[←hl];exact ha.1,fun k u2 h2=>?_⟩
 obtain⟨u,hu⟩:=get_of hl (List.getElem?_eq_some_iff.1 h2).1
 exact R_cv hh (hcv k u u2 hu h2) (ha.2 _ _ hu)
theorem ACalls.frz{P:Program}{f:FuncId}{args args2:List AV}{S:Store}(D:Nat→Bool){Q:AEnd→Store→Prop}(hl:args.length=args2.length)
    (hcv:∀(k:Nat) (u u2:AV),args[k]? = some u→args2[k]? = some u2→Cv (S.frz D) S.n u u2) (h:ACalls P f args2 (S.frz D) Q):ACalls P f args S Q:=by
 refine⟨h.1,fun w g vs hh ha=>?_⟩
 have hf:=heap_frz hh D
 have hm:=mv_frz hh D
 have hn:(g.frz S D).n=S.n:=hh.n
 have ha1:Args w (g.frz S D) args vs:=⟨ha.1,fun k u hu=>(ha.2 k u hu).mv hm⟩
 have ha2:=Args.cv hf hl hcv ha1
 have hcut:(g.frz S D).cut S.n=g.frz S D:=by
  rw[←hn]
  rfl
 rw[hcut]at ha2
 refine(h.2 w _ vs hf ha2).mono ?_
 rintro e w' ⟨r,S',g',h1,h2,h3,h4⟩
 exact⟨r,S',g',h1,hm.trans h2,h3,h4⟩
theorem heap_adopt{P:Program}{w:World}{g:Gh}{S:Store}(hh:Heap P w g S){b cap sz:Nat}{t:TypeId}{es:List (List AV)}{cs:Array Value}(hb:b<w.heap.size)(him:¬ g.im b)(hsep:∀ i o,S.obj i=some o→o.live=true→g.blk i≠b)
    (hlen:es.length≤cap) (hinfo:∃ i,P.info? t=some i∧i.size=sz) (hrow:w.heap[b]? = some (.cells cs t (0,0))) (hcs:cs.size=cap*sz) (hro:RowOk w g sz es cs):
    Heap P w (g.add b cap sz) (S.new (.cells t es true))∧Mv w g w (g.add b cap sz):=by
 have m:=mv_add b cap sz (Mv.refl w g)
 refine heap_add hh (ao:=.cells t es true) hb rfl him hsep ⟨by simpa using hlen,by simpa using hinfo,cs,by simpa using hrow,by simpa using hcs,?_⟩
 have:=hro.mv m
 simpa[RowOk]using this
def newBut(n id:Nat)(i:Nat):Bool:=decide (n≤i) && !decide (i=id)
theorem ACalls.own{P:Program}{f:FuncId}{args:List AV}{S:Store}{t:TypeId}{es2:List (List AV)}
    (h:ACalls P f args S (fun e S'=>∃ id es,e = .ret (.s id 0 es.length)∧S.n≤id∧Keep S S'∧S'.obj id=some (.cells t es true)∧es.length=es2.length∧
     ∀(i:Nat) (c c2:List AV),es[i]? = some c→es2[i]? = some c2→c.length=c2.length∧∀(k:Nat) (u u2:AV),c[k]? = some u→c2[k]? = some u2→Cv (S'.frz (newBut S.n id)) S.n u u2)):
    ACalls P f args S (fun e S'=>e = .ret (.s S.n 0 es2.length)∧S'=S.new (.cells t es2 true)):=by
 refine⟨h.1,fun w g vs hh ha=>(h.2 w g vs hh ha).mono ?_⟩
 rintro e w' ⟨_,S',g',h1,h2,h3,id,es,rfl,hid,hk,ho,hl,hcv⟩
 cases e with
 |returned v =>
  have hf:=heap_frz h1 (newBut S.n id)
  have hm:=mv_frz h1 (newBut S.n id)
  have hkf:∀ i,i<S.n→(S'.frz (newBut S.n id)).obj i=S.obj i:=by
   intro i hi
   rw[←hk.2 i hi]
   exact frz_false (by simp[newBut];omega)
  have hc:=heap_cut hh hf hkf
  have hof:(S'.frz (newBut S.n id)).obj id=some (.cells t es true):=by
   rw[frz_of ho]
   simp[newBut]
  have hob:=hf.obj _ _ _ _ hof
  obtain⟨cs,hrow,hcs,hro⟩:=hob.row
  obtain⟨_,A,c,rfl,hn,hcap,hA⟩:=(R.mv hm h3:R w' (g'.frz S' (newBut S.n id)) (.s id 0 es.length) v).inv_s
  have hro2:RowOk w' ((g'.frz S' (newBut S.n id)).cut S.n) ((g'.frz S' (newBut S.n id)).sz id) es2 cs:=by
   intro i c2 hc2
   obtain⟨c1,hc1⟩:=get_of hl (List.getElem?_eq_some_iff.1 hc2).1
   obtain⟨h5,h6⟩:=hro i c1 hc1
   obtain⟨h7,h8⟩:=hcv i c1 c2 hc1 hc2
   refine⟨by rw[←h7];exact h5,fun k u2 hu2=>?_⟩
   obtain⟨u,hu⟩:=get_of h7 (List.getElem?_eq_some_iff.1 hu2).1
   exact⟨(h8 k u u2 hu hu2).one (h6 k u hu).1,R_cv hf (h8 k u u2 hu hu2) (h6 k u hu).2⟩
  have had:=heap_adopt hc (b:=(g'.frz S' (newBut S.n id)).blk id) (cap:=(g'.frz S' (newBut S.n id)).cap id) (sz:=(g'.frz S' (newBut S.n id)).sz id) hob.blk (hob.imY rfl) (fun i o hi hl' he=>by
   have hi':i<S.n:=by rw[←hh.n];exact(hh.ob _ _ hi).lt
   have:=hf.sp _ _ _ _ ((hkf i hi').trans hi) hof hl' rfl he
   omega) (by rw[←hl];exact hob.len) hob.info hrow hcs hro2
  refine⟨_,_,_,had.1,(mv_cut (h2.trans hm) hh.n).trans had.2,?_,rfl,rfl⟩
  show R _ _ _ _
  rw[←hl]
  have:=R.s (w:=w') (g:=((g'.frz S' (newBut S.n id)).cut S.n).add ((g'.frz S' (newBut S.n id)).blk id) ((g'.frz S' (newBut S.n id)).cap id) ((g'.frz S' (newBut S.n id)).sz id)) S.n 0 es.length c A (Nat.lt_succ_self _) hn (by
   have e:=add_cap ((g'.frz S' (newBut S.n id)).cut S.n) ((g'.frz S' (newBut S.n id)).blk id) ((g'.frz S' (newBut S.n id)).cap id) ((g'.frz S' (newBut S.n id)).sz id)
   have e':((g'.frz S' (newBut S.n id)).cut S.n).n=S.n:=rfl
   rw[e']at e
   rw[e]
   exact hcap) (fun hp=>by
   have e:=add_blk ((g'.frz S' (newBut S.n id)).cut S.n) ((g'.frz S' (newBut S.n id)).blk id) ((g'.frz S' (newBut S.n id)).cap id) ((g'.frz S' (newBut S.n id)).sz id)
   have e':((g'.frz S' (newBut S.n id)).cut S.n).n=S.n:=rfl
   rw[e']at e
   rw[e,Nat.zero_mul]
   have:=hA hp
   rwa [Nat.zero_mul]at this)
  exact this
 |panicked chain=>exact h3.elim
 |outgrown=>exact h3.elim
end Go.Ab
set_option linter.unusedVariables false
set_option linter.unusedSimpArgs false
namespace Go.Ab
open Go Go.RowKit
variable {D:List Deferred}
abbrev aI(i:Int):AV:=.v (.int .i64 i)
abbrev aB(b:Bool):AV:=.v (.bool b)
def aL{α:Type}(f:α→AV)(l:List α):AV:=.l (l.map fun x=>[f x])
def AnsAt(P:Program)(f:FuncId)(args:List AV)(S:Store)(r:AV):Prop:=ACalls P f args S (fun e S'=>e = .ret r∧S'=S)
def Ans(P:Program)(f:FuncId)(args:List AV)(r:AV):Prop:=∀ S,ACalls P f args S (fun e S'=>e = .ret r∧S'=S)
theorem callF_ans{P:Program}{f:FuncId}{args:List AV}{r:AV}(h:Ans P f args r){S:Store}{Q:AEnd→Store→Prop}{K:AV→Store→Prop}(k:K r S):callF P f args S Q K:=
 .inl ((h S).mono fun e S' h=>by obtain⟨rfl,rfl⟩:=h;exact k)
theorem callF_at{P:Program}{f:FuncId}{args:List AV}{r:AV}{S:Store}(h:AnsAt P f args S r){Q:AEnd→Store→Prop}{K:AV→Store→Prop}(k:K r S):callF P f args S Q K:=
 .inl (ACalls.mono h fun e S' h=>by obtain⟨rfl,rfl⟩:=h;exact k)
theorem callV_at{P:Program}{f:FuncId}{fs args cs:List AV}{r:AV}{S:Store}(h:AnsAt P f (fs++args++cs) S r){K X:AV→Store→Prop}(k:K r S):callV P (.f (.func f) fs cs) args S K X:=
 .inl (ACalls.mono h fun e S' h=>by obtain⟨rfl,rfl⟩:=h;exact k)
theorem callV_ans{P:Program}{f:FuncId}{fs args cs:List AV}{r:AV}(h:Ans P f (fs++args++cs) r){S:Store}{K X:AV→Store→Prop}(k:K r S):callV P (.f (.func f) fs cs) args S K X:=
 .inl ((h S).mono fun e S' h=>by obtain⟨rfl,rfl⟩:=h;exact k)
theorem gd_of{b:Bool}{A B:Prop}(h1:b=true→A)(h2:b=false→B):gd b A B:=by cases b<;>simp_all [gd]
theorem onB_of{b:Bool}{K:Bool→Prop}(h:K b):onB (.v (.bool b)) K:=h
section
variable {S:Store} {K:AV→Store→Prop}
@[simp] theorem onB_v(b:Bool)(K:Bool→Prop):onB (.v (.bool b)) K=K b:=rfl
@[simp] theorem lenS_l(es:List (List AV)):lenS (.l es) S K=K (.v (.int .i64 es.length)) S:=rfl
@[simp] theorem lenS_s(id b n:Nat):lenS (.s id b n) S K=K (.v (.int .i64 n)) S:=rfl
@[simp] theorem lenS_nl:lenS .nl S K=K (.v (.int .i64 0)) S:=rfl
@[simp] theorem lenS_aL{α:Type}(f:α→AV)(l:List α):lenS (aL f l) S K=K (.v (.int .i64 l.length)) S:=by simp[aL]
@[simp] theorem ld1_q(u:AV):ld1 (.q [u] 0) S K=K u S:=by simp[ld1,rd1,place]
theorem ixS_aL{α:Type}{f:α→AV}{l:List α}{e:Nat}{i:Nat}(h:i<l.length):ixS e 1 (aL f l) (.v (.int .i64 i)) S K=K (.q [f l[i]] 0) S:=by
 have:(i:Int)<l.length:=by omega
 simp[ixS,intA,aL,h,this]
@[simp] theorem bin_lss(k:IntKind)(a b:Int)(kd:Nat):bin .lss kd (.v (.int k a)) (.v (.int k b)) S K=K (.v (.bool (decide (a<b)))) S:=by simp[bin,b2,isSh,cmpI]
@[simp] theorem bin_leq(k:IntKind)(a b:Int)(kd:Nat):bin .leq kd (.v (.int k a)) (.v (.int k b)) S K=K (.v (.bool (decide (a≤b)))) S:=by simp[bin,b2,isSh,cmpI]
@[simp] theorem bin_gtr(k:IntKind)(a b:Int)(kd:Nat):bin .gtr kd (.v (.int k a)) (.v (.int k b)) S K=K (.v (.bool (decide (b<a)))) S:=by simp[bin,b2,isSh,cmpI]
@[simp] theorem bin_geq(k:IntKind)(a b:Int)(kd:Nat):bin .geq kd (.v (.int k a)) (.v (.int k b)) S K=K (.v (.bool (decide (b≤a)))) S:=by simp[bin,b2,isSh,cmpI]
@[simp] theorem bin_eql(k:IntKind)(a b:Int)(kd:Nat):bin .eql kd (.v (.int k a)) (.v (.int k b)) S K=K (.v (.bool (decide (a=b)))) S:=by
 simp only[bin,b2,isSh,cmpI,optP_some,if_true,Bool.false_eq_true,if_false];rfl
@[simp] theorem bin_neq(k:IntKind)(a b:Int)(kd:Nat):bin .neq kd (.v (.int k a)) (.v (.int k b)) S K=K (.v (.bool (!decide (a=b)))) S:=by
 simp only[bin,b2,isSh,cmpI,optP_some,if_true,Bool.false_eq_true,if_false];rfl
@[simp] theorem bin_eqlB(a b:Bool):bin .eql 1 (.v (.bool a)) (.v (.bool b)) S K=K (.v (.bool (a == b))) S:=by simp[bin,b2]
@[simp] theorem bin_neqB(a b:Bool):bin .neq 1 (.v (.bool a)) (.v (.bool b)) S K=K (.v (.bool (a != b))) S:=by
 simp only[bin,b2,if_true,optP_some];rfl
theorem wrap64{n:Int}(h:-9223372036854775808≤n)(h':n≤9223372036854775807):IntKind.i64.wrap n=n:=by
 rw[IntKind.wrap_i64];omega
theorem bin_add{a b:Int}(h:-9223372036854775808≤a+b)(h':a+b≤9223372036854775807)(kd:Nat):bin .add kd (.v (.int .i64 a)) (.v (.int .i64 b)) S K=K (.v (.int .i64 (a+b))) S:=by
 simp[bin,b2,isSh,cmpI,ariI,wrap64 h h']
@[simp] theorem un_not(b:Bool):un .not (.v (.bool b)) S K=K (.v (.bool !b)) S:=rfl
end
section
variable {S:Store} {K:AV→Store→Prop}
@[simp] theorem new_n(o:AObj):(S.new o).n=S.n+1:=rfl
@[simp] theorem upd_n(i:Nat)(o:AObj):(S.upd i o).n=S.n:=rfl
@[simp] theorem kill_n(i:Nat):(S.kill i).n=S.n:=rfl
theorem new_obj(o:AObj)(i:Nat):(S.new o).obj i=if i=S.n then some o else S.obj i:=rfl
theorem upd_obj(j:Nat)(o:AObj)(i:Nat):(S.upd j o).obj i=if i=j then some o else S.obj i:=rfl
@[simp] theorem new_self(o:AObj):(S.new o).obj S.n=some o:=by simp[new_obj]
@[simp] theorem upd_self(j:Nat)(o:AObj):(S.upd j o).obj j=some o:=by simp[upd_obj]
theorem new_lt{o:AObj}{i:Nat}(h:i<S.n):(S.new o).obj i=S.obj i:=by rw[new_obj,if_neg (by omega)]
theorem upd_ne{j:Nat}{o:AObj}{i:Nat}(h:i≠j):(S.upd j o).obj i=S.obj i:=by rw[upd_obj,if_neg h]
theorem boxN_a(t:Nat)(cs:List AV):boxN t cs.length (.a cs) S K=K (.p S.n 0 0) (S.new (.cells t [cs] true)):=by simp[boxN,cellsOf]
theorem boxN_1{t:Nat}{u:AV}(h:u.one=true):boxN t 1 u S K=K (.p S.n 0 0) (S.new (.cells t [[u]] true)):=by
 have:cellsOf u=some [u]:=by cases u<;>first|rfl|(simp[AV.one]at h;simp[cellsOf,AV.one,h];done)|(simp[AV.one]at h)
 simp[boxN,this]
theorem ldN_p{id t n:Nat}{cs:List AV}{l:Bool}(h:S.obj id=some (.cells t [cs] l))(hn:cs.length=n):ldN n (.p id 0 0) S K=K (.a cs) S:=by
 subst hn
 simp[ldN,rdN,place,Store.get,h]
theorem ld1_p{id i j t:Nat}{es:List (List AV)}{c:List AV}{u:AV}{l:Bool}(h:S.obj id=some (.cells t es l))(hi:es[i]? = some c)(hj:c[j]? = some u):ld1 (.p id i j) S K=K u S:=by
 simp[ld1,rd1,place,Store.get,h,hi,hj]
@[simp] theorem shift_p(id i j n:Nat):shift (.p id i j) n S K=K (.p id i (j+n)) S:=rfl
theorem stN_p{id i t:Nat}{es:List (List AV)}{u0 u:AV}(h:S.obj id=some (.cells t es true))(hi:es[i]? = some [u0])(hu:u.one=true):stN 1 (.p id i 0) u S K=K .j (S.upd id (.cells t (es.set i [u]) true)):=by
 have:cellsOf u=some [u]:=by cases u<;>first|rfl|(simp[AV.one]at hu;simp[cellsOf,AV.one,hu];done)|(simp[AV.one]at hu)
 simp[stN,stS,this,h,hi,spl]
theorem stN_a{id t n:Nat}{cs cs':List AV}(h:S.obj id=some (.cells t [cs] true))(hn:cs'.length=n)(hl:cs.length=n):stN n (.p id 0 0) (.a cs') S K=K .j (S.upd id (.cells t [cs'] true)):=by
 subst hn
 have:cs.drop cs'.length = []:=List.drop_eq_nil_of_le (by omega)
 simp[stN,stS,cellsOf,h,spl,hl,this]
theorem ixS_s{e sz id b n i:Nat}{es:List (List AV)}{l:Bool}(hi:i<n)(h:S.obj id=some (.cells e es l)):ixS e sz (.s id b n) (.v (.int .i64 i)) S K=K (.p id (b+i) 0) S:=by
 have:(i:Int)<n:=by omega
 simp[ixS,intA,Store.ty,h,this]
theorem mkN_n{e b n:Nat}{zc:List AV}(hb:b*n≤281474976710656)(hn:n≤9223372036854775807):mkN e b zc (.v (.int .i64 n)) (.v (.int .i64 n)) S K=K (.s S.n 0 n) (S.new (.cells e (List.replicate n zc) true)):=by
 have h1:(b:Int)*n≤281474976710656:=by
  have h:=Int.ofNat_le.2 hb
  rw[Int.natCast_mul]at h
  omega
 have h2:(n:Int)≤9223372036854775807:=by omega
 have h0:(0:Int)≤n:=by omega
 simp only[mkN,intA,optP_some,h0,h1,h2,Int.le_refl,Int.toNat_natCast,and_self,true_and]
end
section
variable {S:Store} {K:AV→Store→Prop}
theorem boxA_of{t n:Nat}{cs:List AV}(hn:cs.length=n)(k:∀ S',Keep S S'→S'.n=S.n+1→S'.obj S.n=some (.cells t [cs] true)→K (.p S.n 0 0) S'):boxN t n (.a cs) S K:=by
 subst hn
 rw[boxN_a]
 exact k _ ((Keep.refl S).new _) rfl (new_self _)
theorem box1_of{t:Nat}{u:AV}(h:u.one=true)(k:∀ S',Keep S S'→S'.n=S.n+1→S'.obj S.n=some (.cells t [[u]] true)→K (.p S.n 0 0) S'):boxN t 1 u S K:=by
 rw[boxN_1 h]
 exact k _ ((Keep.refl S).new _) rfl (new_self _)
theorem mk_of{e b n:Nat}{zc:List AV}(hb:b*n≤281474976710656)(hn:n≤9223372036854775807)(k:∀ S',Keep S S'→S'.n=S.n+1→S'.obj S.n=some (.cells e (List.replicate n zc) true)→K (.s S.n 0 n) S'):mkN e b zc (.v (.int .i64 n)) (.v (.int .i64 n)) S K:=by
 rw[mkN_n hb hn]
 exact k _ ((Keep.refl S).new _) rfl (new_self _)
theorem st_of{id i t:Nat}{es:List (List AV)}{u0 u:AV}(h:S.obj id=some (.cells t es true))(hi:es[i]? = some [u0])(hu:u.one=true)(k:∀ S',S'.n=S.n→S'.obj id=some (.cells t (es.set i [u]) true)→(∀ x,x≠id→S'.obj x=S.obj x)→K .j S'):stN 1 (.p id i 0) u S K:=by
 rw[stN_p h hi hu]
 exact k _ rfl (upd_self _ _) (fun x hx=>upd_ne hx)
theorem stA_of{id t n:Nat}{cs cs':List AV}(h:S.obj id=some (.cells t [cs] true))(hn:cs'.length=n)(hl:cs.length=n)(k:∀ S',S'.n=S.n→S'.obj id=some (.cells t [cs'] true)→(∀ x,x≠id→S'.obj x=S.obj x)→K .j S'):stN n (.p id 0 0) (.a cs') S K:=by
 rw[stN_a h hn hl]
 exact k _ rfl (upd_self _ _) (fun x hx=>upd_ne hx)
end
theorem Keep.st{S0 S S':Store}(h:Keep S0 S){id:Nat}(hid:S0.n≤id)(hn:S'.n=S.n)(ho:∀ x,x≠id→S'.obj x=S.obj x):Keep S0 S':=
 ⟨by rw[hn];exact h.1,fun i hi=>by rw[ho i (by omega)];exact h.2 i hi⟩
theorem Keep.new'{S0 S:Store}(h:Keep S0 S)(o:AObj):Keep S0 (S.new o):=h.new o
theorem ACalls.ans_v{P:Program}{fn:FuncId}{args:List AV}{S:Store}{x:Value}(h:ACalls P fn args S (fun r S'=>r = .ret (.v x)∧Keep S S')):AnsAt P fn args S (.v x):=
 ACalls.tree (ACalls.mono h fun r S' ⟨h1,h2⟩=>⟨_,h1,h2,.v _⟩)
theorem cells_of_one{u:AV}(hu:u.one=true):cellsOf u=some [u]:=by
 cases u<;>first|rfl|(simp[AV.one]at hu;simp[cellsOf,AV.one,hu];done)|(simp[AV.one]at hu)
theorem bsl2{e:Nat}{z u v:AV}{S:Store}{K:AV→Store→Prop}(hu:u.one=true)(hv:v.one=true)(k:K (.l [[u],[v]]) S):bslN e 1 2 [z] [(0,u),(1,v)] S K:=by
 refine⟨[u,v],?_,.inr ?_⟩
 ·simp[fillA,cells_of_one hu,cells_of_one hv,spl,List.range_succ]
 ·simpa[chunks,List.range_succ]using k
def Own(n:Nat)(S:Store)(x:AV)(e:Nat)(es:List (List AV)):Prop:=
 (x = .nl∧es = [])∨∃ id,x = .s id 0 es.length∧n≤id∧id<S.n∧S.obj id=some (.cells e es true)
theorem Own.nl(n:Nat)(S:Store)(e:Nat):Own n S .nl e []:=.inl ⟨rfl,rfl⟩
theorem Own.len{n:Nat}{S:Store}{x:AV}{e:Nat}{es:List (List AV)}(h:Own n S x e es){K:AV→Store→Prop}:lenS x S K=K (.v (.int .i64 es.length)) S:=by
 rcases h with⟨rfl,rfl⟩|⟨id,rfl,_,_,_⟩<;>rfl
theorem Own.isSl{n:Nat}{S:Store}{x:AV}{e:Nat}{es:List (List AV)}(h:Own n S x e es):isSlA x=true:=by
 rcases h with⟨rfl,rfl⟩|⟨id,rfl,_,_,_⟩<;>rfl
def But(S S':Store)(x:AV):Prop:=S.n≤S'.n∧∀ i,i<S.n→(∀ b n,x≠.s i b n)→S'.obj i=S.obj i
theorem Own.but{n:Nat}{S S':Store}{x y:AV}{e:Nat}{es:List (List AV)}(h:Own n S y e es)(hb:But S S' x)(hx:∀ i b m b' m',x = .s i b m→y≠.s i b' m'):Own n S' y e es:=by
 rcases h with⟨rfl,rfl⟩|⟨id,rfl,h1,h2,h3⟩
 ·exact .nl _ _ _
 ·exact .inr ⟨id,rfl,h1,Nat.lt_of_lt_of_le h2 hb.1,by rw[hb.2 id h2 (fun b m hq=>hx id b m _ _ hq rfl)];exact h3⟩
theorem Own.keep{n:Nat}{S S':Store}{x:AV}{e:Nat}{es:List (List AV)}(h:Own n S x e es){S0:Store}(hn:S0.n≤n)(hb:But S S' x)(k:Keep S0 S):Keep S0 S':=by
 refine⟨Nat.le_trans k.1 hb.1,fun i hi=>?_⟩
 rw[hb.2 i (Nat.lt_of_lt_of_le hi k.1) (fun b m hq=>?_)]
 ·exact k.2 i hi
 ·rcases h with⟨rfl,rfl⟩|⟨id,rfl,h1,h2,h3⟩
  ·cases hq
  ·cases hq
   omega
theorem Own.app{n:Nat}{S:Store}{x:AV}{e sz b:Nat}{es:List (List AV)}(h:Own n S x e es)(hn:n≤S.n){c:List AV}{K:AV→Store→Prop}(hc:c.length=sz)(hb:(es.length+1)*b≤140737488355328)
    (k:∀ x' S',Own n S' x' e (es ++ [c])→But S S' x→(∃ m,x' = .s S.n 0 m)→K x' S') {y:AV} (hy:srcE S y=some [c]):appS e sz b x y S K:=by
 refine⟨h.isSl,[c],hy,by simpa using hc,?_⟩
 rcases h with⟨rfl,rfl⟩|⟨id,rfl,h1,h2,h3⟩
 ·refine⟨by simpa using hb,k _ _ (.inr ⟨S.n,rfl,hn,Nat.lt_succ_self _,by simp[Store.new]⟩) ⟨Nat.le_succ _,fun i hi _=>?_⟩ ⟨_,rfl⟩⟩
  simp only[Store.new];rw[if_neg (by omega)]
 ·simp only[appE,h3]
  refine⟨⟨trivial,trivial,by simpa using hb⟩,k _ _ (.inr ⟨S.n,by simp,hn,Nat.lt_succ_self _,by simp[Store.new,Store.kill]⟩) ⟨Nat.le_succ _,fun i hi hne=>?_⟩ ⟨_,rfl⟩⟩
  have e1:i≠S.n:=by omega
  have e2:i≠id:=fun hq=>hne 0 es.length (by rw[hq])
  simp[Store.new,Store.kill,e1,e2]
theorem Own.ix{n:Nat}{S:Store}{x:AV}{e:Nat}{es:List (List AV)}(h:Own n S x e es){i:Nat}(hi:i<es.length):∃ id,x = .s id 0 es.length∧n≤id∧id<S.n∧S.obj id=some (.cells e es true):=by
 rcases h with⟨rfl,rfl⟩|h
 ·simp at hi
 ·exact h
theorem Own.low{n n':Nat}{S:Store}{x:AV}{e:Nat}{es:List (List AV)}(h:Own n S x e es)(hn:n'≤n):Own n' S x e es:=by
 rcases h with h|⟨id,h1,h2,h3,h4⟩
 ·exact .inl h
 ·exact .inr ⟨id,h1,by omega,h3,h4⟩
theorem Own.same{n:Nat}{S S':Store}{x:AV}{e:Nat}{es:List (List AV)}(h:Own n S x e es)(hn:S.n≤S'.n)(ho:∀ i,n≤i→i<S.n→S'.obj i=S.obj i):Own n S' x e es:=by
 rcases h with h|⟨id,h1,h2,h3,h4⟩
 ·exact .inl h
 ·exact .inr ⟨id,h1,h2,by omega,by rw[ho id h2 h3];exact h4⟩
theorem Own.st{n:Nat}{S S':Store}{x:AV}{e:Nat}{es:List (List AV)}(h:Own n S x e es){id:Nat}(hx:∀ b m,x≠.s id b m)(hn:S'.n=S.n)(ho:∀ i,i≠id→S'.obj i=S.obj i):Own n S' x e es:=by
 rcases h with h|⟨id',h1,h2,h3,h4⟩
 ·exact .inl h
 ·exact .inr ⟨id',h1,h2,by omega,by rw[ho id' (fun e=>hx _ _ (by rw[h1,e]))];exact h4⟩
theorem Own.lt{n:Nat}{S:Store}{x:AV}{e:Nat}{es:List (List AV)}(h:Own n S x e es){i b m:Nat}(hx:x = .s i b m):n≤i∧i<S.n:=by
 rcases h with⟨h,_⟩|⟨id',h1,h2,h3,h4⟩
 ·rw[h]at hx;cases hx
 ·rw[h1]at hx;cases hx;exact⟨h2,h3⟩
def Apart(x y:AV):Prop:=∀ i b m b' m',x = .s i b m→y≠.s i b' m'
theorem bsl1{e:Nat}{z u:AV}{S:Store}{K:AV→Store→Prop}(hu:u.one=true)(hA:∀ cs,u≠.a cs)(k:K (.l [[u]]) S):bslN e 1 1 [z] [(0,u)] S K:=by
 refine⟨[u],?_,.inr ?_⟩
 ·have:cellsOf u=some [u]:=by cases u<;>first|rfl|(simp[AV.one]at hu;simp[cellsOf,AV.one,hu];done)|(simp[AV.one]at hu)|(simp[cellsOf,hu])
  simp[fillA,this,spl]
 ·simpa[chunks]using k
theorem Own.cv{n:Nat}{S:Store}{x:AV}{e:Nat}{es es2:List (List AV)}(h:Own n S x e es){m:Nat}(hm:n=m)(hl:es.length=es2.length)(hc:∀(i:Nat) (c c2:List AV),es[i]? = some c→es2[i]? = some c2→c.length=c2.length∧∀(k:Nat) (u u2:AV),c[k]? = some u→c2[k]? = some u2→Cv (S.frz (newer n)) m u u2):Cv (S.frz (newer n)) m x (.l es2):=by
 rcases h with⟨rfl,rfl⟩|⟨id,rfl,h1,h2,h3⟩
 ·have:es2 = []:=List.eq_nil_of_length_eq_zero hl.symm
  subst this
  exact .nl
 ·refine .s id 0 es.length e es es2 ?_ (by simp) hl.symm (fun i c c2 hi hi2=>(hc i c c2 (by simpa using hi) hi2).1) (fun i c c2 k u u2 hi hi2 hk hk2=>(hc i c c2 (by simpa using hi) hi2).2 k u u2 hk hk2)
  rw[frz_of h3]
  have:newer n id=true:=by simp[newer,h1]
  simp[this]
theorem Own.cv_v{α:Type}{f:α→Value}{n:Nat}{S:Store}{x:AV}{e:Nat}{l:List α}(h:Own n S x e (l.map fun a=>[.v (f a)])):Cv (S.frz (newer n)) n x (aL (fun a=>.v (f a)) l):=
 h.cv rfl rfl (fun i c c2 hi hi2=>by
  rw[hi]at hi2
  cases hi2
  refine⟨rfl,fun k u u2 hk hk2=>?_⟩
  rw[hk]at hk2
  cases hk2
  rw[List.getElem?_map]at hi
  obtain⟨a,_,rfl⟩:=Option.map_eq_some_iff.1 hi
  cases k with
  |zero=>cases hk;exact .v _
  |succ k=>simp at hk)
theorem ACalls.ans_own{α:Type}{f:α→Value}{P:Program}{fn:FuncId}{args:List AV}{e:Nat}{l:List α}(h:∀ S,ACalls P fn args S (fun r S'=>∃ x,r = .ret x∧Keep S S'∧Own S.n S' x e (l.map fun a=>[.v (f a)]))):Ans P fn args (aL (fun a=>.v (f a)) l):=
 fun S=>ACalls.tree ((h S).mono fun r S' ⟨x,h1,h2,h3⟩=>⟨x,h1,h2,h3.cv_v⟩)
theorem cv_aL{α:Type}{f:α→Value}{S:Store}{n:Nat}(l:List α):Cv S n (aL (fun a=>.v (f a)) l) (aL (fun a=>.v (f a)) l):=by
 refine .l _ _ rfl (fun i c c2 h h2=>by rw[h]at h2;cases h2;rfl) (fun i c c2 k u u2 h h2 hk hk2=>?_)
 rw[h]at h2
 cases h2
 rw[hk]at hk2
 cases hk2
 rw[List.getElem?_map]at h
 obtain⟨a,_,rfl⟩:=Option.map_eq_some_iff.1 h
 cases k with
 |zero=>cases hk;exact .v _
 |succ k=>simp at hk
theorem ACalls.ans_aL{α:Type}{f:α→Value}{P:Program}{fn:FuncId}{args:List AV}{S:Store}{l:List α}(h:ACalls P fn args S (fun r S'=>r = .ret (aL (fun a=>.v (f a)) l)∧Keep S S')):AnsAt P fn args S (aL (fun a=>.v (f a)) l):=
 ACalls.tree (ACalls.mono h fun r S' ⟨h1,h2⟩=>⟨_,h1,h2,cv_aL l⟩)
theorem cv_g{α:Type}{f:α→AV}{S:Store}{n:Nat}(l:List α)(h:∀ a∈l,Cv S n (f a) (f a)):Cv S n (aL f l) (aL f l):=by
 refine .l _ _ rfl (fun i c c2 h h2=>by rw[h]at h2;cases h2;rfl) (fun i c c2 k u u2 h1 h2 hk hk2=>?_)
 rw[h1]at h2
 cases h2
 rw[hk]at hk2
 cases hk2
 rw[List.getElem?_map]at h1
 obtain⟨a,ha,rfl⟩:=Option.map_eq_some_iff.1 h1
 cases k with
 |zero=>cases hk;exact h a (List.mem_of_getElem? ha)
 |succ k=>simp at hk
theorem frz_none(S:Store):S.frz (fun _=>false)=S:=by
 cases S with
 |mk n obj =>
  simp only[Store.frz]
  congr
  funext i
  cases hq:obj i with
  |none=>rfl
  |some o=>simp[frz_id]
theorem ACalls.conv{P:Program}{f:FuncId}{args args2:List AV}{S:Store}{Q:AEnd→Store→Prop}(hl:args.length=args2.length)
    (hcv:∀(k:Nat) (u u2:AV),args[k]? = some u→args2[k]? = some u2→Cv S S.n u u2) (h:ACalls P f args2 S Q):ACalls P f args S Q:=
 ACalls.frz (fun _=>false) hl (by rw[frz_none];exact hcv) (by rw[frz_none];exact h)
def avB:AV→List Bool
 |.l es=>es.map fun c=>match c with|[.v (.bool b)]=>b|_=>false
 |_=>[]
@[simp] theorem avB_aL(l:List Bool):avB (aL aB l)=l:=by
 simp[avB,aL,Function.comp_def]
end Go.Ab
set_option linter.unusedVariables false
set_option linter.unusedSimpArgs false
namespace Go.Ab
open Go Go.RowKit
variable {D:List Deferred}
open Classical in
noncomputable def Store.on (S:Store) (F:Nat→Prop):Store:=⟨S.n,fun i=>if F i then S.obj i else none⟩
theorem on_obj{S:Store}{F:Nat→Prop}{i:Nat}{o:AObj}(h:(S.on F).obj i=some o):F i∧S.obj i=some o:=by
 simp only[Store.on]at h
 split at h
 ·rename_i hf;exact⟨hf,h⟩
 ·cases h
theorem on_of{S:Store}{F:Nat→Prop}{i:Nat}(h:F i):(S.on F).obj i=S.obj i:=by simp[Store.on,h]
theorem Cv.sub{S S':Store}{n:Nat}{x t:AV}(h:Cv S n x t)(hs:∀ i o,S.obj i=some o→S'.obj i=some o):Cv S' n x t:=by
 induction h with
 |v x=>exact .v x
 |nl=>exact .nl
 |nl'=>exact .nl'
 |p id i j h=>exact .p id i j h
 |s' id b m h=>exact .s' id b m h
 |s id b m t es es2 ho hb hl hc hR ih=>exact .s id b m t es es2 (hs _ _ ho) hb hl hc ih
 |l es es2 hl hc hR ih=>exact .l es es2 hl hc ih
 |q c c2 j hl hR ih=>exact .q c c2 j hl ih
 |f fn fs cs fs2 cs2 hl hl2 hR hR2 ih1 ih2=>exact .f fn fs cs fs2 cs2 hl hl2 ih1 ih2
 |a cs cs2 hl hR ih=>exact .a cs cs2 hl ih
 |t cs cs2 hl hR ih=>exact .t cs cs2 hl ih
 |i t x x2 h ih=>exact .i t x x2 ih
 |m id h=>exact .m id h
 |m' id kk es es2 ho hl hk hR ih=>exact .m' id kk es es2 (hs _ _ ho) hl hk ih
 |mt kk es es2 hl hk hR ih=>exact .mt kk es es2 hl hk ih
 |j=>exact .j
 |pq id i j t es c c2 ho hi hl hR ih=>exact .pq id i j t es c c2 (hs _ _ ho) hi hl ih
structure Deep (n:Nat) (F:Nat→Prop) (S:Store) (x t:AV):Prop where
 cv:Cv ((S.on F).frz (newer n)) n x t
 fp:∀ i,F i→n≤i∧i<S.n
theorem frz_sub{S S':Store}{D:Nat→Bool}(h:∀ i o,S.obj i=some o→S'.obj i=some o):∀ i o,(S.frz D).obj i=some o→(S'.frz D).obj i=some o:=by
 intro i o ho
 obtain⟨o0,h1,rfl⟩:=frz_ob ho
 simp[Store.frz,h _ _ h1]
theorem Deep.toCv{n:Nat}{F:Nat→Prop}{S:Store}{x t:AV}(h:Deep n F S x t):Cv (S.frz (newer n)) n x t:=
 h.cv.sub (frz_sub fun i o ho=>(on_obj ho).2)
theorem cv_on{n:Nat}{F:Nat→Prop}{S S':Store}{x t:AV}(h:Cv ((S.on F).frz (newer n)) n x t)(ho:∀ i,F i→S'.obj i=S.obj i):Cv ((S'.on F).frz (newer n)) n x t:=
 h.sub (frz_sub fun i o hi=>by
  obtain⟨h1,h2⟩:=on_obj hi
  rw[on_of h1,ho i h1];exact h2)
theorem cv_or{n:Nat}{F G:Nat→Prop}{S:Store}{x t:AV}(h:Cv ((S.on F).frz (newer n)) n x t)(hG:∀ i,F i→G i):Cv ((S.on G).frz (newer n)) n x t:=
 h.sub (frz_sub fun i o hi=>by
  obtain⟨h1,h2⟩:=on_obj hi
  rw[on_of (hG i h1)];exact h2)
theorem Deep.frame{n:Nat}{F:Nat→Prop}{S S':Store}{x t:AV}(h:Deep n F S x t)(hn:S.n≤S'.n)(ho:∀ i,F i→S'.obj i=S.obj i):Deep n F S' x t:=
 ⟨cv_on h.cv ho,fun i hi=>⟨(h.fp i hi).1,Nat.lt_of_lt_of_le (h.fp i hi).2 hn⟩⟩
theorem Deep.or{n:Nat}{F G:Nat→Prop}{S:Store}{x t:AV}(h:Deep n F S x t)(hG:∀ i,F i→G i)(hb:∀ i,G i→n≤i∧i<S.n):Deep n G S x t:=⟨cv_or h.cv hG,hb⟩
def Tree(t:AV):Prop:=∀(S:Store) (n:Nat),Cv S n t t
theorem Tree.v(x:Value):Tree (.v x):=fun _ _=>.v x
theorem Tree.l{es:List (List AV)}(h:∀ c∈es,∀ u∈c,Tree u):Tree (.l es):=fun S n =>
 .l _ _ rfl (fun i c c2 h1 h2=>by rw[h1]at h2;cases h2;rfl) (fun i c c2 k u u2 h1 h2 h3 h4=>by
  rw[h1]at h2;cases h2
  rw[h3]at h4;cases h4
  exact h c (List.mem_of_getElem? h1) u (List.mem_of_getElem? h3) S n)
theorem Tree.a{cs:List AV}(h:∀ u∈cs,Tree u):Tree (.a cs):=fun S n =>
 .a _ _ rfl (fun k u u2 h3 h4=>by rw[h3]at h4;cases h4;exact h u (List.mem_of_getElem? h3) S n)
theorem Tree.aL{α:Type}{f:α→AV}{l:List α}(h:∀ a∈l,Tree (f a)):Tree (aL f l):=Tree.l fun c hc u hu=>by
 obtain⟨a,ha,rfl⟩:=List.mem_map.1 hc
 obtain rfl:=List.mem_singleton.1 hu
 exact h a ha
theorem treeB(l:List Bool):Tree (aL aB l):=Tree.aL fun _ _=>Tree.v _
theorem treeI(l:List Int):Tree (aL aI l):=Tree.aL fun _ _=>Tree.v _
theorem Deep.tree{n:Nat}{S:Store}{t:AV}(h:Tree t):Deep n (fun _=>False) S t t:=⟨h _ _,fun _ h=>h.elim⟩
structure LOwn (n:Nat) (F:Nat→Prop) (S:Store) (y:AV) (e:Nat) (ts:List (List AV)):Prop where
 fp:∀ i,F i→n≤i∧i<S.n
 no:∀ id b m,y = .s id b m→¬ F id
 row:∃ es,Own n S y e es∧es.length=ts.length∧∀(i:Nat) (c c2:List AV),es[i]? = some c→ts[i]? = some c2→c.length=c2.length∧∀(k:Nat) (u u2:AV),c[k]? = some u→c2[k]? = some u2→Cv ((S.on F).frz (newer n)) n u u2
theorem LOwn.nl{n:Nat}{S:Store}{e:Nat}:LOwn n (fun _=>False) S .nl e []:=⟨fun _ h=>h.elim,fun _ _ _ h=>(by cases h),[],Own.nl _ _ _,rfl,fun i c c2 h=>(by simp at h)⟩
def idOf(y:AV)(i:Nat):Prop:=∃ b m,y = .s i b m
theorem LOwn.deep{n:Nat}{F:Nat→Prop}{S:Store}{y:AV}{e:Nat}{ts:List (List AV)}(h:LOwn n F S y e ts):Deep n (fun i=>F i∨idOf y i) S y (.l ts):=by
 obtain⟨hfp,hno,es,hown,hl,hel⟩:=h
 rcases hown with⟨rfl,rfl⟩|⟨id,rfl,h1,h2,h3⟩
 ·have:ts = []:=List.eq_nil_of_length_eq_zero hl.symm
  subst this
  exact⟨.nl,fun i hi=>by rcases hi with hi|⟨b,m,hi⟩;exact hfp i hi;cases hi⟩
 ·refine⟨.s id 0 es.length e es ts ?_ (by simp) hl.symm (fun i c c2 hi hi2=>(hel i c c2 (by simpa using hi) hi2).1) (fun i c c2 k u u2 hi hi2 hk hk2=>cv_or ((hel i c c2 (by simpa using hi) hi2).2 k u u2 hk hk2) fun i hi=>.inl hi),fun i hi=>?_⟩
  ·have:((S.on (fun i=>F i∨idOf (.s id 0 es.length) i))).obj id=some (.cells e es true):=by rw[on_of (.inr ⟨_,_,rfl⟩)];exact h3
   rw[frz_of this]
   have:newer n id=true:=by simp[newer,h1]
   simp[this]
  ·rcases hi with hi|⟨b,m,hi⟩
   ·exact hfp i hi
   ·cases hi;exact⟨h1,h2⟩
theorem LOwn.len{n:Nat}{F:Nat→Prop}{S:Store}{y:AV}{e:Nat}{ts:List (List AV)}(h:LOwn n F S y e ts){K:AV→Store→Prop}:lenS y S K=K (.v (.int .i64 ts.length)) S:=by
 obtain⟨es,hown,hl,_⟩:=h.row
 rw[hown.len,hl]
theorem LOwn.frame{n:Nat}{F:Nat→Prop}{S S':Store}{y:AV}{e:Nat}{ts:List (List AV)}(h:LOwn n F S y e ts)(hn:S.n≤S'.n)(ho:∀ i,F i∨idOf y i→S'.obj i=S.obj i):LOwn n F S' y e ts:=by
 obtain⟨hfp,hno,es,hown,hl,hel⟩:=h
 refine⟨fun i hi=>⟨(hfp i hi).1,Nat.lt_of_lt_of_le (hfp i hi).2 hn⟩,hno,es,?_,hl,fun i c c2 h1 h2=>⟨(hel i c c2 h1 h2).1,fun k u u2 h3 h4=>cv_on ((hel i c c2 h1 h2).2 k u u2 h3 h4) fun i hi=>ho i (.inl hi)⟩⟩
 rcases hown with h|⟨id,rfl,h1,h2,h3⟩
 ·exact .inl h
 ·exact .inr ⟨id,rfl,h1,by omega,by rw[ho id (.inr ⟨_,_,rfl⟩)];exact h3⟩
theorem LOwn.or{n:Nat}{F G:Nat→Prop}{S:Store}{y:AV}{e:Nat}{ts:List (List AV)}(h:LOwn n F S y e ts)(hG:∀ i,F i→G i)(hb:∀ i,G i→n≤i∧i<S.n)(hno:∀ i,idOf y i→¬ G i):LOwn n G S y e ts:=by
 obtain⟨hfp,_,es,hown,hl,hel⟩:=h
 exact⟨hb,fun id b m hy=>hno id ⟨b,m,hy⟩,es,hown,hl,fun i c c2 h1 h2=>⟨(hel i c c2 h1 h2).1,fun k u u2 h3 h4=>cv_or ((hel i c c2 h1 h2).2 k u u2 h3 h4) hG⟩⟩
theorem LOwn.id_lt{n:Nat}{F:Nat→Prop}{S:Store}{y:AV}{e:Nat}{ts:List (List AV)}(h:LOwn n F S y e ts){i:Nat}(hi:idOf y i):n≤i∧i<S.n:=by
 obtain⟨b,m,hy⟩:=hi
 obtain⟨es,hown,_⟩:=h.row
 exact hown.lt hy
theorem LOwn.app{n:Nat}{F:Nat→Prop}{S:Store}{y:AV}{e sz b:Nat}{ts:List (List AV)}(h:LOwn n F S y e ts)(hn:n≤S.n){c c2:List AV}{K:AV→Store→Prop}(hc:c.length=sz)(hl:c.length=c2.length)
    (hel:∀(k:Nat) (u u2:AV),c[k]? = some u→c2[k]? = some u2→Cv ((S.on F).frz (newer n)) n u u2) (hb:(ts.length+1)*b≤140737488355328)
    {z:AV} (hz:srcE S z=some [c]) (k:∀ y' S',LOwn n F S' y' e (ts ++ [c2])→But S S' y→(∃ m,y' = .s S.n 0 m)→K y' S'):appS e sz b y z S K:=by
 obtain⟨hfp,hno,es,hown,hle,he⟩:=h
 refine hown.app hn hc (by rw[hle];exact hb) (fun y' S' ho hbut hid=>k y' S' ?_ hbut hid) hz
 have hsame:∀ i,F i→S'.obj i=S.obj i:=fun i hi=>hbut.2 i (hfp i hi).2 fun b m hy=>hno i b m hy hi
 refine⟨fun i hi=>⟨(hfp i hi).1,Nat.lt_of_lt_of_le (hfp i hi).2 hbut.1⟩,fun id b m hy hF=>?_,es ++ [c],ho,by simp[hle],fun i c' c2' h1 h2=>?_⟩
 ·obtain⟨m',hy'⟩:=hid
  rw[hy']at hy
  cases hy
  exact Nat.lt_irrefl _ (hfp _ hF).2
 ·by_cases hi:i<es.length
  ·rw[List.getElem?_append_left hi]at h1
   rw[List.getElem?_append_left (by omega)]at h2
   exact⟨(he i c' c2' h1 h2).1,fun k u u2 h3 h4=>cv_on ((he i c' c2' h1 h2).2 k u u2 h3 h4) hsame⟩
  ·rw[List.getElem?_append_right (by omega)]at h1
   rw[List.getElem?_append_right (by omega)]at h2
   have hlt:=(List.getElem?_eq_some_iff.1 h1).1
   have:i=es.length:=by simp at hlt;omega
   subst this
   rw[hle]at h2
   rw[Nat.sub_self]at h1
   simp at h1 h2
   subst h1
   subst h2
   exact⟨hl,fun k u u2 h3 h4=>cv_on (hel k u u2 h3 h4) hsame⟩
theorem LOwn.app1{n:Nat}{F:Nat→Prop}{S:Store}{y:AV}{e b:Nat}{ts:List (List AV)}(h:LOwn n F S y e ts)(hn:n≤S.n){u t:AV}{K:AV→Store→Prop}
    (hu:Cv ((S.on F).frz (newer n)) n u t) (hb:(ts.length+1)*b≤140737488355328)
    {z:AV} (hz:srcE S z=some [[u]]) (k:∀ y' S',LOwn n F S' y' e (ts ++ [[t]])→But S S' y→(∃ m,y' = .s S.n 0 m)→K y' S'):appS e 1 b y z S K:=
 h.app (c:=[u]) (c2:=[t]) hn rfl rfl (fun k u' u2 h1 h2=>by
  cases k with
  |zero=>cases h1;cases h2;exact hu
  |succ k=>simp at h1) hb hz k
theorem But.keep{S0 S S':Store}{y:AV}(h:But S S' y)(k:Keep S0 S)(hy:∀ i,idOf y i→S0.n≤i):Keep S0 S':=by
 refine⟨Nat.le_trans k.1 h.1,fun i hi=>?_⟩
 rw[h.2 i (Nat.lt_of_lt_of_le hi k.1) (fun b m e=>by have:=hy i ⟨b,m,e⟩;omega)]
 exact k.2 i hi
theorem But.obj{S S':Store}{y:AV}(h:But S S' y){i:Nat}(hi:i<S.n)(hy:¬ idOf y i):S'.obj i=S.obj i:=h.2 i hi fun b m e=>hy ⟨b,m,e⟩
theorem ACalls.ans_deep{P:Program}{fn:FuncId}{args:List AV}{S:Store}{t:AV}(h:ACalls P fn args S (fun r S'=>∃ x F,r = .ret x∧Keep S S'∧Deep S.n F S' x t)):AnsAt P fn args S t:=
 ACalls.tree (h.mono fun r S' ⟨x,F,h1,h2,h3⟩=>⟨x,h1,h2,h3.toCv⟩)
theorem Own.on{n:Nat}{S:Store}{x:AV}{e:Nat}{es:List (List AV)}(h:Own n S x e es){G:Nat→Prop}(hG:∀ i,idOf x i→G i):Own n (S.on G) x e es:=by
 rcases h with h|⟨id,rfl,h1,h2,h3⟩
 ·exact .inl h
 ·exact .inr ⟨id,rfl,h1,h2,by rw[on_of (hG id ⟨_,_,rfl⟩)];exact h3⟩
theorem Own.cvon{α:Type}{f:α→Value}{n:Nat}{S:Store}{x:AV}{e:Nat}{l:List α}(h:Own n S x e (l.map fun a=>[.v (f a)])){G:Nat→Prop}(hG:∀ i,idOf x i→G i):Cv ((S.on G).frz (newer n)) n x (aL (fun a=>.v (f a)) l):=
 (h.on hG).cv_v
theorem stF_of{S:Store}{K:AV→Store→Prop}{id t j:Nat}{cs:List AV}{u:AV}(h:S.obj id=some (.cells t [cs] true))(hj:j<cs.length)(hu:u.one=true)
    (k:∀ S',S'.n=S.n→S'.obj id=some (.cells t [cs.set j u] true)→(∀ x,x≠id→S'.obj x=S.obj x)→K .j S'):stN 1 (.p id 0 j) u S K:=by
 have hs:spl cs j [u]=cs.set j u:=by
  simp only[spl,List.length_singleton]
  rw[List.set_eq_take_append_cons_drop,if_pos hj]
  simp
 have h1:j + [u].length≤cs.length:=by simp;omega
 refine⟨[u],cells_of_one hu,rfl,?_⟩
 simp only[stS,h]
 simp only[List.getElem?_cons_zero,Option.bind_some,if_pos h1,hs,List.set_cons_zero]
 exact⟨_,rfl,k _ rfl (upd_self _ _) fun x hx=>upd_ne hx⟩
section
variable {S:Store} {K:AV→Store→Prop}
theorem bin_rem{a b:Int}(hb:b≠0)(k:IntKind)(kd:Nat):bin .rem kd (.v (.int k a)) (.v (.int k b)) S K=K (.v (.int k (a.tmod b))) S:=by
 simp[bin,b2,isSh,cmpI,ariI,hb]
theorem bin_quo{a b:Int}(hb:b≠0)(h1:-9223372036854775808≤a.tdiv b)(h2:a.tdiv b≤9223372036854775807)(kd:Nat):bin .quo kd (.v (.int .i64 a)) (.v (.int .i64 b)) S K=K (.v (.int .i64 (a.tdiv b))) S:=by
 simp[bin,b2,isSh,cmpI,ariI,hb,wrap64 h1 h2]
theorem bin_sub{a b:Int}(h:-9223372036854775808≤a - b)(h':a - b≤9223372036854775807)(kd:Nat):bin .sub kd (.v (.int .i64 a)) (.v (.int .i64 b)) S K=K (.v (.int .i64 (a - b))) S:=by
 simp[bin,b2,isSh,cmpI,ariI,wrap64 h h']
theorem bin_mul{a b:Int}(h:-9223372036854775808≤a*b)(h':a*b≤9223372036854775807)(kd:Nat):bin .mul kd (.v (.int .i64 a)) (.v (.int .i64 b)) S K=K (.v (.int .i64 (a*b))) S:=by
 simp[bin,b2,isSh,cmpI,ariI,wrap64 h h']
theorem bin_shr{a b:Int}(hb:0≤b)(k k':IntKind)(kd:Nat):bin .shr kd (.v (.int k a)) (.v (.int k' b)) S K=K (.v (.int k (a.fdiv (2 ^ min b.toNat k.bits)))) S:=by
 have:¬ b<0:=by omega
 simp[bin,b2,isSh,shI,this]
theorem convI_v(k k':IntKind)(a:Int):convI k (.v (.int k' a)) S K=K (.v (.int k (k.wrap a))) S:=rfl
theorem convI_64(k':IntKind){a:Int}(h:-9223372036854775808≤a)(h':a≤9223372036854775807):convI .i64 (.v (.int k' a)) S K=K (aI a) S:=by
 rw[convI_v,wrap64 h h']
theorem ixS_l{e sz i:Nat}{es:List (List AV)}(h:i<es.length)(hs:(es[i]).length=sz):ixS e sz (.l es) (.v (.int .i64 i)) S K=K (.q es[i] 0) S:=by
 have:(i:Int)<es.length:=by omega
 simp[ixS,intA,h,this,hs]
end
end Go.Ab
set_option linter.unusedVariables false
set_option linter.unusedSimpArgs false
namespace Go.Ab
open Go Go.RowKit
variable {D:List Deferred}
theorem callV_mono{P:Program}{fv:AV}{args:List AV}{S:Store}{K K' X X':AV→Store→Prop}(h:callV P fv args S K X)(hK:∀ v S,K v S→K' v S)(hX:∀ v S,X v S→X' v S):callV P fv args S K' X':=by
 unfold callV at h ⊢
 split at h
 ·have hq:∀(e:AEnd) (S':Store),(match e with|.ret r=>K r S'|.pan x=>X x S')→(match e with|.ret r=>K' r S'|.pan x=>X' x S'):=fun e S' h=>by
    cases e with
    |ret r=>exact hK _ _ h
    |pan x=>exact hX _ _ h
  rcases h with h|h
  ·exact .inl (h.mono hq)
  ·refine .inr fun w g vs hh ha=>?_
   obtain⟨v,w',r,S',g',h0,h1,h2,h3,h4⟩:=h w g vs hh ha
   exact⟨v,w',r,S',g',h0,h1,h2,h3,hK _ _ h4⟩
 ·exact h.elim
section
variable {P:Program} {f:FuncId} {fn:Func} {S:Store} {Q:AEnd→Store→Prop}
structure NoText (P:Program) (f:FuncId) (fn:Func):Prop where
 func:P.funcs[f]? = some fn
 name : (fn.name == "runtime.NumGoroutine") = false
 body:fn.body.isNone=true
 next:Extern.findNext fn=none
theorem args_nil{w:World}{g:Gh}{vs:Array Value}(h:Args w g [] vs):vs = #[]:=by
 have:=h.1
 exact Array.eq_empty_of_size_eq_zero (by simpa using this.symm)
theorem args_1{w:World}{g:Gh}{a:AV}{vs:Array Value}(h:Args w g [a] vs):∃ x,vs = #[x]∧R w g a x:=by
 obtain⟨l⟩:=vs
 match l,h with
 |[x],h=>exact⟨x,rfl,by simpa using h.2 0 a rfl⟩
theorem args_2{w:World}{g:Gh}{a b:AV}{vs:Array Value}(h:Args w g [a,b] vs):∃ x y,vs = #[x,y]∧R w g a x∧R w g b y:=by
 obtain⟨l⟩:=vs
 match l,h with
 |[x,y],h=>exact⟨x,y,rfl,by simpa using h.2 0 a rfl,by simpa using h.2 1 b rfl⟩
theorem args_3{w:World}{g:Gh}{a b c:AV}{vs:Array Value}(h:Args w g [a,b,c] vs):∃ x y z,vs = #[x,y,z]∧R w g a x∧R w g b y∧R w g c z:=by
 obtain⟨l⟩:=vs
 match l,h with
 |[x,y,z],h=>exact⟨x,y,z,rfl,by simpa using h.2 0 a rfl,by simpa using h.2 1 b rfl,by simpa using h.2 2 c rfl⟩
theorem R_t0{w:World}{g:Gh}:R w g (.t []) (.tuple #[]):=.t _ _ rfl fun k u h=>by simp at h
theorem ext_mark0(h:NoText P f fn)(m:Mark)(he:Extern.find fn=some (fun _=>do mark m;pure Extern.Race.none_))(k:Q (.ret (.t [])) S):AExt P f [] S Q:=by
 intro w g vs hh ha
 obtain rfl:=args_nil ha
 exact⟨_,w,.t [],S,g,run_call_mark0 h.func h.name h.body h.next m he w,hh,Mv.refl _ _,R_t0,k⟩
theorem ext_mark1(h:NoText P f fn)(m:Addr→Mark)(he:Extern.find fn=some (Extern.Race.marked m)){id i j:Nat}(k:Q (.ret (.t [])) S):AExt P f [.p id i j] S Q:=by
 intro w g vs hh ha
 obtain⟨x,rfl,hr⟩:=args_1 ha
 obtain⟨_,rfl⟩:=hr.inv_p
 exact⟨_,w,.t [],S,g,run_call_marked h.func h.name h.body h.next m he _ w,hh,Mv.refl _ _,R_t0,k⟩
theorem cell_of{w:World}{g:Gh}(hh:Heap P w g S){id i j t:Nat}{es:List (List AV)}{c:List AV}{u:AV}{l:Bool}(h:S.obj id=some (.cells t es l))(hi:es[i]? = some c)(hj:c[j]? = some u):
    ∃ v,w.cell? ⟨g.blk id,i*g.sz id+j,none⟩=some v∧R w g u v:=by
 have hob:=hh.obj _ _ _ _ h
 have hr:R w g (.p id i j) (.pointer (some ⟨g.blk id,i*g.sz id+j,none⟩)):=.p id i j hob.lt
 have hp:place S (.p id i j)=some (c,j):=by simp[place,Store.get,h,hi]
 obtain⟨ad,hy,hc⟩:=place_cells hh hr hp
 cases hy
 obtain⟨z,h1,h2,_⟩:=hc 0 u (by simpa using hj)
 exact⟨z,by simpa[Addr.add]using h1,h2⟩
theorem frozen_of{w:World}{g:Gh}(hh:Heap P w g S){id t:Nat}{es:List (List AV)}{l:Bool}(h:S.obj id=some (.cells t es l))(o:Nat):w.frozen? ⟨g.blk id,o,none⟩=false:=by
 obtain⟨cs,h1,_⟩:=(hh.obj _ _ _ _ h).row
 simp[World.frozen?,h1]
theorem ext_load(h:NoText P f fn)(k:IntKind)(he:Extern.find fn=some (Extern.Atomic.loadT (.int k))){id i j t:Nat}{es:List (List AV)}{c:List AV}{x:Int}{l:Bool}(ho:S.obj id=some (.cells t es l))(hi:es[i]? = some c)(hj:c[j]? = some (.v (.int k x)))
    (kQ:Q (.ret (.v (.int k x))) S):AExt P f [.p id i j] S Q:=by
 intro w g vs hh ha
 obtain⟨v,rfl,hr⟩:=args_1 ha
 obtain⟨_,rfl⟩:=hr.inv_p
 obtain⟨z,hz,hrz⟩:=cell_of hh ho hi hj
 obtain rfl:=hrz.inv_v
 exact⟨_,w,_,S,g,run_call_load h.func h.name h.body h.next k he hz,hh,Mv.refl _ _,.v _,kQ⟩
theorem heap_cell{w:World}{g:Gh}(hh:Heap P w g S){id i j t:Nat}{es:List (List AV)}{c:List AV}{u u0:AV}{v:Value}(ho:S.obj id=some (.cells t es true))(hi:es[i]? = some c)(hj:c[j]? = some u0)(hu:u.one=true)(hr:R w g u v):
    Heap P (w.setCell ⟨g.blk id,i*g.sz id+j,none⟩ v) g (S.upd id (.cells t (es.set i (c.set j u)) true))∧Mv w g (w.setCell ⟨g.blk id,i*g.sz id+j,none⟩ v) g:=by
 have hob:=hh.obj _ _ _ _ ho
 obtain⟨cs,h1,h2,h3⟩:=hob.row
 have hw:w.setCell ⟨g.blk id,i*g.sz id+j,none⟩ v=w.setRow (g.blk id) (cs.setIfInBounds (i*g.sz id+j) v):=by
  unfold World.setCell World.setRow
  congr 1
  apply Array.ext_getElem?
  intro b
  simp only[Array.getElem?_modify]
  by_cases e:g.blk id=b
  ·subst e;simp[h1]
  ·simp[e]
 rw[hw]
 have hil:=(List.getElem?_eq_some_iff.1 hi).1
 have hjl:=(List.getElem?_eq_some_iff.1 hj).1
 obtain⟨hcl,_⟩:=h3 i c hi
 refine heap_set hh ho (by simpa using h2) (by simpa using hob.len) fun i' c' hc'=>?_
 rw[List.getElem?_set]at hc'
 split at hc'
 ·rename_i e
  subst e
  try rw[if_pos (by simpa using hil)]at hc'
  cases hc'
  refine⟨by simpa using hcl,fun k u' hu'=>?_⟩
  rw[List.getElem?_set]at hu'
  have hb:=idx_lt hil hob.len (show k<g.sz id by
   split at hu'
   ·rename_i e;subst e;omega
   ·have:=(List.getElem?_eq_some_iff.1 hu').1;omega)
  rw[←h2]at hb
  simp only[Array.getD_eq_getD_getElem?,Array.getElem?_setIfInBounds]
  split at hu'
  ·rename_i e
   subst e
   try rw[if_pos (by simpa using hjl)]at hu'
   cases hu'
   rw[if_pos rfl,if_pos hb]
   exact⟨hu,hr⟩
  ·rename_i e
   rw[if_neg (by omega)]
   have:=(h3 i c hi).2 k u' hu'
   simpa[Array.getD_eq_getD_getElem?]using this
 ·rename_i e
  refine⟨(h3 i' c' hc').1,fun k u' hu'=>?_⟩
  have hk:k<g.sz id:=by rw[←(h3 i' c' hc').1];exact(List.getElem?_eq_some_iff.1 hu').1
  have hne:¬ i*g.sz id+j=i'*g.sz id+k:=by
   intro hq
   have hj2:j<g.sz id:=by omega
   have hpos:0<g.sz id:=by omega
   have e1:(i*g.sz id+j) / g.sz id=i:=by rw[Nat.mul_comm,Nat.mul_add_div hpos,Nat.div_eq_of_lt hj2];omega
   have e2:(i'*g.sz id+k) / g.sz id=i':=by rw[Nat.mul_comm,Nat.mul_add_div hpos,Nat.div_eq_of_lt hk];omega
   rw[hq,e2]at e1
   exact e e1.symm
  have:=(h3 i' c' hc').2 k u' hu'
  simp only[Array.getD_eq_getD_getElem?,Array.getElem?_setIfInBounds,if_neg hne]
  simpa[Array.getD_eq_getD_getElem?]using this
theorem ext_store(h:NoText P f fn)(he:Extern.find fn=some Extern.Atomic.storeT){k:IntKind}{y:Int}{id i j t:Nat}{es:List (List AV)}{c:List AV}{u0:AV}(ho:S.obj id=some (.cells t es true))(hi:es[i]? = some c)(hj:c[j]? = some u0)
    (kQ:Q (.ret (.t [])) (S.upd id (.cells t (es.set i (c.set j (.v (.int k y)))) true))):AExt P f [.p id i j,.v (.int k y)] S Q:=by
 intro w g vs hh ha
 obtain⟨v,v2,rfl,hr,hr2⟩:=args_2 ha
 obtain⟨_,rfl⟩:=hr.inv_p
 obtain rfl:=hr2.inv_v
 obtain⟨z,hz,hrz⟩:=cell_of hh ho hi hj
 obtain⟨h1,h2⟩:=heap_cell hh ho hi hj (u:=.v (.int k y)) rfl (.v _)
 exact⟨_,_,.t [],_,g,run_call_store h.func h.name h.body h.next he hz (frozen_of hh ho _),h1,h2,R_t0,kQ⟩
theorem ext_cas(h:NoText P f fn)(k:IntKind)(he:Extern.find fn=some (Extern.Atomic.casT (.int k))){x y:Int}{id i j t:Nat}{es:List (List AV)}{c:List AV}(ho:S.obj id=some (.cells t es true))(hi:es[i]? = some c)(hj:c[j]? = some (.v (.int k x)))
    (kQ:Q (.ret (.v (.bool true))) (S.upd id (.cells t (es.set i (c.set j (.v (.int k y)))) true))):AExt P f [.p id i j,.v (.int k x),.v (.int k y)] S Q:=by
 intro w g vs hh ha
 obtain⟨v,v2,v3,rfl,hr,hr2,hr3⟩:=args_3 ha
 obtain⟨_,rfl⟩:=hr.inv_p
 obtain rfl:=hr2.inv_v
 obtain rfl:=hr3.inv_v
 obtain⟨z,hz,hrz⟩:=cell_of hh ho hi hj
 obtain rfl:=hrz.inv_v
 obtain⟨h1,h2⟩:=heap_cell hh ho hi hj (u:=.v (.int k y)) rfl (.v _)
 exact⟨_,_,_,_,g,run_call_cas_hit h.func h.name h.body h.next k he hz (frozen_of hh ho _),h1,h2,.v _,kQ⟩
theorem ext_add(h:NoText P f fn)(k:IntKind)(he:Extern.find fn=some (Extern.Atomic.update (Op.intArith .add) k true)){x y:Int}{id i j t:Nat}{es:List (List AV)}{c:List AV}(ho:S.obj id=some (.cells t es true))(hi:es[i]? = some c)(hj:c[j]? = some (.v (.int k x)))
    (kQ:Q (.ret (.v (.int k (k.wrap (x+y))))) (S.upd id (.cells t (es.set i (c.set j (.v (.int k (k.wrap (x+y)))))) true))):AExt P f [.p id i j,.v (.int k y)] S Q:=by
 intro w g vs hh ha
 obtain⟨v,v2,rfl,hr,hr2⟩:=args_2 ha
 obtain⟨_,rfl⟩:=hr.inv_p
 obtain rfl:=hr2.inv_v
 obtain⟨z,hz,hrz⟩:=cell_of hh ho hi hj
 obtain rfl:=hrz.inv_v
 obtain⟨h1,h2⟩:=heap_cell hh ho hi hj (u:=.v (.int k (k.wrap (x+y)))) rfl (.v _)
 exact⟨_,_,_,_,g,run_call_add h.func h.name h.body h.next k he hz (frozen_of hh ho _) (s:=k.wrap (x+y)) rfl,h1,h2,.v _,kQ⟩
end
end Go.Ab
set_option linter.unusedVariables false
set_option linter.unusedSimpArgs false
namespace Go.Ab
open Go Go.RowKit
variable {D:List Deferred}
abbrev Off:=FuncId × List AV
def DR(w:World)(g:Gh):List Off→List Deferred→Prop
 |[],[]=>True
 |(f,as) :: ds,d :: D=>(∃ cap,d.target = .fn (.func f) cap∧Args w g as (d.args++cap))∧DR w g ds D
 |_,_=>False
theorem DR.mv{w:World}{g:Gh}{w':World}{g':Gh}(m:Mv w g w' g'):∀{ds:List Off} {D:List Deferred},DR w g ds D→DR w' g' ds D
 |[],[],h=>h
 |(f,as) :: ds,d :: D,h=>⟨by obtain⟨cap,h1,h2⟩:=h.1;exact⟨cap,h1,h2.1,fun k u hu=>(h2.2 k u hu).mv m⟩,DR.mv m h.2⟩
 |[],_ :: _,h=>h.elim
 |_ :: _,[],h=>h.elim
def vcOpsD(P:Program)(ops:Array Oper):List Oper→(Nat→Bool)→Env→Store→(Off→Env→Store→Prop)→Prop
 |[],_,_,_,_=>False
 |[o],_,env,S,K=>match o.guard,o.dst,o.op with
  |none,none,.defer { callee:=.value f,args:=args,.. }=>match ev env f with
   |.f (.func fid) fs cs=>K (fid,fs++args.toList.map (ev env)++cs) env S
   |_=>False
  |_,_,_=>False
 |o :: o2 :: rest,sk,env,S,K =>
  gu sk ops o env (fun env=>vcOp P o.op env S (fun v S'=>vcOpsD P ops (o2 :: rest) (skSet sk o.dst false) (setD env o.dst v) S' K) (fun _ _=>False)) (fun env=>vcOpsD P ops (o2 :: rest) (skSet sk o.dst true) (setD env o.dst (.v undef)) S K)
def hasDefer(ops:Array Oper):Bool:=match ops[ops.size - 1]? with
 |some o=>match o.op with|.defer _=>true|_=>false
 |none=>false
def PostT(w:World)(g:Gh)(P:Program)(Q:List Off→AX→Env→Store→Prop)(e:Exit)(a':Act)(w':World):Prop:=
 ∃ x env' S' g' ds' D',Heap P w' g' S'∧EnvR D' w' g' env' a'∧DR w' g' ds' D'∧Mv w g w' g'∧XR w' g' x e∧Q ds' x env' S'
theorem vcOpsD_sound{P:Program}{ops:Array Oper}{ds:List Off}{Q:List Off→AX→Env→Store→Prop}{w0:World}{g0:Gh}:∀(l:List Oper) (sk:Nat→Bool) (env:Env) (S:Store) (w:World) (g:Gh) (a:Act),Sk sk env→Heap P w g S→EnvR D w g env a→DR w g ds D→Mv w0 g0 w g→
    vcOpsD P ops l sk env S (fun d env' S'=>Q (d :: ds) .normal env' S')→wpList P ops (PostT w0 g0 P Q) l a w
 |[],sk,env,S,w,g,a,hs,hh,he,hd,m,h=>h.elim
 |[o],sk,env,S,w,g,a,hs,hh,he,hd,m,h=>by
  simp only[vcOpsD]at h
  split at h
  case h_2=>exact h.elim
  rename_i f args ts hg hdst hop
  split at h
  case h_2=>exact h.elim
  rename_i fid fs cs hf
  unfold wpList
  have hrf:=he.ev f
  rw[hf]at hrf
  generalize hv:a.eval f=v at hrf
  cases hrf with
  |f fn fs0 cs0 fs' cs' hl1 hl2 hF hC =>
   have hw:Region.wanted o (yielded ops a.tmps)=true:=by simp[Region.wanted,hg]
   rw[if_pos hw]
   refine .inl ?_
   have hrun:(execOp a.eval o).run P w = .ok (.defer { target:=.fn (.func fid) cs',args:=fs'++args.map a.eval }) w:=by
    simp only[execOp,hop,resolve,hv,Deferred.ofValue,Sem.run_bind,Sem.run_pure,Result.andThen_ok]
   unfold Oper.wp
   rw[hrun,Oper.upon_defer,hdst]
   unfold wpList
   refine⟨.normal,env,S,g,(fid,fs++args.toList.map (ev env)++cs) :: ds,{ target:=.fn (.func fid) cs',args:=fs'++args.map a.eval } :: D,hh,⟨he.size,he.rel,?_⟩,⟨⟨cs',rfl,args_append (args_append ⟨hl1,hF⟩ (rel_map he args)) ⟨hl2,hC⟩⟩,hd⟩,m,trivial,h⟩
   show _ :: a.defers=_
   rw[he.defers]
 |o :: o2 :: rest,sk,env,S,w,g,a,hs,hh,he,hd,m,h=>by
  unfold wpList
  simp only[vcOpsD]at h
  rcases gu_spec hs h with⟨ht,h'⟩|⟨ht,h'⟩
  ·rw[if_pos (wantA_sound he ht)]
   refine .inl (vcOp_sound h' D w g a _ _ hh he (fun v S' w' g' y h1 h2 h3 h4=>?_) (fun u S' w' g' y h1 h2 h3 h4=>h4.elim))
   exact vcOpsD_sound (o2 :: rest) _ _ S' w' g' _ (hs.del o.dst v) h1 ((he.mv h2).put o.dst h3) (hd.mv h2) (m.trans h2) h4
  ·rw[if_neg (by rw[wantA_sound he ht];simp)]
   exact vcOpsD_sound (o2 :: rest) _ _ S w g _ (hs.add o.dst) hh (he.put o.dst (.v _)) hd m h'
def vcT(P:Program):Code→List (List Nat)→Env→Store→List Off→(List Off→AX→Env→Store→Prop)→Prop
 |.seq a b,ms,env,S,ds,K=>vcT P a ms env S ds (fun ds' x env' S'=>match x with
    |.normal=>vcT P b (ms.drop (nl a)) env' S' ds' K
    |x=>K ds' x env' S')
 |.cond c x y,ms,env,S,ds,K=>onB (ev env c) fun b=>gd b (vcT P x ms env S ds K) (vcT P y (ms.drop (nl x)) env S ds K)
 |.region id ops draw,ms,env,S,ds,K=>match !draw && hasDefer ops with
  |true=>match draw with
   |false=>vcOpsD P ops ops.toList (fun _=>false) env S (fun d env' S'=>K (d :: ds) .normal env' S')
   |true=>False
  |false=>vc P (.region id ops draw) ms env S (K ds)
 |c,ms,env,S,ds,K=>vc P c ms env S (K ds)
theorem vcT_vc{P:Program}{c:Code}{ms:List (List Nat)}{env:Env}{S:Store}{ds:List Off}{K:List Off→AX→Env→Store→Prop}(h:vc P c ms env S (K ds)){w:World}{g:Gh}{a:Act}(hh:Heap P w g S)(he:EnvR D w g env a)(hd:DR w g ds D):
    c.wp P (PostT w g P K) a w:=
 wp_mono (vc_sound c ms env S _ h D w g a hh he) fun e a' w' ⟨x,env',S',g',h1,h2,h3,h4,h5⟩=>⟨x,env',S',g',ds,D,h1,h2,hd.mv h3,h3,h4,h5⟩
theorem PostT.of_mv{P:Program}{w0:World}{g0:Gh}{w:World}{g:Gh}(m:Mv w0 g0 w g){Q:List Off→AX→Env→Store→Prop}{e:Exit}{a:Act}{w':World}(h:PostT w g P Q e a w'):PostT w0 g0 P Q e a w':=by
 obtain⟨x,env',S',g',ds',D',h1,h2,h3,h4,h5⟩:=h
 exact⟨x,env',S',g',ds',D',h1,h2,h3,m.trans h4,h5⟩
theorem vcT_sound{P:Program}:∀(c:Code) (ms:List (List Nat)) (env:Env) (S:Store) (ds:List Off) (K:List Off→AX→Env→Store→Prop),vcT P c ms env S ds K→
    ∀(D:List Deferred) (w:World) (g:Gh) (a:Act),Heap P w g S→EnvR D w g env a→DR w g ds D→c.wp P (PostT w g P K) a w
 |.seq a b,ms,env,S,ds,K,h,D,w,g,ac,hh,he,hd=>by
  refine wp_seq (wp_mono (vcT_sound a ms env S ds _ h D w g ac hh he hd) ?_)
  rintro e a' w' ⟨x,env',S',g',ds',D',h1,h2,h3,h4,h5,h6⟩
  cases x with
  |normal =>
   cases e with
   |normal=>exact wp_mono (vcT_sound b _ env' S' ds' K h6 D' w' g' a' h1 h2 h3) (fun e a w=>PostT.of_mv h4)
   |_=>exact h5.elim
  |exit id=>cases e<;>first|exact h5.elim|exact⟨.exit id,env',S',g',ds',D',h1,h2,h3,h4,h5,h6⟩
  |goto l=>cases e<;>first|exact h5.elim|exact⟨.goto l,env',S',g',ds',D',h1,h2,h3,h4,h5,h6⟩
  |ret=>cases e<;>first|exact h5.elim|exact⟨.ret,env',S',g',ds',D',h1,h2,h3,h4,h5,h6⟩
  |pan x=>cases e<;>first|exact h5.elim|exact⟨.pan x,env',S',g',ds',D',h1,h2,h3,h4,h5,h6⟩
 |.cond c x y,ms,env,S,ds,K,h,D,w,g,a,hh,he,hd=>by
  simp only[vcT,onB]at h
  split at h
  ·rename_i b hb
   have h1:=he.ev c
   rw[hb]at h1
   rcases gd_cases h with⟨rfl,h'⟩|⟨rfl,h'⟩
   ·exact wp_cond_true h1.inv_v (vcT_sound x _ env S ds K h' D w g a hh he hd)
   ·exact wp_cond_false h1.inv_v (vcT_sound y _ env S ds K h' D w g a hh he hd)
  ·exact h.elim
 |.region id ops draw,ms,env,S,ds,K,h,D,w,g,a,hh,he,hd=>by
  simp only[vcT]at h
  split at h
  ·cases draw with
   |false=>exact wp_region_list (vcOpsD_sound ops.toList (fun _=>false) env S w g a (Sk.nil env) hh he hd (Mv.refl _ _) h)
   |true=>exact h.elim
  ·exact vcT_vc h hh he hd
 |.skip,ms,env,S,ds,K,h,D,w,g,a,hh,he,hd=>vcT_vc h hh he hd
 |.label _,ms,env,S,ds,K,h,D,w,g,a,hh,he,hd=>vcT_vc h hh he hd
 |.exit _,ms,env,S,ds,K,h,D,w,g,a,hh,he,hd=>vcT_vc h hh he hd
 |.goto _,ms,env,S,ds,K,h,D,w,g,a,hh,he,hd=>vcT_vc h hh he hd
 |.ret,ms,env,S,ds,K,h,D,w,g,a,hh,he,hd=>vcT_vc h hh he hd
 |.block _ _,ms,env,S,ds,K,h,D,w,g,a,hh,he,hd=>vcT_vc h hh he hd
 |.loop _,ms,env,S,ds,K,h,D,w,g,a,hh,he,hd=>vcT_vc h hh he hd
 |.scope _,ms,env,S,ds,K,h,D,w,g,a,hh,he,hd=>vcT_vc h hh he hd
 |.rangeFunc _ _ _ _,ms,env,S,ds,K,h,D,w,g,a,hh,he,hd=>vcT_vc h hh he hd
 |.refuse _,ms,env,S,ds,K,h,D,w,g,a,hh,he,hd=>vcT_vc h hh he hd
def leavesT(P:Program)(rs:List ResultVar)(Q:AEnd→Store→Prop)(env:Env):List Off→Store→Prop
 |[],S=>resV P rs env S fun l=>Q (.ret (retV l)) S
 |(f,as) :: ds,S=>ADCalls P f as S (fun e S'=>match e with|.ret _=>leavesT P rs Q env ds S'|.pan _=>False)
def bodyT(P:Program)(rs:List ResultVar)(Q:AEnd→Store→Prop)(ds:List Off):AX→Env→Store→Prop
 |.normal,env,S|.ret,env,S=>leavesT P rs Q env ds S
 |_,_,_=>False
theorem leavesT_sound{P:Program}{fn:Func}{Q:AEnd→Store→Prop}{w0:World}{g0:Gh}:∀(ds:List Off) (D:List Deferred) (S:Store) (w:World) (g:Gh) (env:Env) (a:Act),Heap P w g S→EnvR D w g env a→DR w g ds D→Mv w0 g0 w g→
    leavesT P fn.results.toList Q env ds S→Leaves P fn a.tmps (fun e w'=>∃ r S' g',Heap P w' g' S'∧Mv w0 g0 w' g'∧ER w' g' r e∧Q r S') D .returning w
 |[],[],S,w,g,env,a,hh,he,hd,m,h=>by
  obtain⟨l,v,hrun,hr,hQ⟩:=run_retV hh he h
  exact⟨v,hrun,.ret _,S,g,hh,m,hr,hQ⟩
 |(f,as) :: ds,d :: D,S,w,g,env,a,hh,he,hd,m,h=>by
  obtain⟨⟨cap,ht,ha⟩,hd'⟩:=hd
  simp only[leavesT]at h
  refine⟨by simp,.func f,cap,f,d.args++cap,ht,?_,?_⟩
  ·rw[ht]
   exact h.1 _ w
  ·refine(h.2 w g _ .returning hh ha).mono ?_
   rintro e u' w' ⟨rfl,r,S',g',h1,h2,h3,h4⟩
   cases r with
   |ret r =>
    cases e with
    |returned v=>exact leavesT_sound ds D S' w' g' env { a with defers:=D } h1 ⟨he.size,(he.mv h2).rel,rfl⟩ (hd'.mv h2) (m.trans h2) h4
    |panicked chain=>exact h3.elim
    |outgrown=>exact h3.elim
   |pan x=>exact h4.elim
 |[],_ :: _,_,_,_,_,_,_,_,hd,_,_=>hd.elim
 |_ :: _,[],_,_,_,_,_,_,_,hd,_,_=>hd.elim
theorem calls_of_vcT{P:Program}{f:FuncId}{fn:Func}{c:Code}{args:List AV}{S:Store}{Q:AEnd→Store→Prop}{n:Nat}(hf:P.funcs[f]? = some fn)(hb:fn.body=some c)(he:enterOk P f=true)(hn:args.length+(fn.ntmps - args.length)=n)(ms:List (List Nat))
    (h:vcT P c ms (ofArgs n args) S [] (bodyT P fn.results.toList Q)):ACalls P f args S Q:=by
 refine⟨enterOk_run he,fun w g vs hh ha=>calls_of_wp_defers hf hb ?_⟩
 refine wp_mono (vcT_sound c ms _ S [] _ h [] w g _ hh (EnvR.begin ha hn) trivial) ?_
 rintro e a' w' ⟨x,env',S',g',ds',D',h1,h2,h3,h4,h5,h6⟩
 have fin:leavesT P fn.results.toList Q env' ds' S'→Leaves P fn a'.tmps (fun e w'=>∃ r S' g',Heap P w' g' S'∧Mv w g w' g'∧ER w' g' r e∧Q r S') a'.defers .returning w':=fun hl=>by
  rw[h2.defers]
  exact leavesT_sound ds' D' S' w' g' env' a' h1 h2 h3 h4 hl
 cases x with
 |normal=>cases e<;>first|exact h5.elim|exact fin h6
 |ret=>cases e<;>first|exact h5.elim|exact fin h6
 |exit id=>exact h6.elim
 |goto l=>exact h6.elim
 |pan y=>exact h6.elim
end Go.Ab
set_option linter.unusedVariables false
set_option linter.unusedSimpArgs false
namespace Go.Ab
open Go Go.RowKit
variable {D:List Deferred}
section
variable {A:AV→Prop} {P:AV→Prop} {S0:Store}
theorem J_run{b:Bool}:(∃ t:Bool,wantT (.v (.bool b)) b=some t∧∃ q,gd t (A q) (q = .v undef)∧P q) = ∃ q,A q∧P q:=by
 apply propext
 have:wantT (.v (.bool b)) b=some true:=by simp[wantT]
 rw[this]
 constructor
 ·rintro⟨t,h,q,h1,h2⟩;cases h;exact⟨q,h1,h2⟩
 ·rintro⟨q,h1,h2⟩;exact⟨true,rfl,q,h1,h2⟩
theorem J_skip{x:AV}{w:Bool}(h:wantT x w=some false):(∃ t:Bool,wantT x w=some t∧∃ q,gd t (A q) (q = .v undef)∧P q)=P (.v undef):=by
 apply propext
 rw[h]
 constructor
 ·rintro⟨t,h,q,h1,h2⟩;cases h;cases h1;exact h2
 ·intro h2;exact⟨false,rfl,_,rfl,h2⟩
theorem J_skipTF:(∃ t:Bool,wantT (.v (.bool true)) false=some t∧∃ q,gd t (A q) (q = .v undef)∧P q)=P (.v undef):=J_skip rfl
theorem J_skipFT:(∃ t:Bool,wantT (.v (.bool false)) true=some t∧∃ q,gd t (A q) (q = .v undef)∧P q)=P (.v undef):=J_skip rfl
theorem J_skipU{w:Bool}:(∃ t:Bool,wantT (.v undef) w=some t∧∃ q,gd t (A q) (q = .v undef)∧P q)=P (.v undef):=J_skip rfl
theorem J_eq{x:AV}:(∃ q,(q=x)∧P q)=P x:=by apply propext;simp
theorem J_of{op:(AV→Store→Prop)→Prop}{v:AV}(h:∀ K,op K=K v S0):(∃ q,op (fun u S=>u=q∧S=S0)∧P q)=P v:=by
 apply propext
 constructor
 ·rintro⟨q,h1,h2⟩
  rw[h]at h1
  obtain⟨rfl,_⟩:=h1
  exact h2
 ·intro h2
  exact⟨v,by rw[h];exact⟨rfl,rfl⟩,h2⟩
theorem J_len{α:Type}{f:α→AV}{l:List α}:(∃ q,(lenS (aL f l) S0 fun v S=>v=q∧S=S0)∧P q)=P (.v (.int .i64 l.length)):=J_of (op:=fun K=>lenS (aL f l) S0 K) fun K=>lenS_aL f l
theorem J_lenN{α:Type}{f:α→AV}{l:List α}{n:Nat}(h:l.length=n):(∃ q,(lenS (aL f l) S0 fun v S=>v=q∧S=S0)∧P q)=P (.v (.int .i64 n)):=J_of (op:=fun K=>lenS (aL f l) S0 K) fun K=>by rw[lenS_aL,h]
theorem J_neqS{k:IntKind}{a:Int}{kd:Nat}:(∃ q,(bin .neq kd (.v (.int k a)) (.v (.int k a)) S0 fun v S=>v=q∧S=S0)∧P q)=P (.v (.bool false)):=
 J_of (op:=fun K=>bin .neq kd (.v (.int k a)) (.v (.int k a)) S0 K) fun K=>by rw[bin_neq];simp
theorem J_neq{k:IntKind}{a b:Int}{kd:Nat}:(∃ q,(bin .neq kd (.v (.int k a)) (.v (.int k b)) S0 fun v S=>v=q∧S=S0)∧P q)=P (.v (.bool (!decide (a=b)))):=
 J_of (op:=fun K=>bin .neq kd (.v (.int k a)) (.v (.int k b)) S0 K) fun K=>bin_neq _ _ _ _
theorem J_neqB{a b:Bool}:(∃ q,(bin .neq 1 (.v (.bool a)) (.v (.bool b)) S0 fun v S=>v=q∧S=S0)∧P q)=P (.v (.bool (a != b))):=
 J_of (op:=fun K=>bin .neq 1 (.v (.bool a)) (.v (.bool b)) S0 K) fun K=>bin_neqB _ _
theorem J_neqBs{a:Bool}:(∃ q,(bin .neq 1 (.v (.bool a)) (.v (.bool a)) S0 fun v S=>v=q∧S=S0)∧P q)=P (.v (.bool false)):=by rw[J_neqB];simp
theorem J_ix{α:Type}{l:List α}{f:α→AV}{e i:Nat}(h:i<l.length):(∃ q,(ixS e 1 (aL f l) (.v (.int .i64 i)) S0 fun v S=>v=q∧S=S0)∧P q)=P (.q [f l[i]] 0):=
 J_of (op:=fun K=>ixS e 1 (aL f l) (.v (.int .i64 i)) S0 K) fun K=>ixS_aL h
theorem J_ld{u:AV}:(∃ q,(ld1 (.q [u] 0) S0 fun v S=>v=q∧S=S0)∧P q)=P u:=J_of (op:=fun K=>ld1 (.q [u] 0) S0 K) fun K=>ld1_q u
theorem J_ldp{id i j t:Nat}{es:List (List AV)}{c:List AV}{u:AV}{l:Bool}(h:S0.obj id=some (.cells t es l))(hi:es[i]? = some c)(hj:c[j]? = some u):(∃ q,(ld1 (.p id i j) S0 fun v S=>v=q∧S=S0)∧P q)=P u:=
 J_of (op:=fun K=>ld1 (.p id i j) S0 K) fun K=>ld1_p h hi hj
theorem J_shift{id i j n:Nat}:(∃ q,(shift (.p id i j) n S0 fun v S=>v=q∧S=S0)∧P q)=P (.p id i (j+n)):=J_of (op:=fun K=>shift (.p id i j) n S0 K) fun K=>shift_p id i j n
theorem J_not{b:Bool}:(∃ q,(un .not (.v (.bool b)) S0 fun v S=>v=q∧S=S0)∧P q)=P (.v (.bool !b)):=J_of (op:=fun K=>un .not (.v (.bool b)) S0 K) fun K=>un_not b
theorem J_notT:(∃ q,(un .not (.v (.bool true)) S0 fun v S=>v=q∧S=S0)∧P q)=P (.v (.bool false)):=J_not
theorem J_notF:(∃ q,(un .not (.v (.bool false)) S0 fun v S=>v=q∧S=S0)∧P q)=P (.v (.bool true)):=J_not
theorem J_pickT{x y:AV}:(∃ q,(pick (.v (.bool true)) x y S0 fun v S=>v=q∧S=S0)∧P q)=P x:=J_of (op:=fun K=>pick (.v (.bool true)) x y S0 K) fun K=>rfl
theorem J_pickF{x y:AV}:(∃ q,(pick (.v (.bool false)) x y S0 fun v S=>v=q∧S=S0)∧P q)=P y:=J_of (op:=fun K=>pick (.v (.bool false)) x y S0 K) fun K=>rfl
end
end Go.Ab
set_option linter.unusedVariables false
set_option linter.unusedSimpArgs false
namespace Go.Ab
open Go Go.RowKit
variable {D:List Deferred}
def RowsCv(T:Store)(n:Nat)(es es2:List (List AV)):Prop:=
 es.length=es2.length∧∀(i:Nat) (c c2:List AV),es[i]? = some c→es2[i]? = some c2→c.length=c2.length∧∀(k:Nat) (u u2:AV),c[k]? = some u→c2[k]? = some u2→Cv T n u u2
def ObjCv(T:Store)(n:Nat)(o o2:AObj):Prop:=
 o=o2∨∃ t es es2 l,o = .cells t es l∧o2 = .cells t es2 l∧RowsCv T n es es2
theorem heap_less{P:Program}{w:World}{g:Gh}{T T':Store}(hh:Heap P w g T)(hn:T'.n=T.n)(ho:∀ i o2,T'.obj i=some o2→∃ o,T.obj i=some o∧ObjCv T T.n o o2):Heap P w g T' where
 gl:=hh.gl
 n:=hh.n.trans hn.symm
 im:=hh.im
 ob i o2 h:=by
  obtain⟨o,h1,h2⟩:=ho i o2 h
  have hk:=hh.ob i o h1
  rcases h2 with rfl|⟨t,es,es2,l,rfl,rfl,hl,hc⟩
  ·exact hk
  ·have hcut:g.cut T.n=g:=by rw[←hh.n];rfl
   refine⟨hk.lt,hk.blk,hk.imY,hk.imN,?_⟩
   obtain⟨h3,h4,cs,h5,h6,h7⟩:=hk.row
   refine⟨by omega,h4,cs,h5,h6,fun i c2 hi=>?_⟩
   obtain⟨c,hi'⟩:=get_of (l:=es) hl (by have:=(List.getElem?_eq_some_iff.1 hi).1;omega)
   obtain⟨h8,h9⟩:=h7 i c hi'
   obtain⟨h10,h11⟩:=hc i c c2 hi' hi
   refine⟨by omega,fun k u2 hu=>?_⟩
   obtain⟨u,hu'⟩:=get_of (l:=c) h10 (by have:=(List.getElem?_eq_some_iff.1 hu).1;omega)
   obtain⟨h12,h13⟩:=h9 k u hu'
   have hcv:=h11 k u u2 hu' hu
   refine⟨hcv.one h12,?_⟩
   have:=R_cv hh hcv h13
   rwa [hcut]at this
 sp a b o o' h1 h2 l1 l2 e:=by
  obtain⟨o1,h3,h4⟩:=ho a o h1
  obtain⟨o2,h5,h6⟩:=ho b o' h2
  have q1:o1.live=true:=by
   rcases h4 with rfl|⟨t,es,es2,l,rfl,rfl,_⟩
   ·exact l1
   ·exact l1
  have q2:o2.live=true:=by
   rcases h6 with rfl|⟨t,es,es2,l,rfl,rfl,_⟩
   ·exact l2
   ·exact l2
  exact hh.sp _ _ _ _ h3 h5 q1 q2 e
theorem Wk.of{S S':Store}(F:Nat→Bool){l l':List AV}(hn:S'.n=S.n)(ho:∀ i o2,S'.obj i=some o2→∃ o,(S.frz F).obj i=some o∧ObjCv (S.frz F) S.n o o2)
    (hl:l.length=l'.length) (hc:∀(k:Nat) (u u2:AV),l[k]? = some u→l'[k]? = some u2→u=u2∨Cv (S.frz F) S.n u u2):Wk S l S' l':=by
 refine⟨hl,fun P w g hh=>?_⟩
 have hf:=heap_frz hh F
 have hm:=mv_frz hh F
 have hcut:(g.frz S F).cut S.n=g.frz S F:=by
  have:(g.frz S F).n=S.n:=hh.n
  rw[←this];rfl
 refine⟨g.frz S F,heap_less hf hn ho,hm,fun k u u2 y h1 h2 hr=>?_⟩
 rcases hc k u u2 h1 h2 with rfl|hcv
 ·exact hr.mv hm
 ·have:=R_cv hf hcv (hr.mv hm)
  rwa [hcut]at this
def Store.tell(S:Store)(F:Nat→Bool)(id:Nat)(o:AObj):Store:=⟨S.n,fun i=>if i=id then some o else if F i=true then none else S.obj i⟩
theorem tell_n{S:Store}{F:Nat→Bool}{id:Nat}{o:AObj}:(S.tell F id o).n=S.n:=rfl
theorem tell_id{S:Store}{F:Nat→Bool}{id:Nat}{o:AObj}:(S.tell F id o).obj id=some o:=by simp[Store.tell]
theorem tell_ne{S:Store}{F:Nat→Bool}{id i:Nat}{o:AObj}(h:i≠id)(hF:F i=false):(S.tell F id o).obj i=S.obj i:=by simp[Store.tell,h,hF]
theorem Wk.row{S:Store}{l:List AV}{id t:Nat}{es es2:List (List AV)}{b:Bool}(F:Nat→Bool)(h:S.obj id=some (.cells t es b))(hF:F id=false)(hc:RowsCv (S.frz F) S.n es es2):Wk S l (S.tell F id (.cells t es2 b)) l:=by
 refine Wk.of F rfl (fun i o2 ho=>?_) rfl (fun k u u2 h1 h2=>by rw[h1]at h2;cases h2;exact .inl rfl)
 simp only[Store.tell]at ho
 split at ho
 ·rename_i e
  subst e
  cases ho
  exact⟨_,by rw[frz_of h,hF,Bool.not_false,Bool.and_true],.inr ⟨t,es,es2,b,rfl,rfl,hc⟩⟩
 ·split at ho
  ·cases ho
  ·rename_i hq
   exact⟨o2,by rw[frz_false (by simpa using hq)];exact ho,.inl rfl⟩
theorem RowsCv.snoc{T:Store}{n:Nat}{ts:List (List AV)}{c c2:List AV}(ht:∀ r∈ts,∀ u∈r,Tree u)(hl:c.length=c2.length)(hc:∀(k:Nat) (u u2:AV),c[k]? = some u→c2[k]? = some u2→Cv T n u u2):RowsCv T n (ts ++ [c]) (ts ++ [c2]):=by
 refine⟨by simp,fun i a a2 h1 h2=>?_⟩
 rcases Nat.lt_or_ge i ts.length with hi|hi
 ·rw[List.getElem?_append_left hi]at h1 h2
  rw[h1]at h2;cases h2
  exact⟨rfl,fun k u u2 h3 h4=>by
   rw[h3]at h4;cases h4
   exact ht a (List.mem_of_getElem? h1) u (List.mem_of_getElem? h3) _ _⟩
 ·rw[List.getElem?_append_right hi]at h1 h2
  have:i - ts.length=0:=by
   have:=(List.getElem?_eq_some_iff.1 h1).1
   simp at this;omega
  rw[this]at h1 h2
  cases h1;cases h2
  exact⟨hl,hc⟩
theorem ACalls.treeE{P:Program}{f:FuncId}{args:List AV}{S:Store}{Φ:AV→Prop}(h:ACalls P f args S (fun e S'=>∃ r tr,e = .ret r∧Keep S S'∧Cv (S'.frz (newer S.n)) S.n r tr∧Φ tr)):ACalls P f args S (fun e S'=>∃ tr,e = .ret tr∧S'=S∧Φ tr):=by
 refine⟨h.1,fun w g vs hh ha=>(h.2 w g vs hh ha).mono ?_⟩
 rintro e w' ⟨_,S',g',h1,h2,h3,r,tr,rfl,hk,hcv,hphi⟩
 cases e with
 |returned v =>
  have hf:=heap_frz h1 (newer S.n)
  have hm:=mv_frz h1 (newer S.n)
  refine⟨.ret tr,S,(g'.frz S' (newer S.n)).cut S.n,heap_cut hh hf (fun i hi=>?_),mv_cut (h2.trans hm) hh.n,R_cv hf hcv (R.mv hm h3),tr,rfl,rfl,hphi⟩
  rw[←hk.2 i hi]
  exact frz_false (by simp[newer];omega)
 |panicked chain=>exact h3.elim
 |outgrown=>exact h3.elim
end Go.Ab
set_option linter.unusedVariables false
set_option linter.unusedSimpArgs false
namespace Go.Ab
open Go Go.RowKit
variable {D:List Deferred}
theorem mapM_list{α β:Type}{f:α→Option β}:∀{l:List α} {r:List β},l.mapM f=some r→r.length=l.length∧∀(i:Nat) (x:α),l[i]? = some x→∃ y,r[i]? = some y∧f x=some y
 |[],r,h=>by
  have:r = []:=by simpa using h.symm
  subst this
  exact⟨rfl,fun i x hx=>by simp at hx⟩
 |a :: l,r,h=>by
  rw[List.mapM_cons]at h
  cases hb:f a with
  |none=>rw[hb]at h;cases h
  |some b =>
   rw[hb]at h
   cases hr:l.mapM f with
   |none=>rw[hr]at h;cases h
   |some r' =>
    rw[hr]at h
    have hrr:r=b :: r':=by
     have:some (b :: r')=some r:=h
     exact(Option.some.inj this).symm
    subst hrr
    obtain⟨h1,h2⟩:=mapM_list hr
    refine⟨by simp[h1],fun i x hx=>?_⟩
    cases i with
    |zero=>cases hx;exact⟨b,rfl,hb⟩
    |succ i=>exact h2 i x (by simpa using hx)
theorem cells_list{w:World}{base:Nat}{a:Addr}{n:Nat}{cs:List Value}(h:w.cells? base a n=some cs):cs.length=n∧∀ i,i<n→∃ c,cs[i]? = some c∧w.cell? (a.add i)=some c:=by
 unfold World.cells? at h
 split at h
 ·obtain⟨h1,h2⟩:=mapM_list h
  refine⟨by simpa using h1,fun i hi=>h2 i i (by simp[hi])⟩
 ·cases h
def g0(w:World):Gh:={ n:=0,blk:=fun _=>0,sz:=fun _=>0,cap:=fun _=>0,im:=fun b=>b<w.heap.size }
def S0:Store:=⟨0,fun _=>none⟩
theorem heap0(P:Program)(w:World)(hg:Gl P w (g0 w)):Heap P w (g0 w) S0 where
 gl:=hg
 n:=rfl
 im _ h:=h
 ob i o h:=by cases h
 sp a b o o' h:=by cases h
theorem cell_lt{w:World}{a:Addr}{v:Value}(h:w.cell? a=some v):a.block<w.heap.size:=by
 unfold World.cell? at h
 split at h
 ·rename_i hb
  exact(Array.getElem?_eq_some_iff.1 hb).1
 ·cases h
theorem list_of{α:Type}{p:Nat→α→Prop}:∀(n:Nat),(∀ i,i<n→∃ a,p i a)→∃ l:List α,l.length=n∧∀(i:Nat) (a:α),l[i]? = some a→p i a
 |0,_=>⟨[],rfl,fun i a h=>by simp at h⟩
 |n+1,h=>by
  obtain⟨l,h1,h2⟩:=list_of n fun i hi=>h i (by omega)
  obtain⟨a,ha⟩:=h n (by omega)
  refine⟨l ++ [a],by simp[h1],fun i b hb=>?_⟩
  by_cases hi:i<n
  ·rw[List.getElem?_append_left (by omega)]at hb
   exact h2 i b hb
  ·rw[List.getElem?_append_right (by omega)]at hb
   have:i=n:=by
    have:=(List.getElem?_eq_some_iff.1 hb).1
    simp at this
    omega
   subst this
   rw[h1]at hb
   simp at hb
   subst hb
   exact ha
def Opens{H:Type}(enc:TypeId × Value→H)(P:Program)(w:World)(sp:Nat→Bool)(held:Bool)(t:TypeId)(sz:Nat){α:Type}(f:α→List AV)(Q:α→Prop):Prop:=
 ∀(fuel:Nat) (cs:List Value) (x:DataW H × List MemPlace),DataW.trod enc P w 0 sp held fuel t cs=some x→
  ∃ a,Q a∧(f a).length=sz∧cs.length=sz∧∀(k:Nat) (u:AV) (c:Value),(f a)[k]? = some u→cs[k]? = some c→u.one=true∧R w (g0 w) u c
section
variable {H:Type} {enc:TypeId × Value→H} {P:Program} {w:World} {sp:Nat→Bool} {held:Bool}
theorem opens_one{u:AV}{c:Value}(h:u.one=true∧R w (g0 w) u c):∀(k:Nat) (u':AV) (c':Value),[u][k]? = some u'→[c][k]? = some c'→u'.one=true∧R w (g0 w) u' c'
 |0,_,_,h1,h2=>by cases h1;cases h2;exact h
 |k+1,_,_,h1,_=>by simp at h1
theorem opens_bool{t:TypeId}(ht:P.underlying t=some .bool):Opens enc P w sp held t 1 (fun b:Bool=>[aB b]) (fun _=>True):=by
 intro fuel cs x h
 cases fuel with
 |zero=>cases h
 |succ n =>
  unfold DataW.trod at h
  rw[ht]at h
  split at h<;>rename_i e1<;>try (cases e1)
  ·exact⟨_,trivial,rfl,rfl,opens_one ⟨rfl,.v _⟩⟩
  ·cases h
theorem opens_int{t:TypeId}{k:IntKind}(ht:P.underlying t=some (.int k)):Opens enc P w sp held t 1 (fun n:Int=>[AV.v (.int k n)]) (fun n=>(Lit.int k n).wf=true):=by
 intro fuel cs x h
 cases fuel with
 |zero=>cases h
 |succ n =>
  unfold DataW.trod at h
  rw[ht]at h
  split at h<;>rename_i e1<;>try (cases e1)
  ·split at h
   ·rename_i hk
    obtain⟨rfl,hw⟩:=hk
    exact⟨_,hw,rfl,rfl,opens_one ⟨rfl,.v _⟩⟩
   ·cases h
  ·cases h
theorem opens_string{t:TypeId}(ht:P.underlying t=some .string):Opens enc P w sp held t 1 (fun b:ByteArray=>[AV.v (.string b)]) (fun b=>b.size≤maxLen):=by
 intro fuel cs x h
 cases fuel with
 |zero=>cases h
 |succ n =>
  unfold DataW.trod at h
  rw[ht]at h
  split at h<;>rename_i e1<;>try (cases e1)
  ·split at h
   ·rename_i hk
    exact⟨_,hk,rfl,rfl,opens_one ⟨rfl,.v _⟩⟩
   ·cases h
  ·cases h
theorem opens_slice{t e:TypeId}{sz:Nat}{α:Type}{f:α→List AV}{Q:α→Prop}(ht:P.underlying t=some (.slice e))(hc:P.cellsOf e=sz)(hpos:0<sz)(he:Opens enc P w sp held e sz f Q):
    Opens enc P w sp held t 1 (fun l:List α=>[.l (l.map f)]) (fun l=>l.length≤maxLen∧∀ a∈l,Q a):=by
 intro fuel cs x h
 cases fuel with
 |zero=>cases h
 |succ n =>
  unfold DataW.trod at h
  rw[ht]at h
  split at h<;>rename_i e1<;>try (cases e1)
  ·exact⟨[],⟨Nat.zero_le _,fun a h=>by cases h⟩,rfl,rfl,opens_one ⟨rfl,.l [] none 0 0 (fun _ _=>undef) (Nat.le_refl _) (fun h=>absurd rfl h) (fun i c' j u h=>by simp at h) (fun i c' j u h=>by simp at h)⟩⟩
  ·rename_i a len cap
   rw[hc]at h
   dsimp only at h
   split at h
   ·rename_i hb
    obtain⟨_,hlc,hcm⟩:=hb
    cases hm:(List.range len).mapM (fun i=>(w.cells? 0 (a.add (i*sz)) sz).bind (DataW.trod enc P w 0 sp held n e))with
    |none=>rw[hm]at h;cases h
    |some elems =>
     obtain⟨h1,h2⟩:=mapM_list hm
     have hel:∀ i,i<len→∃(b:α) (cs:List Value),w.cells? 0 (a.add (i*sz)) sz=some cs∧Q b∧(f b).length=sz∧∀(k:Nat) (u:AV) (c:Value),(f b)[k]? = some u→cs[k]? = some c→u.one=true∧R w (g0 w) u c:=by
      intro i hi
      obtain⟨y,_,hy⟩:=h2 i i (by simp[hi])
      obtain⟨cs,hcs,hy⟩:=Option.bind_eq_some_iff.1 hy
      obtain⟨b,hq,hl,_,hr⟩:=he n cs y hy
      exact⟨b,cs,hcs,hq,hl,hr⟩
     obtain⟨l,hll,hl⟩:=list_of len hel
     have hv:∃ vs:Nat→Nat→Value,∀(i j:Nat) (v:Value),i<len→j<sz→w.cell? ((a.add (i*sz)).add j)=some v→vs i j=v:=by
      refine⟨fun i j=>(w.cell? ((a.add (i*sz)).add j)).getD undef,fun i j v _ _ h=>by simp[h]⟩
     obtain⟨vs,hvs⟩:=hv
     have hadd:∀ x y:Nat,(a.add x).add y=a.add (x+y):=fun x y=>by by_cases h1:x=0<;>by_cases h2:y=0<;>simp[Addr.add,h1,h2,Nat.add_assoc]
     have hR:∀(i:Nat) (c':List AV) (j:Nat) (u:AV),(l.map f)[i]? = some c'→c'[j]? = some u→u.one=true∧R w (g0 w) u (vs i j):=by
      intro i c' j u hi hj
      rw[List.getElem?_map]at hi
      obtain⟨b,hb,rfl⟩:=Option.map_eq_some_iff.1 hi
      have hil:i<len:=by
       have:=(List.getElem?_eq_some_iff.1 hb).1
       omega
      obtain⟨cs,hcs,_,hfl,hr⟩:=hl i b hb
      have hjs:j<sz:=by
       have:=(List.getElem?_eq_some_iff.1 hj).1
       omega
      obtain⟨c,hc1,hc2⟩:=(cells_list hcs).2 j hjs
      rw[hvs i j c hil hjs hc2]
      exact hr j u c hj hc1
     refine⟨l,⟨by omega,fun b hb=>?_⟩,rfl,rfl,opens_one ⟨rfl,?_⟩⟩
     ·obtain⟨i,hi⟩:=List.getElem?_of_mem hb
      obtain⟨_,_,hq,_⟩:=hl i b hi
      exact hq
     ·have hlen:(l.map f).length=len:=by simp[hll]
      have hmain:=R.l (w:=w) (g:=g0 w) (l.map f) (some a) cap sz vs (by omega) (fun hne=>⟨a,rfl,?_,fun i c' hi=>?_⟩) (fun i c' j u h1 h2=>(hR i c' j u h1 h2).1) (fun i c' j u h1 h2=>(hR i c' j u h1 h2).2)
      ·rw[hlen]at hmain
       exact hmain
      ·have hl0:0<len:=by
         rw[←hlen]
         exact List.length_pos_iff.2 hne
       obtain⟨b,hb⟩:∃ b,l[0]? = some b:=⟨_,List.getElem?_eq_getElem (by omega)⟩
       obtain⟨cs,hcs,_⟩:=hl 0 b hb
       obtain⟨c,_,hc2⟩:=(cells_list hcs).2 0 hpos
       have:=cell_lt hc2
       exact(by simpa[Addr.add]using this:a.block<w.heap.size)
      ·rw[List.getElem?_map]at hi
       obtain⟨b,hb,rfl⟩:=Option.map_eq_some_iff.1 hi
       have hil:i<len:=by
        have:=(List.getElem?_eq_some_iff.1 hb).1
        omega
       obtain⟨cs,hcs,_,hfl,hr⟩:=hl i b hb
       refine⟨hfl,fun j hj=>?_⟩
       obtain⟨c,hc1,hc2⟩:=(cells_list hcs).2 j hj
       rw[hvs i j c hil hj hc2,←hadd]
       exact hc2
   ·cases h
  ·cases h
theorem trod_struct{t:TypeId}{fs:Array Field}(ht:P.underlying t=some (.struct fs)){fuel:Nat}{cs:List Value}{x:DataW H × List MemPlace}(h:DataW.trod enc P w 0 sp held fuel t cs=some x):
    cs.length=P.cellsOf t∧∃ n,∀ f∈fs.toList,∃ y,DataW.trod enc P w 0 sp held n f.type ((cs.drop f.offset).take (P.cellsOf f.type))=some y:=by
 cases fuel with
 |zero=>cases h
 |succ n =>
  unfold DataW.trod at h
  rw[ht]at h
  dsimp only at h
  split at h
  ·rename_i hl
   refine⟨hl,n,fun f hf=>?_⟩
   obtain⟨xs,hxs,_⟩:=Option.map_eq_some_iff.1 h
   obtain⟨i,hi⟩:=List.getElem?_of_mem hf
   obtain⟨y,_,hy⟩:=(mapM_list hxs).2 i f hi
   exact⟨y,hy⟩
  ·cases h
theorem opened_one{t:TypeId}{α:Type}{f:α→AV}{Q:α→Prop}(h:Opens enc P w sp held t 1 (fun a=>[f a]) Q){v:Value}{d:DataW H}{ps:List MemPlace}(hv:v.oneCell'=true)(hd:DataW.Trod enc P w 0 sp held t v d ps):∃ a,Q a∧R w (g0 w) (f a) v:=by
 obtain⟨n,hn⟩:=hd
 rw[cells_one hv]at hn
 obtain⟨a,hq,_,_,hr⟩:=h n _ _ hn
 exact⟨a,hq,(hr 0 (f a) v rfl rfl).2⟩
theorem opened_agg{t:TypeId}{sz:Nat}{α:Type}{f:α→List AV}{Q:α→Prop}(h:Opens enc P w sp held t sz f Q){cs:Array Value}{d:DataW H}{ps:List MemPlace}(hd:DataW.Trod enc P w 0 sp held t (.agg cs) d ps):∃ a,Q a∧R w (g0 w) (.a (f a)) (.agg cs):=by
 obtain⟨n,hn⟩:=hd
 obtain⟨a,hq,h1,h2,hr⟩:=h n _ _ hn
 have hsz:cs.size=sz:=by simpa[Value.cells]using h2
 have hg:∀(k:Nat) (u:AV),(f a)[k]? = some u→u.one=true∧R w (g0 w) u (cs.getD k undef):=by
  intro k u hu
  have hk:k<cs.size:=by
   have:=(List.getElem?_eq_some_iff.1 hu).1
   omega
  have:=hr k u cs[k] hu (by simp[Value.cells,hk])
  simpa[Array.getD_eq_getD_getElem?,hk]using this
 exact⟨a,hq,.a _ _ (by omega) (fun k u hu=>(hg k u hu).1) (fun k u hu=>(hg k u hu).2)⟩
end
theorem ACalls.law{P:Program}{f:FuncId}{args:List AV}(h:Ans P f args (.v (.bool true))){w:World}(hg:Gl P w (g0 w)){vs:Array Value}(hl:args.length=vs.size)(hr:∀(k:Nat) (u:AV),args[k]? = some u→R w (g0 w) u (vs.getD k undef)):
    Calls P f vs w fun e w'=>e = .returned (.bool true)∧Below w.heap.size w w':=by
 refine((h S0).2 w (g0 w) vs (heap0 P w hg) ⟨hl,hr⟩).mono ?_
 rintro e w' ⟨r,S',g',h1,h2,h3,rfl,rfl⟩
 cases e with
 |returned v=>exact⟨by rw[R.inv_v h3],h2.os,h2.tape,h2.output,h2.size,fun k hk=>h2.keep k hk⟩
 |panicked chain=>exact h3.elim
 |outgrown=>exact h3.elim
theorem args3{w:World}{g:Gh}{a b c:AV}{x y z:Value}(h1:R w g a x)(h2:R w g b y)(h3:R w g c z):∀(k:Nat) (u:AV),[a,b,c][k]? = some u→R w g u (#[x,y,z].getD k undef)
 |0,_,h=>by cases h;exact h1
 |1,_,h=>by cases h;exact h2
 |2,_,h=>by cases h;exact h3
 |k+3,_,h=>by simp at h
end Go.Ab
set_option linter.unusedVariables false
set_option linter.unusedSimpArgs false
namespace Go.Ab
open Go Go.RowKit
def OpensN{H:Type}(enc:TypeId × Value→H)(P:Program)(w:World)(sp:Nat→Bool)(held:Bool)(fuel:Nat)(t:TypeId)(sz:Nat){α:Type}(f:α→List AV)(Q:α→Prop):Prop:=
 ∀(cs:List Value) (x:DataW H × List MemPlace),DataW.trod enc P w 0 sp held fuel t cs=some x→
  ∃ a,Q a∧(f a).length=sz∧cs.length=sz∧∀(k:Nat) (u:AV) (c:Value),(f a)[k]? = some u→cs[k]? = some c→u.one=true∧R w (g0 w) u c
section
variable {H:Type} {enc:TypeId × Value→H} {P:Program} {w:World} {sp:Nat→Bool} {held:Bool}
theorem OpensN.zero{t:TypeId}{sz:Nat}{α:Type}{f:α→List AV}{Q:α→Prop}:OpensN enc P w sp held 0 t sz f Q:=fun cs x h=>by cases h
theorem Opens.of{t:TypeId}{sz:Nat}{α:Type}{f:α→List AV}{Q:α→Prop}(h:∀ n,OpensN enc P w sp held n t sz f Q):Opens enc P w sp held t sz f Q:=fun n cs x hx=>h n cs x hx
theorem opensN_slice{n:Nat}{t e:TypeId}{sz:Nat}{α:Type}{f:α→List AV}{Q:α→Prop}(ht:P.underlying t=some (.slice e))(hc:P.cellsOf e=sz)(hpos:0<sz)(he:OpensN enc P w sp held n e sz f Q):
    OpensN enc P w sp held (n+1) t 1 (fun l:List α=>[.l (l.map f)]) (fun l=>l.length≤maxLen∧∀ a∈l,Q a):=by
 intro cs x h
 ·unfold DataW.trod at h
  rw[ht]at h
  split at h<;>rename_i e1<;>try (cases e1)
  ·exact⟨[],⟨Nat.zero_le _,fun a h=>by cases h⟩,rfl,rfl,opens_one ⟨rfl,.l [] none 0 0 (fun _ _=>undef) (Nat.le_refl _) (fun h=>absurd rfl h) (fun i c' j u h=>by simp at h) (fun i c' j u h=>by simp at h)⟩⟩
  ·rename_i a len cap
   rw[hc]at h
   dsimp only at h
   split at h
   ·rename_i hb
    obtain⟨_,hlc,hcm⟩:=hb
    cases hm:(List.range len).mapM (fun i=>(w.cells? 0 (a.add (i*sz)) sz).bind (DataW.trod enc P w 0 sp held n e))with
    |none=>rw[hm]at h;cases h
    |some elems =>
     obtain⟨h1,h2⟩:=mapM_list hm
     have hel:∀ i,i<len→∃(b:α) (cs:List Value),w.cells? 0 (a.add (i*sz)) sz=some cs∧Q b∧(f b).length=sz∧∀(k:Nat) (u:AV) (c:Value),(f b)[k]? = some u→cs[k]? = some c→u.one=true∧R w (g0 w) u c:=by
      intro i hi
      obtain⟨y,_,hy⟩:=h2 i i (by simp[hi])
      obtain⟨cs,hcs,hy⟩:=Option.bind_eq_some_iff.1 hy
      obtain⟨b,hq,hl,_,hr⟩:=he cs y hy
      exact⟨b,cs,hcs,hq,hl,hr⟩
     obtain⟨l,hll,hl⟩:=list_of len hel
     have hv:∃ vs:Nat→Nat→Value,∀(i j:Nat) (v:Value),i<len→j<sz→w.cell? ((a.add (i*sz)).add j)=some v→vs i j=v:=by
      refine⟨fun i j=>(w.cell? ((a.add (i*sz)).add j)).getD undef,fun i j v _ _ h=>by simp[h]⟩
     obtain⟨vs,hvs⟩:=hv
     have hadd:∀ x y:Nat,(a.add x).add y=a.add (x+y):=fun x y=>by by_cases h1:x=0<;>by_cases h2:y=0<;>simp[Addr.add,h1,h2,Nat.add_assoc]
     have hR:∀(i:Nat) (c':List AV) (j:Nat) (u:AV),(l.map f)[i]? = some c'→c'[j]? = some u→u.one=true∧R w (g0 w) u (vs i j):=by
      intro i c' j u hi hj
      rw[List.getElem?_map]at hi
      obtain⟨b,hb,rfl⟩:=Option.map_eq_some_iff.1 hi
      have hil:i<len:=by
       have:=(List.getElem?_eq_some_iff.1 hb).1
       omega
      obtain⟨cs,hcs,_,hfl,hr⟩:=hl i b hb
      have hjs:j<sz:=by
       have:=(List.getElem?_eq_some_iff.1 hj).1
       omega
      obtain⟨c,hc1,hc2⟩:=(cells_list hcs).2 j hjs
      rw[hvs i j c hil hjs hc2]
      exact hr j u c hj hc1
     refine⟨l,⟨by omega,fun b hb=>?_⟩,rfl,rfl,opens_one ⟨rfl,?_⟩⟩
     ·obtain⟨i,hi⟩:=List.getElem?_of_mem hb
      obtain⟨_,_,hq,_⟩:=hl i b hi
      exact hq
     ·have hlen:(l.map f).length=len:=by simp[hll]
      have hmain:=R.l (w:=w) (g:=g0 w) (l.map f) (some a) cap sz vs (by omega) (fun hne=>⟨a,rfl,?_,fun i c' hi=>?_⟩) (fun i c' j u h1 h2=>(hR i c' j u h1 h2).1) (fun i c' j u h1 h2=>(hR i c' j u h1 h2).2)
      ·rw[hlen]at hmain
       exact hmain
      ·have hl0:0<len:=by
         rw[←hlen]
         exact List.length_pos_iff.2 hne
       obtain⟨b,hb⟩:∃ b,l[0]? = some b:=⟨_,List.getElem?_eq_getElem (by omega)⟩
       obtain⟨cs,hcs,_⟩:=hl 0 b hb
       obtain⟨c,_,hc2⟩:=(cells_list hcs).2 0 hpos
       have:=cell_lt hc2
       exact(by simpa[Addr.add]using this:a.block<w.heap.size)
      ·rw[List.getElem?_map]at hi
       obtain⟨b,hb,rfl⟩:=Option.map_eq_some_iff.1 hi
       have hil:i<len:=by
        have:=(List.getElem?_eq_some_iff.1 hb).1
        omega
       obtain⟨cs,hcs,_,hfl,hr⟩:=hl i b hb
       refine⟨hfl,fun j hj=>?_⟩
       obtain⟨c,hc1,hc2⟩:=(cells_list hcs).2 j hj
       rw[hvs i j c hil hj hc2,←hadd]
       exact hc2
   ·cases h
  ·cases h
theorem trodN_struct{t:TypeId}{fs:Array Field}(ht:P.underlying t=some (.struct fs)){n:Nat}{cs:List Value}{x:DataW H × List MemPlace}(h:DataW.trod enc P w 0 sp held (n+1) t cs=some x):
    cs.length=P.cellsOf t∧∀ f∈fs.toList,∃ y,DataW.trod enc P w 0 sp held n f.type ((cs.drop f.offset).take (P.cellsOf f.type))=some y:=by
 ·unfold DataW.trod at h
  rw[ht]at h
  dsimp only at h
  split at h
  ·rename_i hl
   refine⟨hl,fun f hf=>?_⟩
   obtain⟨xs,hxs,_⟩:=Option.map_eq_some_iff.1 h
   obtain⟨i,hi⟩:=List.getElem?_of_mem hf
   obtain⟨y,_,hy⟩:=(mapM_list hxs).2 i f hi
   exact⟨y,hy⟩
  ·cases h
end
end Go.Ab
set_option linter.unusedVariables false
set_option linter.unusedSimpArgs false
namespace Go.Ab
open Go Go.RowKit
variable {D:List Deferred}
section
variable {A:AV→Prop} {P:AV→Prop} {S0:Store}
theorem J_mvS{x:AV}:(∃ q,(x=q∧S0=S0)∧P q)=P x:=by apply propext;simp
theorem J_shiftq{c:List AV}{j n:Nat}:(∃ q,(shift (.q c j) n S0 fun v S=>v=q∧S=S0)∧P q)=P (.q c (j+n)):=J_of (op:=fun K=>shift (.q c j) n S0 K) fun K=>rfl
theorem J_ldq{c:List AV}{j:Nat}{u:AV}(h:c[j]? = some u):(∃ q,(ld1 (.q c j) S0 fun v S=>v=q∧S=S0)∧P q)=P u:=J_of (op:=fun K=>ld1 (.q c j) S0 K) fun K=>by simp[ld1,rd1,place,h]
theorem J_ldN{id t n:Nat}{cs:List AV}{l:Bool}(h:S0.obj id=some (.cells t [cs] l))(hn:cs.length=n):(∃ q,(ldN n (.p id 0 0) S0 fun v S=>v=q∧S=S0)∧P q)=P (.a cs):=J_of (op:=fun K=>ldN n (.p id 0 0) S0 K) fun K=>ldN_p h hn
theorem J_ldNq{c:List AV}{n:Nat}(h:c.length=n):(∃ q,(ldN n (.q c 0) S0 fun v S=>v=q∧S=S0)∧P q)=P (.a c):=J_of (op:=fun K=>ldN n (.q c 0) S0 K) fun K=>by subst h;simp[ldN,rdN,place]
theorem J_notB{b:Bool}:(∃ q,(un .not (.v (.bool b)) S0 fun v S=>v=q∧S=S0)∧P q)=P (.v (.bool !b)):=J_of (op:=fun K=>un .not (.v (.bool b)) S0 K) fun K=>un_not b
theorem J_eql{k:IntKind}{a b:Int}{kd:Nat}:(∃ q,(bin .eql kd (.v (.int k a)) (.v (.int k b)) S0 fun v S=>v=q∧S=S0)∧P q)=P (.v (.bool (decide (a=b)))):=J_of (op:=fun K=>bin .eql kd (.v (.int k a)) (.v (.int k b)) S0 K) fun K=>bin_eql _ _ _ _
theorem J_lss{k:IntKind}{a b:Int}{kd:Nat}:(∃ q,(bin .lss kd (.v (.int k a)) (.v (.int k b)) S0 fun v S=>v=q∧S=S0)∧P q)=P (.v (.bool (decide (a<b)))):=J_of (op:=fun K=>bin .lss kd (.v (.int k a)) (.v (.int k b)) S0 K) fun K=>bin_lss _ _ _ _
theorem J_leq{k:IntKind}{a b:Int}{kd:Nat}:(∃ q,(bin .leq kd (.v (.int k a)) (.v (.int k b)) S0 fun v S=>v=q∧S=S0)∧P q)=P (.v (.bool (decide (a≤b)))):=J_of (op:=fun K=>bin .leq kd (.v (.int k a)) (.v (.int k b)) S0 K) fun K=>bin_leq _ _ _ _
theorem J_gtr{k:IntKind}{a b:Int}{kd:Nat}:(∃ q,(bin .gtr kd (.v (.int k a)) (.v (.int k b)) S0 fun v S=>v=q∧S=S0)∧P q)=P (.v (.bool (decide (b<a)))):=J_of (op:=fun K=>bin .gtr kd (.v (.int k a)) (.v (.int k b)) S0 K) fun K=>bin_gtr _ _ _ _
theorem J_geq{k:IntKind}{a b:Int}{kd:Nat}:(∃ q,(bin .geq kd (.v (.int k a)) (.v (.int k b)) S0 fun v S=>v=q∧S=S0)∧P q)=P (.v (.bool (decide (b≤a)))):=J_of (op:=fun K=>bin .geq kd (.v (.int k a)) (.v (.int k b)) S0 K) fun K=>bin_geq _ _ _ _
theorem J_eqlB{a b:Bool}:(∃ q,(bin .eql 1 (.v (.bool a)) (.v (.bool b)) S0 fun v S=>v=q∧S=S0)∧P q)=P (.v (.bool (a == b))):=J_of (op:=fun K=>bin .eql 1 (.v (.bool a)) (.v (.bool b)) S0 K) fun K=>bin_eqlB _ _
theorem J_add{a b:Int}{kd:Nat}(h:-9223372036854775808≤a+b)(h':a+b≤9223372036854775807):(∃ q,(bin .add kd (.v (.int .i64 a)) (.v (.int .i64 b)) S0 fun v S=>v=q∧S=S0)∧P q)=P (.v (.int .i64 (a+b))):=J_of (op:=fun K=>bin .add kd (.v (.int .i64 a)) (.v (.int .i64 b)) S0 K) fun K=>bin_add h h' kd
theorem J_sub{a b:Int}{kd:Nat}(h:-9223372036854775808≤a - b)(h':a - b≤9223372036854775807):(∃ q,(bin .sub kd (.v (.int .i64 a)) (.v (.int .i64 b)) S0 fun v S=>v=q∧S=S0)∧P q)=P (.v (.int .i64 (a - b))):=J_of (op:=fun K=>bin .sub kd (.v (.int .i64 a)) (.v (.int .i64 b)) S0 K) fun K=>bin_sub h h' kd
theorem J_lenl{es:List (List AV)}:(∃ q,(lenS (.l es) S0 fun v S=>v=q∧S=S0)∧P q)=P (.v (.int .i64 es.length)):=J_of (op:=fun K=>lenS (.l es) S0 K) fun K=>lenS_l es
theorem J_by{op:(AV→Store→Prop)→Prop}{v:AV}(h:∀ K,op K=K v S0):(∃ q,op (fun u S=>u=q∧S=S0)∧P q)=P v:=J_of h
theorem J_callI{Pr:Program}{f:FuncId}{args:List AV}{r:AV}{X:AEnd→Store→Prop}(h:AnsAt Pr f args S0 r)(k:P r):∃ q,(callF Pr f args S0 X fun v S=>v=q∧S=S0)∧P q:=⟨r,callF_at h ⟨rfl,rfl⟩,k⟩
theorem J_callA{Pr:Program}{f:FuncId}{args:List AV}{r:AV}{X:AEnd→Store→Prop}(h:Ans Pr f args r)(k:P r):∃ q,(callF Pr f args S0 X fun v S=>v=q∧S=S0)∧P q:=⟨r,callF_ans h ⟨rfl,rfl⟩,k⟩
theorem J_callV{Pr:Program}{f:FuncId}{fs args cs:List AV}{r:AV}{X:AV→Store→Prop}(h:AnsAt Pr f (fs++args++cs) S0 r)(k:P r):∃ q,(callV Pr (.f (.func f) fs cs) args S0 (fun v S=>v=q∧S=S0) X)∧P q:=⟨r,callV_at h ⟨rfl,rfl⟩,k⟩
theorem gd_T{b:Bool}{A B:Prop}(h:b=true):gd b A B=A:=by rw[h];rfl
theorem gd_F{b:Bool}{A B:Prop}(h:b=false):gd b A B=B:=by rw[h];rfl
theorem gd_nT{b:Bool}{A B:Prop}(h:b=true):gd (!b) A B=B:=by rw[h];rfl
theorem gd_nF{b:Bool}{A B:Prop}(h:b=false):gd (!b) A B=A:=by rw[h];rfl
theorem gd_nnT{b:Bool}{A B:Prop}(h:b=true):gd (!!b) A B=A:=by rw[h];rfl
theorem gd_nnF{b:Bool}{A B:Prop}(h:b=false):gd (!!b) A B=B:=by rw[h];rfl
theorem J_cA{Pr:Program}{f f':FuncId}{args args':List AV}{r:AV}{X:AEnd→Store→Prop}(h:Ans Pr f' args' r)(hf:Nat.beq f f'=true)(ha:args=args')(k:P r):∃ q,(callF Pr f args S0 X fun v S=>v=q∧S=S0)∧P q:=by
 obtain rfl:=Nat.eq_of_beq_eq_true hf
 subst ha
 exact J_callA h k
theorem J_cI{Pr:Program}{f f':FuncId}{args args':List AV}{r:AV}{X:AEnd→Store→Prop}(h:AnsAt Pr f' args' S0 r)(hf:Nat.beq f f'=true)(ha:args=args')(k:P r):∃ q,(callF Pr f args S0 X fun v S=>v=q∧S=S0)∧P q:=by
 obtain rfl:=Nat.eq_of_beq_eq_true hf
 subst ha
 exact J_callI h k
theorem C_A{Pr:Program}{f f':FuncId}{args args':List AV}{r:AV}(h:Ans Pr f' args' r)(hf:Nat.beq f f'=true)(ha:args=args'){S:Store}{Q:AEnd→Store→Prop}{K:AV→Store→Prop}(k:K r S):callF Pr f args S Q K:=by
 obtain rfl:=Nat.eq_of_beq_eq_true hf
 subst ha
 exact callF_ans h k
theorem C_I{Pr:Program}{f f':FuncId}{args args':List AV}{r:AV}{S:Store}(h:AnsAt Pr f' args' S r)(hf:Nat.beq f f'=true)(ha:args=args'){Q:AEnd→Store→Prop}{K:AV→Store→Prop}(k:K r S):callF Pr f args S Q K:=by
 obtain rfl:=Nat.eq_of_beq_eq_true hf
 subst ha
 exact callF_at h k
theorem J_cV{Pr:Program}{f f':FuncId}{fs args cs args':List AV}{r:AV}{X:AV→Store→Prop}(h:AnsAt Pr f' args' S0 r)(hf:Nat.beq f f'=true)(ha:fs++args++cs=args')(k:P r):∃ q,(callV Pr (.f (.func f) fs cs) args S0 (fun v S=>v=q∧S=S0) X)∧P q:=by
 obtain rfl:=Nat.eq_of_beq_eq_true hf
 subst ha
 exact J_callV h k
theorem C_V{Pr:Program}{f f':FuncId}{fs args cs args':List AV}{r:AV}{S:Store}(h:AnsAt Pr f' args' S r)(hf:Nat.beq f f'=true)(ha:fs++args++cs=args'){K X:AV→Store→Prop}(k:K r S):callV Pr (.f (.func f) fs cs) args S K X:=by
 obtain rfl:=Nat.eq_of_beq_eq_true hf
 subst ha
 exact callV_at h k
theorem L_by{op:Store→(AV→Store→Prop)→Prop}{v:AV}(h:∀ T,Keep S0 T→∀ K,op T K=K v T)(k:P v):∃ q,(∀ T,Keep S0 T→op T (fun u S=>u=q∧S=T))∧P q:=
 ⟨v,fun T hT=>by rw[h T hT];exact⟨rfl,rfl⟩,k⟩
theorem L_mv{x:AV}(k:P x):∃ q,(∀ T:Store,Keep S0 T→x=q∧T=T)∧P q:=⟨x,fun T hT=>⟨rfl,rfl⟩,k⟩
theorem L_call{Pr:Program}{f:FuncId}{args:List AV}{r:AV}{X:AEnd→Store→Prop}(h:∀ T,Keep S0 T→AnsAt Pr f args T r)(k:P r):∃ q,(∀ T,Keep S0 T→callF Pr f args T X fun v S=>v=q∧S=T)∧P q:=⟨r,fun T hT=>callF_at (h T hT) ⟨rfl,rfl⟩,k⟩
theorem L_callA{Pr:Program}{f:FuncId}{args:List AV}{r:AV}{X:AEnd→Store→Prop}(h:Ans Pr f args r)(k:P r):∃ q,(∀ T,Keep S0 T→callF Pr f args T X fun v S=>v=q∧S=T)∧P q:=⟨r,fun T hT=>callF_ans h ⟨rfl,rfl⟩,k⟩
theorem L_shift{id i j n:Nat}(k:P (.p id i (j+n))):∃ q,(∀ T,Keep S0 T→shift (.p id i j) n T fun v S=>v=q∧S=T)∧P q:=⟨_,fun T hT=>⟨rfl,rfl⟩,k⟩
theorem L_ldp{id i j t:Nat}{es:List (List AV)}{c:List AV}{u:AV}{l:Bool}(h:S0.obj id=some (.cells t es l))(hid:id<S0.n)(hi:es[i]? = some c)(hj:c[j]? = some u)(k:P u):∃ q,(∀ T,Keep S0 T→ld1 (.p id i j) T fun v S=>v=q∧S=T)∧P q:=
 ⟨u,fun T hT=>by rw[ld1_p ((hT.2 _ hid).trans h) hi hj];exact⟨rfl,rfl⟩,k⟩
theorem L_ldN{id t n:Nat}{cs:List AV}{l:Bool}(h:S0.obj id=some (.cells t [cs] l))(hid:id<S0.n)(hn:cs.length=n)(k:P (.a cs)):∃ q,(∀ T,Keep S0 T→ldN n (.p id 0 0) T fun v S=>v=q∧S=T)∧P q:=
 ⟨.a cs,fun T hT=>by rw[ldN_p ((hT.2 _ hid).trans h) hn];exact⟨rfl,rfl⟩,k⟩
theorem L_ldq{c:List AV}{j:Nat}{u:AV}(h:c[j]? = some u)(k:P u):∃ q,(∀ T,Keep S0 T→ld1 (.q c j) T fun v S=>v=q∧S=T)∧P q:=⟨u,fun T hT=>by simp[ld1,rd1,place,h],k⟩
theorem L_ldNq{c:List AV}{n:Nat}(h:c.length=n)(k:P (.a c)):∃ q,(∀ T,Keep S0 T→ldN n (.q c 0) T fun v S=>v=q∧S=T)∧P q:=⟨.a c,fun T hT=>by subst h;simp[ldN,rdN,place],k⟩
end
end Go.Ab
set_option linter.unusedVariables false
set_option linter.unusedSimpArgs false
namespace Go.Ab
open Go
class Jn (a:Prop) (b:outParam Prop):Prop where
 eq:a=b
theorem W{a b:Prop}(h:a=b)(k:b):a:=Eq.mpr h k
theorem WJ{a b:Prop}[h:Jn a b](k:b):a:=Eq.mpr h.eq k
section
variable {P:AV→Prop} {S0 S:Store} {K:AV→Store→Prop} {A:AV→Prop} {B C:Prop}
instance {x:AV}:Jn (∃ q,(x=q∧S0=S0)∧P q) (P x):=⟨J_mvS⟩
instance {id i j n:Nat}:Jn (∃ q,(shift (.p id i j) n S0 fun v S=>v=q∧S=S0)∧P q) (P (.p id i (j+n))):=⟨J_shift⟩
instance (b:Bool) (K:Bool→Prop):Jn (onB (.v (.bool b)) K) (K b):=⟨onB_v _ _⟩
instance:Jn (gd true B C) B:=⟨gd_true _ _⟩
instance:Jn (gd false B C) C:=⟨gd_false _ _⟩
instance {b:Bool}:Jn (∃ t:Bool,wantT (.v (.bool b)) b=some t∧∃ q,gd t (A q) (q = .v undef)∧P q) (∃ q,A q∧P q):=⟨J_run⟩
instance:Jn (∃ t:Bool,wantT (.v (.bool true)) false=some t∧∃ q,gd t (A q) (q = .v undef)∧P q) (P (.v undef)):=⟨J_skipTF⟩
instance:Jn (∃ t:Bool,wantT (.v (.bool false)) true=some t∧∃ q,gd t (A q) (q = .v undef)∧P q) (P (.v undef)):=⟨J_skipFT⟩
instance {w:Bool}:Jn (∃ t:Bool,wantT (.v undef) w=some t∧∃ q,gd t (A q) (q = .v undef)∧P q) (P (.v undef)):=⟨J_skipU⟩
instance {x:AV}:Jn (∃ q,(q=x)∧P q) (P x):=⟨J_eq⟩
instance {x y:AV}:Jn (∃ q,(pick (.v (.bool true)) x y S0 fun v S=>v=q∧S=S0)∧P q) (P x):=⟨J_pickT⟩
instance {x y:AV}:Jn (∃ q,(pick (.v (.bool false)) x y S0 fun v S=>v=q∧S=S0)∧P q) (P y):=⟨J_pickF⟩
instance {c:List AV} {j n:Nat}:Jn (∃ q,(shift (.q c j) n S0 fun v S=>v=q∧S=S0)∧P q) (P (.q c (j+n))):=⟨J_shiftq⟩
instance {α:Type} {f:α→AV} {l:List α}:Jn (∃ q,(lenS (aL f l) S0 fun v S=>v=q∧S=S0)∧P q) (P (.v (.int .i64 l.length))):=⟨J_len⟩
instance {b:Bool}:Jn (∃ q,(un .not (.v (.bool b)) S0 fun v S=>v=q∧S=S0)∧P q) (P (.v (.bool !b))):=⟨J_notB⟩
instance {k:IntKind} {a b:Int} {kd:Nat}:Jn (∃ q,(bin .eql kd (.v (.int k a)) (.v (.int k b)) S0 fun v S=>v=q∧S=S0)∧P q) (P (.v (.bool (decide (a=b))))):=⟨J_eql⟩
instance {k:IntKind} {a b:Int} {kd:Nat}:Jn (∃ q,(bin .neq kd (.v (.int k a)) (.v (.int k b)) S0 fun v S=>v=q∧S=S0)∧P q) (P (.v (.bool (!decide (a=b))))):=⟨J_neq⟩
instance {k:IntKind} {a b:Int} {kd:Nat}:Jn (∃ q,(bin .lss kd (.v (.int k a)) (.v (.int k b)) S0 fun v S=>v=q∧S=S0)∧P q) (P (.v (.bool (decide (a<b))))):=⟨J_lss⟩
instance {k:IntKind} {a b:Int} {kd:Nat}:Jn (∃ q,(bin .leq kd (.v (.int k a)) (.v (.int k b)) S0 fun v S=>v=q∧S=S0)∧P q) (P (.v (.bool (decide (a≤b))))):=⟨J_leq⟩
instance {k:IntKind} {a b:Int} {kd:Nat}:Jn (∃ q,(bin .gtr kd (.v (.int k a)) (.v (.int k b)) S0 fun v S=>v=q∧S=S0)∧P q) (P (.v (.bool (decide (b<a))))):=⟨J_gtr⟩
instance {k:IntKind} {a b:Int} {kd:Nat}:Jn (∃ q,(bin .geq kd (.v (.int k a)) (.v (.int k b)) S0 fun v S=>v=q∧S=S0)∧P q) (P (.v (.bool (decide (b≤a))))):=⟨J_geq⟩
instance {a b:Bool}:Jn (∃ q,(bin .eql 1 (.v (.bool a)) (.v (.bool b)) S0 fun v S=>v=q∧S=S0)∧P q) (P (.v (.bool (a == b)))):=⟨J_eqlB⟩
instance {a b:Bool}:Jn (∃ q,(bin .neq 1 (.v (.bool a)) (.v (.bool b)) S0 fun v S=>v=q∧S=S0)∧P q) (P (.v (.bool (a != b)))):=⟨J_neqB⟩
instance (id i j n:Nat):Jn (shift (.p id i j) n S K) (K (.p id i (j+n)) S):=⟨shift_p _ _ _ _⟩
instance (c:List AV) (j n:Nat):Jn (shift (.q c j) n S K) (K (.q c (j+n)) S):=⟨rfl⟩
instance (u:AV):Jn (ld1 (.q [u] 0) S K) (K u S):=⟨ld1_q _⟩
instance {α:Type} (f:α→AV) (l:List α):Jn (lenS (aL f l) S K) (K (.v (.int .i64 l.length)) S):=⟨lenS_aL _ _⟩
instance (k:IntKind) (a b:Int) (kd:Nat):Jn (bin .eql kd (.v (.int k a)) (.v (.int k b)) S K) (K (.v (.bool (decide (a=b)))) S):=⟨bin_eql _ _ _ _⟩
instance (k:IntKind) (a b:Int) (kd:Nat):Jn (bin .neq kd (.v (.int k a)) (.v (.int k b)) S K) (K (.v (.bool (!decide (a=b)))) S):=⟨bin_neq _ _ _ _⟩
instance (k:IntKind) (a b:Int) (kd:Nat):Jn (bin .lss kd (.v (.int k a)) (.v (.int k b)) S K) (K (.v (.bool (decide (a<b)))) S):=⟨bin_lss _ _ _ _⟩
instance (k:IntKind) (a b:Int) (kd:Nat):Jn (bin .leq kd (.v (.int k a)) (.v (.int k b)) S K) (K (.v (.bool (decide (a≤b)))) S):=⟨bin_leq _ _ _ _⟩
instance (k:IntKind) (a b:Int) (kd:Nat):Jn (bin .gtr kd (.v (.int k a)) (.v (.int k b)) S K) (K (.v (.bool (decide (b<a)))) S):=⟨bin_gtr _ _ _ _⟩
instance (k:IntKind) (a b:Int) (kd:Nat):Jn (bin .geq kd (.v (.int k a)) (.v (.int k b)) S K) (K (.v (.bool (decide (b≤a)))) S):=⟨bin_geq _ _ _ _⟩
instance (a b:Bool):Jn (bin .eql 1 (.v (.bool a)) (.v (.bool b)) S K) (K (.v (.bool (a == b))) S):=⟨bin_eqlB _ _⟩
instance (a b:Bool):Jn (bin .neq 1 (.v (.bool a)) (.v (.bool b)) S K) (K (.v (.bool (a != b))) S):=⟨bin_neqB _ _⟩
instance (b:Bool):Jn (un .not (.v (.bool b)) S K) (K (.v (.bool !b)) S):=⟨un_not _⟩
end
end Go.Ab
set_option linter.unusedVariables false
set_option linter.unusedSimpArgs false
namespace Go.Ab
open Go Go.RowKit
theorem ACalls.treeW{P:Program}{f:FuncId}{args:List AV}{S:Store}{Φ:AV→Store→Prop}(h:ACalls P f args S (fun e S'=>∃ r tr,e = .ret r∧Cv (S'.frz (newer S.n)) S'.n r tr∧Φ tr S')):
    ACalls P f args S (fun e S''=>∃ tr S',e = .ret tr∧S''=S'.frz (newer S.n)∧Φ tr S'):=by
 refine⟨h.1,fun w g vs hh ha=>(h.2 w g vs hh ha).mono ?_⟩
 rintro e w' ⟨_,S',g',h1,h2,h3,r,tr,rfl,hcv,hphi⟩
 cases e with
 |returned v =>
  have hf:=heap_frz h1 (newer S.n)
  have hm:=mv_frz h1 (newer S.n)
  have hcut:(g'.frz S' (newer S.n)).cut S'.n=g'.frz S' (newer S.n):=by
   have:(g'.frz S' (newer S.n)).n=S'.n:=h1.n
   rw[←this];rfl
  have hR:=R_cv hf hcv (R.mv hm h3)
  rw[hcut]at hR
  exact⟨.ret tr,S'.frz (newer S.n),g'.frz S' (newer S.n),hf,h2.trans hm,hR,tr,S',rfl,rfl,hphi⟩
 |panicked chain=>exact h3.elim
 |outgrown=>exact h3.elim
theorem own_rows{n:Nat}{S:Store}{x:AV}{e:Nat}{es:List (List AV)}(hf:∀ r∈es,∀ u∈r,Tree u)(h:Own n S x e es){k m:Nat}(hk:k≤n):Cv (S.frz (newer k)) m x (.l es):=by
 rcases h with⟨rfl,rfl⟩|⟨id,rfl,h1,h2,h3⟩
 ·exact .nl
 ·refine .s id 0 _ e _ _ (by rw[frz_of h3];have:newer k id=true:=by simp[newer];omega
                             rw[this];rfl) (by simp) (by simp) (fun i c c2 hi hi2=>?_) (fun i c c2 k u u2 hi hi2 hk hk2=>?_)
  ·rw[Nat.zero_add]at hi;rw[hi]at hi2;cases hi2;rfl
  ·rw[Nat.zero_add]at hi;rw[hi]at hi2;cases hi2
   rw[hk]at hk2;cases hk2
   exact hf c (List.mem_of_getElem? hi) u (List.mem_of_getElem? hk) _ _
end Go.Ab
set_option linter.unusedVariables false
set_option linter.unusedSimpArgs false
namespace Go.Ab
open Go
section
variable {P:AV→Prop} {S0:Store}
theorem LJ_of{op:Store→(AV→Store→Prop)→Prop}{v:AV}(h:∀ T,Keep S0 T→∀ K,op T K=K v T):(∃ q,(∀ T,Keep S0 T→op T (fun u S=>u=q∧S=T))∧P q)=P v:=by
 apply propext
 constructor
 ·rintro⟨q,h1,h2⟩
  have h3:=h1 S0 (Keep.refl _)
  rw[h S0 (Keep.refl _)]at h3
  obtain⟨rfl,_⟩:=h3
  exact h2
 ·intro h2
  exact⟨v,fun T hT=>by rw[h T hT];exact⟨rfl,rfl⟩,h2⟩
theorem LJ_ldp{id i j t:Nat}{es:List (List AV)}{c:List AV}{u:AV}{l:Bool}(h:S0.obj id=some (.cells t es l))(hid:id<S0.n)(hi:es[i]? = some c)(hj:c[j]? = some u):(∃ q,(∀ T,Keep S0 T→ld1 (.p id i j) T fun v S=>v=q∧S=T)∧P q)=P u:=
 LJ_of (op:=fun T K=>ld1 (.p id i j) T K) fun T hT K=>ld1_p ((hT.2 _ hid).trans h) hi hj
theorem LJ_ldN{id t n:Nat}{cs:List AV}{l:Bool}(h:S0.obj id=some (.cells t [cs] l))(hid:id<S0.n)(hn:cs.length=n):(∃ q,(∀ T,Keep S0 T→ldN n (.p id 0 0) T fun v S=>v=q∧S=T)∧P q)=P (.a cs):=
 LJ_of (op:=fun T K=>ldN n (.p id 0 0) T K) fun T hT K=>ldN_p ((hT.2 _ hid).trans h) hn
theorem LJ_ldq{c:List AV}{j:Nat}{u:AV}(h:c[j]? = some u):(∃ q,(∀ T,Keep S0 T→ld1 (.q c j) T fun v S=>v=q∧S=T)∧P q)=P u:=LJ_of (op:=fun T K=>ld1 (.q c j) T K) fun T hT K=>by simp[ld1,rd1,place,h]
theorem LJ_ldNq{c:List AV}{n:Nat}(h:c.length=n):(∃ q,(∀ T,Keep S0 T→ldN n (.q c 0) T fun v S=>v=q∧S=T)∧P q)=P (.a c):=LJ_of (op:=fun T K=>ldN n (.q c 0) T K) fun T hT K=>by subst h;simp[ldN,rdN,place]
theorem LJ_ix{α:Type}{l:List α}{f:α→AV}{e i:Nat}(h:i<l.length):(∃ q,(∀ T,Keep S0 T→ixS e 1 (aL f l) (.v (.int .i64 i)) T fun v S=>v=q∧S=T)∧P q)=P (.q [f l[i]] 0):=LJ_of (op:=fun T K=>ixS e 1 (aL f l) (.v (.int .i64 i)) T K) fun T hT K=>ixS_aL h
theorem LJ_add{a b:Int}{kd:Nat}(h:-9223372036854775808≤a+b)(h':a+b≤9223372036854775807):(∃ q,(∀ T,Keep S0 T→bin .add kd (.v (.int .i64 a)) (.v (.int .i64 b)) T fun v S=>v=q∧S=T)∧P q)=P (.v (.int .i64 (a+b))):=LJ_of (op:=fun T K=>bin .add kd (.v (.int .i64 a)) (.v (.int .i64 b)) T K) fun T hT K=>bin_add h h' kd
theorem LJ_sub{a b:Int}{kd:Nat}(h:-9223372036854775808≤a - b)(h':a - b≤9223372036854775807):(∃ q,(∀ T,Keep S0 T→bin .sub kd (.v (.int .i64 a)) (.v (.int .i64 b)) T fun v S=>v=q∧S=T)∧P q)=P (.v (.int .i64 (a - b))):=LJ_of (op:=fun T K=>bin .sub kd (.v (.int .i64 a)) (.v (.int .i64 b)) T K) fun T hT K=>bin_sub h h' kd
instance {x:AV}:Jn (∃ q,(∀ T:Store,Keep S0 T→x=q∧T=T)∧P q) (P x):=⟨by
 apply propext
 exact⟨fun⟨q,h1,h2⟩=>by obtain⟨rfl,_⟩:=h1 S0 (Keep.refl _);exact h2,fun h=>⟨x,fun _ _=>⟨rfl,rfl⟩,h⟩⟩⟩
instance {id i j n:Nat}:Jn (∃ q,(∀ T,Keep S0 T→shift (.p id i j) n T fun v S=>v=q∧S=T)∧P q) (P (.p id i (j+n))):=⟨LJ_of (op:=fun T K=>shift (.p id i j) n T K) fun T hT K=>shift_p _ _ _ _⟩
instance {c:List AV} {j n:Nat}:Jn (∃ q,(∀ T,Keep S0 T→shift (.q c j) n T fun v S=>v=q∧S=T)∧P q) (P (.q c (j+n))):=⟨LJ_of (op:=fun T K=>shift (.q c j) n T K) fun T hT K=>rfl⟩
instance {b:Bool}:Jn (∃ q,(∀ T,Keep S0 T→un .not (.v (.bool b)) T fun v S=>v=q∧S=T)∧P q) (P (.v (.bool !b))):=⟨LJ_of (op:=fun T K=>un .not (.v (.bool b)) T K) fun T hT K=>un_not _⟩
instance {α:Type} {f:α→AV} {l:List α}:Jn (∃ q,(∀ T,Keep S0 T→lenS (aL f l) T fun v S=>v=q∧S=T)∧P q) (P (.v (.int .i64 l.length))):=⟨LJ_of (op:=fun T K=>lenS (aL f l) T K) fun T hT K=>lenS_aL _ _⟩
instance {k:IntKind} {a b:Int} {kd:Nat}:Jn (∃ q,(∀ T,Keep S0 T→bin .eql kd (.v (.int k a)) (.v (.int k b)) T fun v S=>v=q∧S=T)∧P q) (P (.v (.bool (decide (a=b))))):=⟨LJ_of (op:=fun T K=>bin .eql kd (.v (.int k a)) (.v (.int k b)) T K) fun T hT K=>bin_eql _ _ _ _⟩
theorem L_cA{Pr:Program}{f f':FuncId}{args args':List AV}{r:AV}{X:AEnd→Store→Prop}(h:Ans Pr f' args' r)(hf:Nat.beq f f'=true)(ha:args=args')(k:P r):∃ q,(∀ T,Keep S0 T→callF Pr f args T X fun v S=>v=q∧S=T)∧P q:=by
 obtain rfl:=Nat.eq_of_beq_eq_true hf
 subst ha
 exact L_callA h k
theorem L_cI{Pr:Program}{f f':FuncId}{args args':List AV}{r:AV}{X:AEnd→Store→Prop}(h:∀ T,Keep S0 T→AnsAt Pr f' args' T r)(hf:Nat.beq f f'=true)(ha:args=args')(k:P r):∃ q,(∀ T,Keep S0 T→callF Pr f args T X fun v S=>v=q∧S=T)∧P q:=by
 obtain rfl:=Nat.eq_of_beq_eq_true hf
 subst ha
 exact L_call h k
theorem L_cV{Pr:Program}{f f':FuncId}{fs args cs args':List AV}{r:AV}{X:AV→Store→Prop}(h:∀ T,Keep S0 T→AnsAt Pr f' args' T r)(hf:Nat.beq f f'=true)(ha:fs++args++cs=args')(k:P r):∃ q,(∀ T,Keep S0 T→callV Pr (.f (.func f) fs cs) args T (fun v S=>v=q∧S=T) X)∧P q:=by
 obtain rfl:=Nat.eq_of_beq_eq_true hf
 subst ha
 exact⟨r,fun T hT=>callV_at (h T hT) ⟨rfl,rfl⟩,k⟩
end
end Go.Ab
namespace Go.Ab
open Go
theorem callF_frz{P:Program}{f:FuncId}{args args2:List AV}{r:AV}{S:Store}(D:Nat→Bool)(hl:args.length=args2.length)(hcv:∀(k:Nat) (u u2:AV),args[k]? = some u→args2[k]? = some u2→Cv (S.frz D) S.n u u2)(h:Ans P f args2 r)
    {Q:AEnd→Store→Prop} {K:AV→Store→Prop} (k:K r (S.frz D)):callF P f args S Q K:=
 .inl (ACalls.frz D hl hcv ((h _).mono fun e S' h=>by obtain⟨rfl,rfl⟩:=h;exact k))
theorem Keep.frz{S S':Store}(h:Keep S S'){n:Nat}(hn:S.n≤n):Keep S (S'.frz (newer n)):=
 ⟨h.1,fun i hi=>by rw[frz_false (by simp[newer];omega)];exact h.2 i hi⟩
end Go.Ab
namespace Go.Ab
open Go
section
variable {A:AV→Prop} {P:AV→Prop} {S0:Store} {b:Bool}
theorem J_rnF(h:b=false):(∃ t:Bool,wantT (.v (.bool b)) false=some t∧∃ q,gd t (A q) (q = .v undef)∧P q) = ∃ q,A q∧P q:=by subst h;exact J_run
theorem J_rnT(h:b=true):(∃ t:Bool,wantT (.v (.bool b)) true=some t∧∃ q,gd t (A q) (q = .v undef)∧P q) = ∃ q,A q∧P q:=by subst h;exact J_run
theorem J_skF(h:b=true):(∃ t:Bool,wantT (.v (.bool b)) false=some t∧∃ q,gd t (A q) (q = .v undef)∧P q)=P (.v undef):=by subst h;exact J_skipTF
theorem J_skT(h:b=false):(∃ t:Bool,wantT (.v (.bool b)) true=some t∧∃ q,gd t (A q) (q = .v undef)∧P q)=P (.v undef):=by subst h;exact J_skipFT
theorem J_pkT(h:b=true){x y:AV}:(∃ q,(pick (.v (.bool b)) x y S0 fun v S=>v=q∧S=S0)∧P q)=P x:=by subst h;exact J_pickT
theorem J_pkF(h:b=false){x y:AV}:(∃ q,(pick (.v (.bool b)) x y S0 fun v S=>v=q∧S=S0)∧P q)=P y:=by subst h;exact J_pickF
theorem J_rnnF(h:b=true):(∃ t:Bool,wantT (.v (.bool (!b))) false=some t∧∃ q,gd t (A q) (q = .v undef)∧P q) = ∃ q,A q∧P q:=by subst h;exact J_run
theorem J_rnnT(h:b=false):(∃ t:Bool,wantT (.v (.bool (!b))) true=some t∧∃ q,gd t (A q) (q = .v undef)∧P q) = ∃ q,A q∧P q:=by subst h;exact J_run
theorem J_sknF(h:b=false):(∃ t:Bool,wantT (.v (.bool (!b))) false=some t∧∃ q,gd t (A q) (q = .v undef)∧P q)=P (.v undef):=by subst h;exact J_skipTF
theorem J_sknT(h:b=true):(∃ t:Bool,wantT (.v (.bool (!b))) true=some t∧∃ q,gd t (A q) (q = .v undef)∧P q)=P (.v undef):=by subst h;exact J_skipFT
theorem J_pknT(h:b=false){x y:AV}:(∃ q,(pick (.v (.bool (!b))) x y S0 fun v S=>v=q∧S=S0)∧P q)=P x:=by subst h;exact J_pickT
theorem J_pknF(h:b=true){x y:AV}:(∃ q,(pick (.v (.bool (!b))) x y S0 fun v S=>v=q∧S=S0)∧P q)=P y:=by subst h;exact J_pickF
end
end Go.Ab
set_option linter.unusedVariables false
set_option linter.unusedSimpArgs false
namespace Go.Ab
open Go Go.RowKit
def allD(_:Nat):Bool:=true
def Store.plain(S:Store):Prop:=∀ i o,i<S.n→S.obj i=some o→o.frzs=true
theorem ACalls.lend{P:Program}{f:FuncId}{args args2:List AV}{S:Store}{x:Value}(hS:S.plain)(hl:args.length=args2.length)
    (hcv:∀(k:Nat) (u u2:AV),args[k]? = some u→args2[k]? = some u2→Cv (S.frz allD) S.n u u2) (h:AnsAt P f args2 (S.frz allD) (.v x)):AnsAt P f args S (.v x):=by
 refine⟨h.1,fun w g vs hh ha=>?_⟩
 have hf:=heap_frz hh allD
 have hm:=mv_frz hh allD
 have hn:(g.frz S allD).n=S.n:=hh.n
 have ha1:Args w (g.frz S allD) args vs:=⟨ha.1,fun k u hu=>(ha.2 k u hu).mv hm⟩
 have ha2:=Args.cv hf hl hcv ha1
 have hcut:(g.frz S allD).cut S.n=g.frz S allD:=by
  rw[←hn]
  rfl
 rw[hcut]at ha2
 refine(h.2 w _ vs hf ha2).mono ?_
 rintro e w' ⟨r,S',g',h1,h2,h3,rfl,rfl⟩
 have mv:Mv w g w' g:=⟨h2.os,h2.tape,h2.output,h2.size,fun b hb=>h2.keep b (.inl hb),fun _ hb=>hb,Nat.le_refl _,fun _ _=>rfl,fun _ _=>rfl,fun _ _=>rfl⟩
 refine⟨.ret (.v x),S,g,⟨hh.n,fun b hb=>Nat.lt_of_lt_of_le (hh.im b hb) h2.size,fun i o ho=>?_,hh.sp,hh.gl.mv mv⟩,mv,?_,rfl,rfl⟩
 ·exact(hh.ob i o ho).mv mv (h2.keep _ (.inr ⟨i,o,rfl,ho,hS i o (hh.n ▸ (hh.ob i o ho).lt) ho,rfl⟩)) (hh.ob i o ho).imY
 ·cases e with
  |returned v =>
   have h3:R w' g' (.v x) v:=h3
   obtain rfl:=h3.inv_v
   exact R.v _
  |panicked chain=>exact h3.elim
  |outgrown=>exact h3.elim
theorem callF_lend{P:Program}{f:FuncId}{args args2:List AV}{S:Store}{x:Value}(hS:S.plain)(hl:args.length=args2.length)
    (hcv:∀(k:Nat) (u u2:AV),args[k]? = some u→args2[k]? = some u2→Cv (S.frz allD) S.n u u2) (h:Ans P f args2 (.v x)) {Q:AEnd→Store→Prop} {K:AV→Store→Prop} (k:K (.v x) S):callF P f args S Q K:=
 callF_at (ACalls.lend hS hl hcv (h _)) k
theorem ACalls.law0{P:Program}{f:FuncId}{args:List AV}(h:AnsAt P f args S0 (.v (.bool true))){w:World}(hg:Gl P w (g0 w)){vs:Array Value}(hl:args.length=vs.size)(hr:∀(k:Nat) (u:AV),args[k]? = some u→R w (g0 w) u (vs.getD k undef)):
    Calls P f vs w fun e w'=>e = .returned (.bool true)∧Below w.heap.size w w':=by
 refine((h:ACalls P f args S0 _).2 w (g0 w) vs (heap0 P w hg) ⟨hl,hr⟩).mono ?_
 rintro e w' ⟨r,S',g',h1,h2,h3,rfl,rfl⟩
 cases e with
 |returned v=>exact⟨by rw[R.inv_v h3],h2.os,h2.tape,h2.output,h2.size,fun k hk=>h2.keep k hk⟩
 |panicked chain=>exact h3.elim
 |outgrown=>exact h3.elim
end Go.Ab

/- Witness -/
import Derived.Below
import Derived.Laws.Rows
import Derived.Laws.OwnMore
import Derived.Laws.Slices
import Derived.WalkKit
import Derived.Tactics
import Derived.Deep.Draws
import Derived.KernelRfl
import Derived.Laws.CopyRow
import Derived.Laws.IdiomCopy
import Derived.MapKept
import Derived.Maps.RangeRun
import Derived.Laws.StructEq
import Derived.Lib.AppendStr
import Derived.Lib.UnsafeStr
import Derived.Laws.BytesString
import Derived.WalkSmall
import Derived.WalkMore
import Derived.Laws.LoneSync
import Derived.Still
set_option linter.unusedVariables false
set_option linter.unusedSimpArgs false
namespace Go.Ab
open Go Go.RowKit
variable {D:List Deferred}
theorem IT{a b:ByteArray}(h:a.data=b.data):a=b:=by cases a;cases b;cases h;rfl
inductive Key where
 |i (n:Int)
 |s (b:List UInt8)
 |p (x y:Int)
 deriving DecidableEq
inductive KK where
 |i (k:IntKind)
 |s
 |p (k:IntKind)
 deriving DecidableEq
def Key.val:KK→Key→Value
 |.i k,.i n=>.int k n
 |.s,.s b=>.string ⟨b.toArray⟩
 |.p k,.p x y=>.agg #[.int k x,.int k y]
 |_,_=>undef
def Key.fits:KK→Key→Bool
 |.i _,.i _=>true
 |.s,.s _=>true
 |.p _,.p _ _=>true
 |_,_=>false
inductive AV where
 |v (x:Value)
 |nl
 |p (id i j:Nat)
 |s (id i n:Nat)
 |l (es:List (List AV))
 |q (c:List AV) (j:Nat)
 |f (fn:Fn) (first cap:List AV)
 |a (cs:List AV)
 |t (vs:List AV)
 |i (t:TypeId) (x:AV)
 |m (id:Nat)
 |mt (kk:KK) (es:List (Key × AV))
 |j
 deriving Inhabited
def AV.one:AV→Bool
 |.v x=>x.oneCell'
 |.a _|.t _|.j=>false
 |_=>true
structure Gh where
 n:Nat
 blk:Nat→Nat
 sz:Nat→Nat
 cap:Nat→Nat
 im:Nat→Prop
def HT(kk:KK)(es:List (Key × AV))(ms:Array MapEntry):Prop:=
 ms.size=es.length∧∀(i:Nat) (e:Key × AV),es[i]? = some e→e.1.fits kk=true∧∃ m,ms[i]? = some m∧m.key=e.1.val kk∧m.born=i
inductive R (w:World) (g:Gh):AV→Value→Prop
 |v (x:Value):R w g (.v x) x
 |nl (A:Option Addr):R w g .nl (.slice A 0 0)
 |p (id i j:Nat) (h:id<g.n):R w g (.p id i j) (.pointer (some ⟨g.blk id,i*g.sz id+j,none⟩))
 |s (id i n c:Nat) (A:Addr) (h:id<g.n) (hn:n≤c) (hc:i+c≤g.cap id) (hA:0<c→A=⟨g.blk id,i*g.sz id,none⟩):R w g (.s id i n) (.slice (some A) n c)
 |l (es:List (List AV)) (A:Option Addr) (c sz:Nat) (vs:Nat→Nat→Value) (hc:es.length≤c)
    (hm:es≠[]→∃ ad,A=some ad∧g.im ad.block∧∀ i c',es[i]? = some c'→c'.length=sz∧∀ j,j<sz→w.cell? (ad.add (i*sz+j))=some (vs i j))
    (h1:∀(i:Nat) (c':List AV) (j:Nat) (u:AV),es[i]? = some c'→c'[j]? = some u→u.one=true)
    (hR:∀(i:Nat) (c':List AV) (j:Nat) (u:AV),es[i]? = some c'→c'[j]? = some u→R w g u (vs i j)):R w g (.l es) (.slice A es.length c)
 |q (c:List AV) (j:Nat) (ad:Addr) (vs:Nat→Value) (him:g.im ad.block) (hm:∀ k,k<c.length→w.cell? (ad.add k)=some (vs k))
    (h1:∀(k:Nat) (u:AV),c[k]? = some u→u.one=true) (hR:∀(k:Nat) (u:AV),c[k]? = some u→R w g u (vs k)):R w g (.q c j) (.pointer (some (ad.add j)))
 |f (fn:Fn) (fs cs:List AV) (fs' cs':Array Value) (hf:fs.length=fs'.size) (hc:cs.length=cs'.size)
    (hF:∀(k:Nat) (u:AV),fs[k]? = some u→R w g u (fs'.getD k undef)) (hC:∀(k:Nat) (u:AV),cs[k]? = some u→R w g u (cs'.getD k undef)):R w g (.f fn fs cs) (.func fn fs' cs')
 |a (cs:List AV) (cs':Array Value) (hl:cs.length=cs'.size) (h1:∀(k:Nat) (u:AV),cs[k]? = some u→u.one=true)
    (hR:∀(k:Nat) (u:AV),cs[k]? = some u→R w g u (cs'.getD k undef)):R w g (.a cs) (.agg cs')
 |t (cs:List AV) (cs':Array Value) (hl:cs.length=cs'.size)
    (hR:∀(k:Nat) (u:AV),cs[k]? = some u→R w g u (cs'.getD k undef)):R w g (.t cs) (.tuple cs')
 |i (t:TypeId) (x:AV) (y:Value) (h:R w g x y):R w g (.i t x) (.iface t y)
 |m (id:Nat) (h:id<g.n):R w g (.m id) (.map (some (g.blk id)))
 |mt (kk:KK) (es:List (Key × AV)) (r:Nat) (ms:Array MapEntry) (him:g.im r) (hm:w.heap[r]? = some (.map ms ms.size)) (hrow:HT kk es ms)
    (hR:∀(i:Nat) (e:Key × AV),es[i]? = some e→R w g e.2 (ms[i]?.getD default).val):R w g (.mt kk es) (.map (some r))
 |j (y:Value):R w g .j y
structure Mv (w:World) (g:Gh) (w':World) (g':Gh):Prop where
 os:w'.os=w.os
 tape:w'.tape=w.tape
 output:w'.output=w.output
 size:w.heap.size≤w'.heap.size
 AR:∀ b,g.im b→w'.heap[b]? = w.heap[b]?
 im:∀ b,g.im b→g'.im b
 n:g.n≤g'.n
 blk:∀ id,id<g.n→g'.blk id=g.blk id
 sz:∀ id,id<g.n→g'.sz id=g.sz id
 cap:∀ id,id<g.n→g'.cap id=g.cap id
theorem Mv.refl(w:World)(g:Gh):Mv w g w g:=⟨rfl,rfl,rfl,Nat.le_refl _,fun _ _=>rfl,fun _ h=>h,Nat.le_refl _,fun _ _=>rfl,fun _ _=>rfl,fun _ _=>rfl⟩
theorem Mv.trans{w:World}{g:Gh}{w1:World}{g1:Gh}{w2:World}{g2:Gh}(h:Mv w g w1 g1)(k:Mv w1 g1 w2 g2):Mv w g w2 g2 where
 os:=k.os.trans h.os
 tape:=k.tape.trans h.tape
 output:=k.output.trans h.output
 size:=Nat.le_trans h.size k.size
 AR b hb:=(k.AR b (h.im b hb)).trans (h.AR b hb)
 im b hb:=k.im b (h.im b hb)
 n:=Nat.le_trans h.n k.n
 blk id hi:=(k.blk id (Nat.lt_of_lt_of_le hi h.n)).trans (h.blk id hi)
 sz id hi:=(k.sz id (Nat.lt_of_lt_of_le hi h.n)).trans (h.sz id hi)
 cap id hi:=(k.cap id (Nat.lt_of_lt_of_le hi h.n)).trans (h.cap id hi)
theorem Ix(a:Addr)(n:Nat):(a.add n).block=a.block:=by unfold Addr.add;split<;>rfl
theorem add_add(a:Addr)(m n:Nat):(a.add m).add n=a.add (m+n):=by
 unfold Addr.add
 by_cases h1:m=0<;>by_cases h2:n=0<;>simp[h1,h2,Nat.add_assoc]
theorem Ej(b o n:Nat):(⟨b,o,none⟩:Addr).add n=⟨b,o+n,none⟩:=by
 unfold Addr.add
 by_cases h:n=0<;>simp[h]
theorem IQ{w w':World}{a:Addr}(h:w'.heap[a.block]? = w.heap[a.block]?):w'.cell? a=w.cell? a:=by
 unfold World.cell?
 rw[h]
theorem R.mv{w:World}{g:Gh}{w':World}{g':Gh}(m:Mv w g w' g'){u:AV}{y:Value}(h:R w g u y):R w' g' u y:=by
 induction h with
 |v x=>exact .v x
 |nl A=>exact .nl A
 |p id i j h =>
  have:=R.p (w:=w') (g:=g') id i j (Nat.lt_of_lt_of_le h m.n)
  rwa [m.blk id h,m.sz id h]at this
 |s id i n c A h hn hc hA =>
  exact .s id i n c A (Nat.lt_of_lt_of_le h m.n) hn (by rw[m.cap id h];exact hc) (by rw[m.blk id h,m.sz id h];exact hA)
 |l es A c sz vs hc hm h1 hR ih =>
  refine .l es A c sz vs hc (fun he=>?_) h1 ih
  obtain⟨ad,e,hi,hcell⟩:=hm he
  refine⟨ad,e,m.im _ hi,fun i c' hc'=>⟨(hcell i c' hc').1,fun j hj=>?_⟩⟩
  rw[IQ (w:=w) (w':=w') (a:=ad.add (i*sz+j)) (by rw[Ix];exact m.AR _ hi)]
  exact(hcell i c' hc').2 j hj
 |q c j ad vs him hm h1 hR ih =>
  refine .q c j ad vs (m.im _ him) (fun k hk=>?_) h1 ih
  rw[IQ (w:=w) (w':=w') (a:=ad.add k) (by rw[Ix];exact m.AR _ him)]
  exact hm k hk
 |f fn fs cs fs' cs' hf hc hF hC ih1 ih2=>exact .f fn fs cs fs' cs' hf hc ih1 ih2
 |a cs cs' hl h1 hR ih=>exact .a cs cs' hl h1 ih
 |t cs cs' hl hR ih=>exact .t cs cs' hl ih
 |i t x y h ih=>exact .i t x y ih
 |m id h =>
  have:=R.m (w:=w') (g:=g') id (Nat.lt_of_lt_of_le h m.n)
  rwa [m.blk id h]at this
 |mt kk es r ms him hm hrow hR ih=>exact .mt kk es r ms (m.im _ him) ((m.AR r him).trans hm) hrow ih
 |j y=>exact .j y
theorem R.OQ{w:World}{g:Gh}{u:AV}{y:Value}(h:R w g u y)(h1:u.one=true):y.oneCell'=true:=by
 cases h<;>first|rfl|exact h1|(simp[AV.one]at h1)
theorem R.DT{w:World}{g:Gh}{id i j:Nat}{y:Value}(h:R w g (.p id i j) y):id<g.n∧y = .pointer (some ⟨g.blk id,i*g.sz id+j,none⟩):=by cases h;exact⟨‹_›,rfl⟩
theorem R.BB{w:World}{g:Gh}{x y:Value}(h:R w g (.v x) y):y=x:=by cases h;rfl
theorem R.GH{w:World}{g:Gh}{y:Value}(h:R w g .nl y):∃ A,y = .slice A 0 0:=by cases h;exact⟨_,rfl⟩
theorem R.FX{w:World}{g:Gh}{id i n:Nat}{y:Value}(h:R w g (.s id i n) y):id<g.n∧∃ A c,y = .slice (some A) n c∧n≤c∧i+c≤g.cap id∧(0<c→A=⟨g.blk id,i*g.sz id,none⟩):=by
 cases h;exact⟨‹_›,_,_,rfl,‹_›,‹_›,‹_›⟩
theorem R.IL{w:World}{g:Gh}{es:List (List AV)}{y:Value}(h:R w g (.l es) y):∃(A:Option Addr) (c sz:Nat) (vs:Nat→Nat→Value),y = .slice A es.length c∧es.length≤c∧
    (es≠[]→∃ ad,A=some ad∧g.im ad.block∧∀ i c',es[i]? = some c'→c'.length=sz∧∀ j,j<sz→w.cell? (ad.add (i*sz+j))=some (vs i j))∧
    (∀(i:Nat) (c':List AV) (j:Nat) (u:AV),es[i]? = some c'→c'[j]? = some u→u.one=true∧R w g u (vs i j)):=by
 cases h with
 |l es A c sz vs hc hm h1 hR=>exact⟨A,c,sz,vs,rfl,hc,hm,fun i c' j u h2 h3=>⟨h1 i c' j u h2 h3,hR i c' j u h2 h3⟩⟩
inductive Bw where
 |cells (t:TypeId) (es:List (List AV)) (live:Bool)
 |map (kk:KK) (es:List (Key × AV)) (live:Bool)
 |sit (s:ByteArray) (pos:Nat)
 |mit (x:AV) (n:Nat) (seen:List Nat)
 deriving Inhabited
def Bw.live:Bw→Bool
 |.cells _ _ l=>l
 |.map _ _ l=>l
 |.sit _ _=>true
 |.mit _ _ _=>true
structure Aa where
 n:Nat
 obj:Nat→Option Bw
def Aa.new(S:Aa)(o:Bw):Aa:=⟨S.n+1,fun i=>if i=S.n then some o else S.obj i⟩
def Aa.Dl(S:Aa)(id:Nat)(o:Bw):Aa:=⟨S.n,fun i=>if i=id then some o else S.obj i⟩
def Aa.kill(S:Aa)(id:Nat):Aa:=⟨S.n,fun i=>if i=id then none else S.obj i⟩
def Am(S S':Aa):Prop:=S.n≤S'.n∧∀ i,i<S.n→S'.obj i=S.obj i
theorem Am.refl(S:Aa):Am S S:=⟨Nat.le_refl _,fun _ _=>rfl⟩
theorem Am.trans{S S1 S2:Aa}(h:Am S S1)(k:Am S1 S2):Am S S2:=⟨Nat.le_trans h.1 k.1,fun i hi=>(k.2 i (Nat.lt_of_lt_of_le hi h.1)).trans (h.2 i hi)⟩
theorem Am.new{S S':Aa}(h:Am S S')(o:Bw):Am S (S'.new o):=⟨Nat.le_trans h.1 (Nat.le_succ _),fun i hi=>by
 have:=h.1
 simp only[Aa.new]
 rw[if_neg (by omega)]
 exact h.2 i hi⟩
theorem Am.kill{S S':Aa}(h:Am S S'){id:Nat}(hid:S.n≤id):Am S (S'.kill id):=⟨h.1,fun i hi=>by
 simp only[Aa.kill]
 rw[if_neg (by omega)]
 exact h.2 i hi⟩
theorem Am.Dl{S S':Aa}(h:Am S S'){id:Nat}(hid:S.n≤id)(o:Bw):Am S (S'.Dl id o):=⟨h.1,fun i hi=>by
 simp only[Aa.Dl]
 rw[if_neg (by omega)]
 exact h.2 i hi⟩
structure Nt (P:Program) (w:World) (g:Gh) (id:Nat) (t:TypeId) (es:List (List AV)) (live:Bool):Prop where
 lt:id<g.n
 blk:g.blk id<w.heap.size
 imY:live=true→¬ g.im (g.blk id)
 imN:live=false→g.im (g.blk id)
 len:es.length≤g.cap id
 info:∃ i,P.info? t=some i∧i.size=g.sz id
 row:∃ cs:Array Value,w.heap[g.blk id]? = some (.cells cs t (0,0))∧cs.size=g.cap id*g.sz id∧
  ∀(i:Nat) (c:List AV),es[i]? = some c→c.length=g.sz id∧∀(k:Nat) (u:AV),c[k]? = some u→u.one=true∧R w g u (cs.getD (i*g.sz id+k) undef)
def NK(P:Program)(w:World)(g:Gh)(id:Nat):Bw→Prop
 |.cells t es _=>es.length≤g.cap id∧(∃ i,P.info? t=some i∧i.size=g.sz id)∧∃ cs:Array Value,w.heap[g.blk id]? = some (.cells cs t (0,0))∧cs.size=g.cap id*g.sz id∧
  ∀(i:Nat) (c:List AV),es[i]? = some c→c.length=g.sz id∧∀(k:Nat) (u:AV),c[k]? = some u→u.one=true∧R w g u (cs.getD (i*g.sz id+k) undef)
 |.map kk es _=>∃ ms,w.heap[g.blk id]? = some (.map ms ms.size)∧HT kk es ms∧∀(i:Nat) (e:Key × AV),es[i]? = some e→R w g e.2 (ms[i]?.getD default).val
 |.sit s pos=>w.heap[g.blk id]? = some (.stringIter s pos)
 |.mit x n seen=>∃ r,w.heap[g.blk id]? = some (.mapIter (some r) n seen.toArray n)∧R w g x (.map (some r))
structure zB (P:Program) (w:World) (g:Gh) (id:Nat) (o:Bw):Prop where
 lt:id<g.n
 blk:g.blk id<w.heap.size
 imY:o.live=true→¬ g.im (g.blk id)
 imN:o.live=false→g.im (g.blk id)
 row:NK P w g id o
theorem NK.mv{P:Program}{w:World}{g:Gh}{w':World}{g':Gh}(m:Mv w g w' g'){id:Nat}(lt:id<g.n){o:Bw}(h:NK P w g id o)(hb:w'.heap[g.blk id]? = w.heap[g.blk id]?):NK P w' g' id o:=by
 cases o with
 |cells t es l =>
  obtain⟨h1,h2,cs,h3,h4,h5⟩:=h
  refine⟨by rw[m.cap id lt];exact h1,by rw[m.sz id lt];exact h2,cs,by rw[m.blk id lt,hb];exact h3,by rw[m.cap id lt,m.sz id lt];exact h4,fun i c hc=>?_⟩
  rw[m.sz id lt]
  exact⟨(h5 i c hc).1,fun k u hu=>⟨((h5 i c hc).2 k u hu).1,((h5 i c hc).2 k u hu).2.mv m⟩⟩
 |map kk es l =>
  obtain⟨ms,h1,h2,h3⟩:=h
  exact⟨ms,by rw[m.blk id lt,hb];exact h1,h2,fun i e he=>(h3 i e he).mv m⟩
 |sit s pos =>
  show w'.heap[g'.blk id]? = _
  rw[m.blk id lt,hb]
  exact h
 |mit x n seen =>
  obtain⟨r,h1,h2⟩:=h
  exact⟨r,by rw[m.blk id lt,hb];exact h1,h2.mv m⟩
theorem zB.mv{P:Program}{w:World}{g:Gh}{w':World}{g':Gh}(m:Mv w g w' g'){id:Nat}{o:Bw}(h:zB P w g id o)
    (hb:w'.heap[g.blk id]? = w.heap[g.blk id]?) (hn:o.live=true→¬ g'.im (g.blk id)):zB P w' g' id o where
 lt:=Nat.lt_of_lt_of_le h.lt m.n
 blk:=by rw[m.blk id h.lt];exact Nat.lt_of_lt_of_le h.blk m.size
 imY hl:=by rw[m.blk id h.lt];exact hn hl
 imN hl:=by rw[m.blk id h.lt];exact m.im _ (h.imN hl)
 row:=h.row.mv m h.lt hb
def sS : List String := ["strconv.ErrSyntax", "strconv.ErrRange", "internal/strconv.uint64pow10", "internal/bytealg.MaxLen"]
def GOk(n:String)(cs:Array Value):Prop:=
 ((n = "strconv.ErrSyntax" ∨ n = "strconv.ErrRange") → ∃ te pe, cs = #[.iface te pe]) ∧ (n = "internal/strconv.uint64pow10" → cs = ((List.range 20).map fun i => Value.int .u64 ((10 ^ i : Nat) : Int)).toArray) ∧ (n = "internal/bytealg.MaxLen" → ∃ m, cs[0]? = some (.int .i64 m))
def Gl(P:Program)(w:World)(g:Gh):Prop:=∀ n b,P.globalNamed n=some b→n∈sS→g.im b∧∃ cs,w.var? P n=some cs∧GOk n cs
theorem Gl.mv{P:Program}{w:World}{g:Gh}{w':World}{g':Gh}(m:Mv w g w' g')(h:Gl P w g):Gl P w' g':=fun n b hn hm=>by
 obtain⟨h1,cs,h2,h3⟩:=h n b hn hm
 refine⟨m.im b h1,cs,?_,h3⟩
 have hk:=m.AR b h1
 unfold World.var? at h2 ⊢
 rw[hn]at h2 ⊢
 show(match w'.heap[b]? with|some (.cells cs _ _)=>some cs|_=>none)=some cs
 rw[hk]
 exact h2
structure Ba (P:Program) (w:World) (g:Gh) (S:Aa):Prop where
 n:g.n=S.n
 im:∀ b,g.im b→b<w.heap.size
 ob:∀ id o,S.obj id=some o→zB P w g id o
 sp:∀ a b o o',S.obj a=some o→S.obj b=some o'→o.live=true→o'.live=true→g.blk a=g.blk b→a=b
 gl:Gl P w g
theorem zB.cells{P:Program}{w:World}{g:Gh}{id:Nat}{t:TypeId}{es:List (List AV)}{live:Bool}(h:zB P w g id (.cells t es live)):Nt P w g id t es live:=
 ⟨h.lt,h.blk,h.imY,h.imN,h.row.1,h.row.2.1,h.row.2.2⟩
theorem Nt.gen{P:Program}{w:World}{g:Gh}{id:Nat}{t:TypeId}{es:List (List AV)}{live:Bool}(h:Nt P w g id t es live):zB P w g id (.cells t es live):=
 ⟨h.lt,h.blk,h.imY,h.imN,h.len,h.info,h.row⟩
theorem Ba.obj{P:Program}{w:World}{g:Gh}{S:Aa}(hh:Ba P w g S)(id:Nat)(t:TypeId)(es:List (List AV))(live:Bool)(ho:S.obj id=some (.cells t es live)):Nt P w g id t es live:=(hh.ob id _ ho).cells
theorem Ba.sep{P:Program}{w:World}{g:Gh}{S:Aa}(hh:Ba P w g S)(a b:Nat)(t:TypeId)(es:List (List AV))(t':TypeId)(es':List (List AV))(h1:S.obj a=some (.cells t es true))(h2:S.obj b=some (.cells t' es' true))(h:g.blk a=g.blk b):a=b:=
 hh.sp a b _ _ h1 h2 rfl rfl h
theorem Nt.mv{P:Program}{w:World}{g:Gh}{w':World}{g':Gh}(m:Mv w g w' g'){id:Nat}{t:TypeId}{es:List (List AV)}{live:Bool}(h:Nt P w g id t es live)
    (hb:w'.heap[g.blk id]? = w.heap[g.blk id]?) (hn:live=true→¬ g'.im (g.blk id)):Nt P w' g' id t es live:=(h.gen.mv m hb hn).cells
structure Env where
 n:Nat
 f:Nat→AV
 out:∀ k,n≤k→f k = .j
theorem Env.kM(env:Env)(d:Nat)(u:AV)(k:Nat)(h:env.n≤k):(match Nat.beq k d with|true=>(match Nat.blt d env.n with|true=>u|false=>.j)|false=>env.f k) = .j:=by
 split
 ·rename_i e
  have:k=d:=Nat.eq_of_beq_eq_true e
  subst this
  have:Nat.blt k env.n=false:=by
   cases hb:Nat.blt k env.n with
   |false=>rfl
   |true=>have:k<env.n:=by simpa[Nat.blt_eq]using hb
          omega
  rw[this]
 ·exact env.out k h
def Env.put(env:Env)(d:Nat)(u:AV):Env:=
 ⟨env.n,fun i=>match Nat.beq i d with|true=>(match Nat.blt d env.n with|true=>u|false=>.j)|false=>env.f i,env.kM d u⟩
theorem Env.Eg(env:Env){d k:Nat}(u:AV)(h:k≠d):(env.put d u).f k=env.f k:=by
 have:Nat.beq k d=false:=by
  cases hb:Nat.beq k d with
  |false=>rfl
  |true=>exact absurd (Nat.eq_of_beq_eq_true hb) h
 simp[Env.put,this]
theorem Env.Gv(env:Env){d:Nat}(u:AV)(h:d<env.n):(env.put d u).f d=u:=by
 have h1:Nat.beq d d=true:=Nat.beq_refl d
 have h2:Nat.blt d env.n=true:=by simpa[Nat.blt_eq]using h
 simp[Env.put,h1,h2]
theorem Env.ext{e e':Env}(h:e.n=e'.n)(k:∀ i,e.f i=e'.f i):e=e':=by
 obtain⟨n,f,o⟩:=e
 obtain⟨n',f',o'⟩:=e'
 simp only at h k
 subst h
 have:f=f':=funext k
 subst this
 rfl
structure BX (D:List Deferred) (w:World) (g:Gh) (env:Env) (a:Act):Prop where
 size:env.n=a.tmps.size
 rel:∀(k:Nat),R w g (env.f k) (a.tmps.getD k undef)
 defers:a.defers=D
theorem BX.mv{w:World}{g:Gh}{w':World}{g':Gh}{env:Env}{a:Act}(m:Mv w g w' g')(h:BX D w g env a):BX D w' g' env a:=
 ⟨h.size,fun k=>(h.rel k).mv m,h.defers⟩
def Bt(env:Env):Option Tmp→AV→Env
 |some d,u=>env.put d u
 |none,_=>env
theorem BX.put{w:World}{g:Gh}{env:Env}{a:Act}(h:BX D w g env a)(d:Option Tmp){u:AV}{y:Value}(hr:R w g u y):BX D w g (Bt env d u) (a.put d y):=by
 cases d with
 |none=>exact h
 |some d =>
  refine⟨by simp[Bt,Env.put,Act.put,h.size],fun k=>?_,h.defers⟩
  simp only[Act.put,Array.getD_eq_getD_getElem?,Array.getElem?_setIfInBounds]
  have hl:=h.size
  by_cases e:d=k
  ·subst e
   by_cases hd:d<env.n
   ·have hd':d<a.tmps.size:=hl ▸ hd
    rw[show(Bt env (some d) u).f d=u from env.Gv u hd]
    simpa[hd']using hr
   ·rw[show(Bt env (some d) u).f d = .j from(env.put d u).out d (Nat.le_of_not_lt hd)]
    exact .j _
  ·rw[if_neg e,show(Bt env (some d) u).f k=env.f k from env.Eg u (fun q=>e q.symm)]
   have:=h.rel k
   rwa [Array.getD_eq_getD_getElem?]at this
def Xk:Value→AV
 |.slice none 0 0=>.nl
 |x=>.v x
def Kk:Value→AV
 |.agg cs=>if cs.all Value.oneCell' then .a (cs.toList.map Xk)else .v (.agg cs)
 |x=>Xk x
theorem jJ(w:World)(g:Gh)(x:Value):R w g (Xk x) x:=by
 unfold Xk
 split
 ·exact .nl _
 ·exact .v _
theorem X5{x:Value}(h:x.oneCell'=true):(Xk x).one=true:=by
 unfold Xk
 split
 ·rfl
 ·exact h
theorem Je(w:World)(g:Gh)(x:Value):R w g (Kk x) x:=by
 unfold Kk
 split
 ·rename_i cs
  split
  ·rename_i h
   refine .a _ _ (by simp) (fun k u hu=>?_) (fun k u hu=>?_)
   ·simp only[List.getElem?_map,Array.getElem?_toList,Option.map_eq_some_iff]at hu
    obtain⟨y,hy,rfl⟩:=hu
    exact X5 (Array.all_eq_true_iff_forall_mem.1 h y (Array.mem_of_getElem? hy))
   ·simp only[List.getElem?_map,Array.getElem?_toList,Option.map_eq_some_iff]at hu
    obtain⟨y,hy,rfl⟩:=hu
    simp only[Array.getD_eq_getD_getElem?,hy,Option.getD_some]
    exact jJ _ _ _
  ·exact .v _
 ·exact jJ _ _ _
def ev(env:Env):Operand→AV
 |.tmp t=>env.f t
 |.const x=>Kk x
 |.global g=>.v (.pointer (some ⟨g,0,none⟩))
 |.func f=>.f (.func f) [] []
theorem BX.ev{w:World}{g:Gh}{env:Env}{a:Act}(h:BX D w g env a)(x:Operand):R w g (Ab.ev env x) (a.eval x):=by
 cases x with
 |tmp t =>
  exact h.rel t
 |const x=>exact Je _ _ _
 |global g=>exact .v _
 |func f=>exact .f _ _ _ _ _ rfl rfl (fun k u hu=>by simp at hu) (fun k u hu=>by simp at hu)
def E7(P:Program)(o:Oper)(env:Env)(S:Aa)(K X:AV→Aa→Prop):Prop:=
 ∀(D:List Deferred) (w:World) (g:Gh) (a:Act) (next:Act→World→Prop) (Q:Exit→Act→World→Prop),Ba P w g S→BX D w g env a→
  (∀ v S' w' g' y,Ba P w' g' S'→Mv w g w' g'→R w' g' v y→K v S'→next (a.put o.dst y) w')→
  (∀ u S' w' g' y,Ba P w' g' S'→Mv w g w' g'→R w' g' u y→X u S'→Q (.panic [{ v:=y,recovered:=false }]) a w')→
  o.wp P a w next Q
theorem A9{P:Program}{o:Oper}{a:Act}{w w':World}{next:Act→World→Prop}{Q:Exit→Act→World→Prop}{y:Value}(h:(execOp a.eval o).run P w = .ok (.value y) w')(hn:next (a.put o.dst y) w'):o.wp P a w next Q:=by
 unfold Oper.wp
 rw[h]
 exact hn
theorem Me{P:Program}{o:Oper}{a:Act}{w w':World}{next:Act→World→Prop}{Q:Exit→Act→World→Prop}(h:(execOp a.eval o).run P w = .ok .skip w')(hn:next (a.put o.dst undef) w'):o.wp P a w next Q:=by
 unfold Oper.wp
 rw[h]
 exact hn
theorem Bd{P:Program}{o:Oper}{env:Env}{S:Aa}{K X:AV→Aa→Prop}{u:AV}(hK:K u S)
    (h:∀(D:List Deferred) (w:World) (g:Gh) (a:Act),Ba P w g S→BX D w g env a→∃ y,(execOp a.eval o).run P w = .ok (.value y) w∧R w g u y):E7 P o env S K X:=by
 intro D w g a next Q hh he hn hx
 obtain⟨y,hrun,hr⟩:=h D w g a hh he
 exact A9 hrun (hn u S w g y hh (Mv.refl _ _) hr hK)
def Fa(P:Program)(t:TypeId):Option Nat:=(P.info? t).map (·.size)
def NH(P:Program)(t:TypeId):Option Bool:=(P.underlying t).map fun|.struct _|.array _ _=>true|_=>false
theorem C4{P:Program}{t:TypeId}{n:Nat}(h:Fa P t=some n)(w:World):(sizeOf t).run P w = .ok n w:=by
 unfold Fa at h
 obtain⟨i,hi,rfl⟩:=Option.map_eq_some_iff.1 h
 simp[sizeOf,typeInfo,hi]
theorem Jk{P:Program}{t:TypeId}{b:Bool}(h:NH P t=some b)(w:World):(isAgg t).run P w = .ok b w:=by
 unfold NH at h
 obtain⟨d,hd,rfl⟩:=Option.map_eq_some_iff.1 h
 unfold isAgg
 rw[Sem.run_bind,run_underlying hd w]
 cases d<;>rfl
def BK{α:Type}(o:Option α)(K:α→Prop):Prop:=∃ u,o=some u∧K u
@[simp] theorem BP{α:Type}(u:α)(K:α→Prop):BK (some u) K=K u:=by
 unfold BK
 apply propext
 constructor
 ·rintro⟨v,h,hk⟩;cases h;exact hk
 ·exact fun h=>⟨u,rfl,h⟩
@[simp] theorem Aa3{α:Type}(K:α→Prop):BK (none:Option α) K=False:=by
 unfold BK
 apply propext
 constructor
 ·rintro⟨v,h,_⟩;cases h
 ·exact False.elim
def Aa.get(S:Aa)(id i:Nat):Option (List AV):=
 match S.obj id with
 |some (.cells _ es _)=>es[i]?
 |_=>none
def place(S:Aa):AV→Option (List AV × Nat)
 |.p id i j=>(S.get id i).map (·,j)
 |.q c j=>some (c,j)
 |_=>none
def Sq(S:Aa)(x:AV):Option AV:=(place S x).bind fun(c,j)=>c[j]?
def Xp(S:Aa)(n:Nat)(x:AV):Option (List AV):=(place S x).bind fun(c,j)=>if j+n≤c.length then some ((c.drop j).take n)else none
theorem Ee{w:World}{b o:Nat}{cs:Array Value}{t:TypeId}{fr:Nat × Nat}(h:w.heap[b]? = some (.cells cs t fr)):w.cell? ⟨b,o,none⟩=cs[o]?:=by
 simp[World.cell?,h]
theorem Fj{P:Program}{w:World}{g:Gh}{S:Aa}(hh:Ba P w g S){x:AV}{y:Value}(hr:R w g x y){c:List AV}{j:Nat}(hp:place S x=some (c,j)):
    ∃ ad:Addr,y = .pointer (some ad)∧∀ k u,c[j+k]? = some u→∃ z,w.cell? (ad.add k)=some z∧R w g u z∧u.one=true:=by
 cases hr with
 |p id i j h =>
  simp only[place,Aa.get,Option.map_eq_some_iff]at hp
  obtain⟨c',hc',he⟩:=hp
  cases he
  split at hc'
  ·rename_i t es live ho
   obtain⟨cs,h1,h2,h3⟩:=(hh.obj _ _ _ _ ho).row
   refine⟨_,rfl,fun k u hu=>?_⟩
   obtain⟨hl,h4⟩:=h3 i c hc'
   obtain⟨h5,h6⟩:=h4 (j+k) u hu
   have hk:j+k<c.length:=(List.getElem?_eq_some_iff.1 hu).1
   have hi:i<es.length:=(List.getElem?_eq_some_iff.1 hc').1
   have hb:i*g.sz id+(j+k)<cs.size:=by
    rw[h2]
    have h7:(i+1)*g.sz id≤g.cap id*g.sz id:=Nat.mul_le_mul_right _ (Nat.le_trans hi (hh.obj _ _ _ _ ho).len)
    rw[Nat.add_mul,Nat.one_mul]at h7
    omega
   refine⟨cs.getD (i*g.sz id+(j+k)) undef,?_,h6,h5⟩
   rw[Ej,Ee h1,Nat.add_assoc]
   simp[Array.getD_eq_getD_getElem?,Array.getElem?_eq_getElem hb]
  ·cases hc'
 |q c' j' ad vs him hm h1 hR =>
  simp only[place,Option.some.injEq,Prod.mk.injEq]at hp
  obtain⟨rfl,rfl⟩:=hp
  refine⟨_,rfl,fun k u hu=>?_⟩
  have hk:=(List.getElem?_eq_some_iff.1 hu).1
  refine⟨vs (j'+k),?_,hR _ _ hu,h1 _ _ hu⟩
  rw[add_add]
  exact hm _ hk
 |_=>simp[place]at hp
def Ay(x:AV)(S:Aa)(K:AV→Aa→Prop):Prop:=BK (Sq S x) fun u=>K u S
def AB(n:Nat)(x:AV)(S:Aa)(K:AV→Aa→Prop):Prop:=BK (Xp S n x) fun c=>K (.a c) S
def ld(P:Program)(t:TypeId)(x:AV)(S:Aa)(K:AV→Aa→Prop):Prop:=
 match NH P t,Fa P t with
 |some false,_=>Ay x S K
 |some true,some n=>AB n x S K
 |_,_=>False
theorem XL{P:Program}{w:World}{g:Gh}{S:Aa}(hh:Ba P w g S){t:TypeId}{x:AV}{y:Value}(hr:R w g x y){K:AV→Aa→Prop}(h:ld P t x S K):
    ∃ ad u v,y = .pointer (some ad)∧(loadVar t ad).run P w = .ok v w∧R w g u v∧K u S:=by
 unfold ld at h
 split at h
 ·rename_i ha
  obtain⟨u,hu,hK⟩:=h
  unfold Sq at hu
  obtain⟨⟨c,j⟩,hp,hc⟩:=Option.bind_eq_some_iff.1 hu
  obtain⟨ad,hy,hcell⟩:=Fj hh hr hp
  obtain⟨z,hz,hrz,_⟩:=hcell 0 u (by simpa using hc)
  refine⟨ad,u,z,hy,?_,hrz,hK⟩
  have hz':w.cell? ad=some z:=by simpa[Addr.add]using hz
  simp[loadVar,Jk ha,hz']
 ·rename_i n ha hs
  obtain⟨c,hu,hK⟩:=h
  unfold Xp at hu
  obtain⟨⟨c',j⟩,hp,hc⟩:=Option.bind_eq_some_iff.1 hu
  dsimp only at hc
  split at hc
  ·rename_i hl
   cases hc
   obtain⟨ad,hy,hcell⟩:=Fj hh hr hp
   have hf:∀ k,∃ z,k<n→∃ u,c'[j+k]? = some u∧w.cell? (ad.add k)=some z∧R w g u z∧u.one=true:=by
    intro k
    by_cases hk:k<n
    ·obtain⟨z,h1,h2,h3⟩:=hcell k _ (List.getElem?_eq_getElem (show j+k<c'.length by omega))
     exact⟨z,fun _=>⟨_,List.getElem?_eq_getElem (show j+k<c'.length by omega),h1,h2,h3⟩⟩
    ·exact⟨undef,fun h=>absurd h hk⟩
   obtain⟨f,hf⟩:=Classical.axiomOfChoice hf
   refine⟨ad,_,.agg ((List.range n).map f).toArray,hy,?_,?_,hK⟩
   ·have hl:(loadCells ad n).run P w = .ok ((List.range n).map f).toArray w:=by
      have:=run_loadCells_list (P:=P) w ad ((List.range n).map f) (fun k v hv=>by
       rw[List.getElem?_map]at hv
       obtain⟨k',hk',rfl⟩:=Option.map_eq_some_iff.1 hv
       have hk2:=(List.getElem?_eq_some_iff.1 hk').1
       have hk3:=(List.getElem?_eq_some_iff.1 hk').2
       simp at hk2 hk3
       subst hk3
       obtain⟨_,_,h1,_⟩:=hf k hk2
       exact h1)
      simpa using this
    simp[loadVar,Jk ha,C4 hs,hl]
   ·have hget:∀(k:Nat) (u:AV),((c'.drop j).take n)[k]? = some u→k<n∧c'[j+k]? = some u:=by
      intro k u hu
      rw[List.getElem?_take]at hu
      split at hu
      ·rename_i hk
       rw[List.getElem?_drop]at hu
       exact⟨hk,hu⟩
      ·cases hu
    refine .a _ _ (by simp;omega) (fun k u hu=>?_) (fun k u hu=>?_)
    ·obtain⟨hk,hu⟩:=hget k u hu
     obtain⟨u',hu',_,_,h3⟩:=hf k hk
     rw[hu]at hu'
     cases hu'
     exact h3
    ·obtain⟨hk,hu⟩:=hget k u hu
     obtain⟨u',hu',_,h2,_⟩:=hf k hk
     rw[hu]at hu'
     cases hu'
     simpa[Array.getD_eq_getD_getElem?,hk]using h2
  ·cases hc
 ·exact h.elim
theorem Z2{P:Program}{o:Oper}{t:TypeId}{x:Operand}(ho:o.op = .load t x){env:Env}{S:Aa}{K X:AV→Aa→Prop}(h:ld P t (ev env x) S K):E7 P o env S K X:=by
 intro D w g a next Q hh he hn hx
 obtain⟨ad,u,v,hy,hrun,hr,hK⟩:=XL hh (he.ev x) h
 refine A9 (w':=w) ?_ (hn u S w g v hh (Mv.refl _ _) hr hK)
 simp[execOp,ho,hy,Instr.loadAt,Instr.sureAddr,hrun]
def Gh.add(g:Gh)(b cap sz:Nat):Gh:=
 { n:=g.n+1,blk:=fun i=>if i=g.n then b else g.blk i,sz:=fun i=>if i=g.n then sz else g.sz i,cap:=fun i=>if i=g.n then cap else g.cap i,im:=g.im }
@[simp] theorem D6(g:Gh)(b cap sz:Nat):(g.add b cap sz).blk g.n=b:=by simp[Gh.add]
@[simp] theorem Nn(g:Gh)(b cap sz:Nat):(g.add b cap sz).sz g.n=sz:=by simp[Gh.add]
@[simp] theorem Iw(g:Gh)(b cap sz:Nat):(g.add b cap sz).cap g.n=cap:=by simp[Gh.add]
theorem ME{w w':World}{g:Gh}(b cap sz:Nat)(m:Mv w g w' g):Mv w g w' (g.add b cap sz) where
 os:=m.os
 tape:=m.tape
 output:=m.output
 size:=m.size
 AR:=m.AR
 im _ h:=h
 n:=Nat.le_succ _
 blk id h:=by simp[Gh.add,Nat.ne_of_lt h]
 sz id h:=by simp[Gh.add,Nat.ne_of_lt h]
 cap id h:=by simp[Gh.add,Nat.ne_of_lt h]
theorem lB{w w':World}(g:Gh)(ho:w'.os=w.os)(ht:w'.tape=w.tape)(hp:w'.output=w.output)(h:w'.heap=w.heap):Mv w g w' g:=
 ⟨ho,ht,hp,by rw[h];exact Nat.le_refl _,fun _ _=>by rw[h],fun _ h=>h,Nat.le_refl _,fun _ _=>rfl,fun _ _=>rfl,fun _ _=>rfl⟩
theorem Ba.same{P:Program}{w w':World}{g:Gh}{S:Aa}(hh:Ba P w g S)(m:Mv w g w' g)(h:w'.heap=w.heap):Ba P w' g S where
 n:=hh.n
 im b hb:=by rw[h];exact hh.im b hb
 ob id o ho:=(hh.ob id o ho).mv m (by rw[h]) (fun hl=>(hh.ob id o ho).imY hl)
 sp:=hh.sp
 gl:=hh.gl.mv m
theorem D3(w:World)(g:Gh):Mv w g w.drew g:=lB g rfl rfl rfl rfl
theorem Ba.drew{P:Program}{w:World}{g:Gh}{S:Aa}(hh:Ba P w g S):Ba P w.drew g S:=hh.same (D3 w g) rfl
theorem Ba.kill{P:Program}{w:World}{g:Gh}{S:Aa}(hh:Ba P w g S)(id:Nat):Ba P w g (S.kill id) where
 gl:=hh.gl
 n:=hh.n
 im:=hh.im
 ob i o ho:=by
  simp only[Aa.kill]at ho
  split at ho
  ·cases ho
  ·exact hh.ob i o ho
 sp a b o o' h1 h2:=by
  simp only[Aa.kill]at h1 h2
  split at h1
  ·cases h1
  ·split at h2
   ·cases h2
   ·exact hh.sp a b o o' h1 h2
theorem FQ{P:Program}{w:World}{g:Gh}{S:Aa}(hh:Ba P w g S)(o:Obj):Mv w g (w.alloc o) g:=
 ⟨rfl,rfl,rfl,by simp,fun b hb=>Below.heap_alloc w o b (hh.im b hb),fun _ h=>h,Nat.le_refl _,fun _ _=>rfl,fun _ _=>rfl,fun _ _=>rfl⟩
theorem lS{P:Program}{w:World}{g:Gh}{S:Aa}(hh:Ba P w g S)(o:Obj):
    Ba P (w.alloc o) { g with im:=fun b=>g.im b∨b=w.heap.size } S∧Mv w g (w.alloc o) { g with im:=fun b=>g.im b∨b=w.heap.size }:=by
 have m:Mv w g (w.alloc o) { g with im:=fun b=>g.im b∨b=w.heap.size }:=
  ⟨rfl,rfl,rfl,by simp,fun b hb=>Below.heap_alloc w o b (hh.im b hb),fun _ h=>.inl h,Nat.le_refl _,fun _ _=>rfl,fun _ _=>rfl,fun _ _=>rfl⟩
 refine⟨⟨hh.n,?_,fun id o' ho=>?_,hh.sp,hh.gl.mv m⟩,m⟩
 ·intro b hb
  simp only[World.size_alloc]
  rcases hb with hb|rfl
  ·exact Nat.lt_succ_of_lt (hh.im b hb)
  ·exact Nat.lt_succ_self _
 ·have hob:=hh.ob _ _ ho
  refine hob.mv m (Below.heap_alloc w _ _ hob.blk) (fun hl hb=>?_)
  rcases hb with hb|hb
  ·exact hob.imY hl hb
  ·have:=hob.blk
   omega
def B7(w:World)(g:Gh)(sz:Nat)(es:List (List AV))(cs:Array Value):Prop:=
 ∀(i:Nat) (c:List AV),es[i]? = some c→c.length=sz∧∀(k:Nat) (u:AV),c[k]? = some u→u.one=true∧R w g u (cs.getD (i*sz+k) undef)
theorem B7.mv{w:World}{g:Gh}{w':World}{g':Gh}(m:Mv w g w' g'){sz:Nat}{es:List (List AV)}{cs:Array Value}(h:B7 w g sz es cs):B7 w' g' sz es cs:=
 fun i c hc=>⟨(h i c hc).1,fun k u hu=>⟨((h i c hc).2 k u hu).1,((h i c hc).2 k u hu).2.mv m⟩⟩
theorem Rv{P:Program}{w:World}{g:Gh}{S:Aa}(hh:Ba P w g S)(o:Obj):Ba P (w.alloc o) g S where
 gl:=hh.gl.mv (FQ hh o)
 n:=hh.n
 im b hb:=by have:=hh.im b hb;simp;omega
 ob id ao ho:=(hh.ob id ao ho).mv (FQ hh o) (Below.heap_alloc w _ _ (hh.ob id ao ho).blk) (fun hl=>(hh.ob id ao ho).imY hl)
 sp:=hh.sp
theorem Rw{P:Program}{w:World}{g:Gh}{S:Aa}(hh:Ba P w g S){b cap sz:Nat}{ao:Bw}(hb:b<w.heap.size)(hlive:ao.live=true)(him:¬ g.im b)(hsep:∀ i o,S.obj i=some o→o.live=true→g.blk i≠b)
    (hrow:NK P w (g.add b cap sz) g.n ao):Ba P w (g.add b cap sz) (S.new ao)∧Mv w g w (g.add b cap sz):=by
 have m:=ME b cap sz (Mv.refl w g)
 refine⟨⟨?_,hh.im,?_,?_,hh.gl.mv m⟩,m⟩
 ·show g.n+1=S.n+1
  rw[hh.n]
 ·intro i o ho
  simp only[Aa.new]at ho
  split at ho
  ·rename_i e
   have e':i=g.n:=by rw[hh.n];exact e
   subst e'
   cases ho
   exact⟨Nat.lt_succ_self _,by simpa using hb,fun _=>by rw[D6];exact him,fun h=>(by rw[hlive]at h;cases h),hrow⟩
  ·have hi:=hh.ob _ _ ho
   exact hi.mv m rfl (fun hl=>hi.imY hl)
 ·intro a c o1 o2 h1 h2 l1 l2 he
  simp only[Aa.new]at h1 h2
  split at h1<;>split at h2
  ·omega
  ·rename_i e1 e2
   have e':a=g.n:=by rw[hh.n];exact e1
   subst e'
   rw[D6,m.blk c (hh.ob _ _ h2).lt]at he
   exact absurd he.symm (hsep _ _ h2 l2)
  ·rename_i e1 e2
   have e':c=g.n:=by rw[hh.n];exact e2
   subst e'
   rw[D6,m.blk a (hh.ob _ _ h1).lt]at he
   exact absurd he (hsep _ _ h1 l1)
  ·rw[m.blk a (hh.ob _ _ h1).lt,m.blk c (hh.ob _ _ h2).lt]at he
   exact hh.sp _ _ _ _ h1 h2 l1 l2 he
theorem FZ{P:Program}{w:World}{g:Gh}{S:Aa}(hh:Ba P w g S)(o:Obj){cap sz:Nat}{ao:Bw}(hlive:ao.live=true)(hrow:NK P (w.alloc o) (g.add w.heap.size cap sz) g.n ao):
    Ba P (w.alloc o) (g.add w.heap.size cap sz) (S.new ao)∧Mv w g (w.alloc o) (g.add w.heap.size cap sz):=by
 obtain⟨h1,h2⟩:=Rw (Rv hh o) (b:=w.heap.size) (cap:=cap) (sz:=sz) (ao:=ao) (by simp) hlive (fun hb=>Nat.lt_irrefl _ (hh.im _ hb)) (fun i o' ho _ he=>by have:=(hh.ob _ _ ho).blk;omega) hrow
 exact⟨h1,(FQ hh o).trans h2⟩
theorem JE{P:Program}{w:World}{g:Gh}{S:Aa}(hh:Ba P w g S){t:TypeId}{es:List (List AV)}{cs:Array Value}{cap sz:Nat}(hsz:Fa P t=some sz)
    (hcs:cs.size=cap*sz) (hl:es.length≤cap) (hr:B7 w g sz es cs):
    Ba P (w.alloc (.cells cs t)) (g.add w.heap.size cap sz) (S.new (.cells t es true))∧Mv w g (w.alloc (.cells cs t)) (g.add w.heap.size cap sz):=by
 have m:=ME w.heap.size cap sz (FQ hh (.cells cs t))
 refine FZ hh (.cells cs t) rfl ⟨by simpa using hl,?_,cs,?_,by simpa using hcs,?_⟩
 ·unfold Fa at hsz
  obtain⟨i,hi,rfl⟩:=Option.map_eq_some_iff.1 hsz
  exact⟨i,hi,by simp⟩
 ·rw[D6]
  exact Go.heap_alloc_new w _
 ·rw[Nn]
  exact hr.mv m
theorem VU{P:Program}{w:World}{g:Gh}{S:Aa}(hh:Ba P w g S){id:Nat}{t:TypeId}{es:List (List AV)}(ho:S.obj id=some (.cells t es true))(cs':Array Value):Mv w g (w.setRow (g.blk id) cs') g:=
 ⟨rfl,rfl,rfl,by simp[World.setRow],fun b hb=>Go.setRow_other w _ b _ (fun e=>(hh.obj _ _ _ _ ho).imY rfl (e ▸ hb)),fun _ h=>h,Nat.le_refl _,fun _ _=>rfl,fun _ _=>rfl,fun _ _=>rfl⟩
theorem FY{P:Program}{w:World}{g:Gh}{S:Aa}(hh:Ba P w g S){id:Nat}{o0 o1:Bw}(ho:S.obj id=some o0)(l0:o0.live=true)(l1:o1.live=true){w':World}
    (m:Mv w g w' g) (hs:w'.heap.size=w.heap.size) (hb:∀ b,b≠g.blk id→w'.heap[b]? = w.heap[b]?) (hrow:NK P w' g id o1):Ba P w' g (S.Dl id o1) where
 gl:=hh.gl.mv m
 n:=hh.n
 im b h:=by rw[hs];exact hh.im b h
 ob i o h:=by
  have hid:=hh.ob _ _ ho
  simp only[Aa.Dl]at h
  split at h
  ·rename_i e
   subst e
   cases h
   exact⟨hid.lt,by rw[hs];exact hid.blk,fun _=>hid.imY l0,fun h=>(by rw[l1]at h;cases h),hrow⟩
  ·rename_i e
   have hi:=hh.ob _ _ h
   refine hi.mv m (hb _ (fun hq=>?_)) (fun hl=>hi.imY hl)
   cases hlv:o.live with
   |true=>exact e (hh.sp _ _ _ _ h ho hlv l0 hq)
   |false=>exact hid.imY l0 (hq ▸ hi.imN hlv)
 sp a b oa ob h1 h2 la lb he:=by
  simp only[Aa.Dl]at h1 h2
  split at h1<;>split at h2
  ·omega
  ·rename_i e1 e2
   subst e1
   exact hh.sp _ _ _ _ ho h2 l0 lb he
  ·rename_i e1 e2
   subst e2
   exact hh.sp _ _ _ _ h1 ho la l0 he
  ·exact hh.sp _ _ _ _ h1 h2 la lb he
theorem heap_set{P:Program}{w:World}{g:Gh}{S:Aa}(hh:Ba P w g S){id:Nat}{t:TypeId}{es es':List (List AV)}(ho:S.obj id=some (.cells t es true)){cs':Array Value}
    (hcs:cs'.size=g.cap id*g.sz id) (hl:es'.length≤g.cap id) (hr:B7 w g (g.sz id) es' cs'):
    Ba P (w.setRow (g.blk id) cs') g (S.Dl id (.cells t es' true))∧Mv w g (w.setRow (g.blk id) cs') g:=by
 have m:=VU hh ho cs'
 have hid:=hh.obj _ _ _ _ ho
 obtain⟨cs,hrow,_,_⟩:=hid.row
 exact⟨FY hh ho rfl rfl m (by simp[World.setRow]) (fun b hb=>Go.setRow_other w _ _ _ hb) ⟨hl,hid.info,cs',Go.setRow_heap w _ _ _ _ _ hrow,hcs,hr.mv m⟩,m⟩
theorem M5{P:Program}{w:World}{g:Gh}{S:Aa}(hh:Ba P w g S){id:Nat}{t:TypeId}{es:List (List AV)}(ho:S.obj id=some (.cells t es true)):
    Ba P w (g.add (g.blk id) (g.cap id) (g.sz id)) ((S.kill id).new (.cells t es true))∧Mv w g w (g.add (g.blk id) (g.cap id) (g.sz id)):=by
 have m:=ME (g.blk id) (g.cap id) (g.sz id) (Mv.refl w g)
 have hid:=hh.obj _ _ _ _ ho
 refine Rw (hh.kill id) (ao:=.cells t es true) hid.blk rfl (hid.imY rfl) (fun i o h hl he=>?_) ?_
 ·simp only[Aa.kill]at h
  split at h
  ·cases h
  ·rename_i e
   exact e (hh.sp _ _ _ _ h ho hl rfl he)
 ·obtain⟨cs,h1,h2,h3⟩:=hid.row
  refine⟨by simpa using hid.len,by simpa using hid.info,cs,by simpa using h1,by simpa using h2,?_⟩
  have h3':B7 w g (g.sz id) es cs:=h3
  have:=h3'.mv m
  simpa[B7]using this
def cellsOf:AV→Option (List AV)
 |.a cs=>some cs
 |x=>if x.one then some [x]else none
theorem Oo{y:Value}(h:y.oneCell'=true):y.cells = #[y]:=by
 cases y<;>first|rfl|(simp[Value.oneCell']at h)
theorem Dd{w:World}{g:Gh}{x:AV}{y:Value}(hr:R w g x y){cs:List AV}(h:cellsOf x=some cs):
    cs.length=y.cells.size∧∀(k:Nat) (u:AV),cs[k]? = some u→u.one=true∧R w g u (y.cells.getD k undef):=by
 by_cases hx:x.one=true
 ·have h':cs = [x]:=by
    cases x<;>simp_all [cellsOf,AV.one]
  subst h'
  rw[Oo (hr.OQ hx)]
  refine⟨rfl,fun k u hu=>?_⟩
  cases k with
  |zero=>cases hu;exact⟨hx,hr⟩
  |succ k=>simp at hu
 ·cases hr with
  |a cs1 cs' hl h1 hR =>
   cases h
   exact⟨hl,fun k u hu=>⟨h1 k u hu,hR k u hu⟩⟩
  |v z=>simp[cellsOf,hx]at h
  |t cs1 cs' hl hR=>simp[cellsOf,AV.one]at h
  |j y=>simp[cellsOf,AV.one]at h
  |_=>simp[AV.one]at hx
def Kq{α:Type}(l:List α)(o:Nat)(vs:List α):List α:=l.take o++vs++l.drop (o+vs.length)
theorem Gp{α:Type}{l:List α}{o:Nat}{vs:List α}(h:o+vs.length≤l.length):(Kq l o vs).length=l.length:=by
 simp[Kq];omega
theorem LF{α:Type}{l:List α}{o:Nat}{vs:List α}(h:o+vs.length≤l.length)(k:Nat):(Kq l o vs)[k]? = if o≤k∧k<o+vs.length then vs[k - o]? else l[k]?:=by
 unfold Kq
 have hto:(l.take o).length=o:=by simp;omega
 by_cases h1:k<o
 ·rw[if_neg (by omega),List.append_assoc,List.getElem?_append_left (by omega),List.getElem?_take,if_pos h1]
 ·by_cases h2:k<o+vs.length
  ·rw[if_pos (by omega),List.append_assoc,List.getElem?_append_right (by omega),List.getElem?_append_left (by omega),hto]
  ·rw[if_neg (by omega),List.getElem?_append_right (by simp;omega),List.getElem?_drop]
   congr 1
   simp
   omega
def zL(S:Aa)(x:AV)(cs:List AV):Option Aa:=
 match x with
 |.p id i j =>
  match S.obj id with
  |some (.cells t es true)=>(es[i]?).bind fun c=>if j+cs.length≤c.length then some (S.Dl id (.cells t (es.set i (Kq c j cs)) true))else none
  |_=>none
 |_=>none
def A8(n:Nat)(x v:AV)(S:Aa)(K:AV→Aa→Prop):Prop:=
 BK (cellsOf v) fun cs=>cs.length=n∧BK (zL S x cs) fun S'=>K .j S'
def st(P:Program)(t:TypeId)(x v:AV)(S:Aa)(K:AV→Aa→Prop):Prop:=
 match Fa P t with
 |some n=>A8 n x v S K
 |none=>False
theorem j6{P:Program}{t:TypeId}{x v:AV}{S:Aa}{K:AV→Aa→Prop}(h:st P t x v S K):∃ cs,cellsOf v=some cs∧Fa P t=some cs.length∧∃ S',zL S x cs=some S'∧K .j S':=by
 unfold st at h
 split at h
 ·rename_i n hn
  obtain⟨cs,h1,h2,S',h3,h4⟩:=h
  exact⟨cs,h1,by rw[hn,h2],S',h3,h4⟩
 ·exact h.elim
theorem GI{sz cap i n k:Nat}(hi:i<n)(hn:n≤cap)(hk:k<sz):i*sz+k<cap*sz:=by
 have h7:(i+1)*sz≤cap*sz:=Nat.mul_le_mul_right _ (Nat.le_trans hi hn)
 rw[Nat.add_mul,Nat.one_mul]at h7
 omega
theorem XB{P:Program}{o:Oper}{t:TypeId}{x y:Operand}(ho:o.op = .store t x y){env:Env}{S:Aa}{K X:AV→Aa→Prop}(h:st P t (ev env x) (ev env y) S K):E7 P o env S K X:=by
 obtain⟨cs,hcs,hsz,S',hS',hK⟩:=j6 h
 intro D w g a next Q hh he hn hx
 have hrx:=he.ev x
 have hry:=he.ev y
 obtain⟨hcl,hcR⟩:=Dd hry hcs
 generalize ev env x=X0 at hS' hrx
 unfold zL at hS'
 split at hS'
 ·rename_i id i j
  split at hS'
  ·rename_i t' es hob
   obtain⟨c,hc,hS'⟩:=Option.bind_eq_some_iff.1 hS'
   split at hS'
   ·rename_i hle
    cases hS'
    have hid:=hh.obj _ _ _ _ hob
    obtain⟨cs0,hrow,hrs,hrR⟩:=hid.row
    obtain⟨hclen,hcr⟩:=hrR i c hc
    have hi:i<es.length:=(List.getElem?_eq_some_iff.1 hc).1
    have hy:=hrx.DT.2
    have hfit:i*g.sz id+j+(a.eval y).cells.toList.length≤cs0.size:=by
     rw[hrs]
     simp only[Array.length_toList,←hcl]
     have h7:(i+1)*g.sz id≤g.cap id*g.sz id:=Nat.mul_le_mul_right _ (Nat.le_trans hi hid.len)
     rw[Nat.add_mul,Nat.one_mul]at h7
     omega
    have hone:∀ v∈(a.eval y).cells.toList,v.oneCell'=true:=by
     intro v hv
     obtain⟨k,hk⟩:=List.getElem?_of_mem hv
     have hk':k<cs.length:=by
      have:=(List.getElem?_eq_some_iff.1 hk).1
      simp at this
      omega
     obtain⟨h1,h2⟩:=hcR k _ (List.getElem?_eq_getElem hk')
     have h3:=h2.OQ h1
     simp at hk
     simpa[Array.getD_eq_getD_getElem?,hk]using h3
    have hst:=Go.run_storeCells_at (P:=P) (g.blk id) (i*g.sz id+j) t' (a.eval y).cells.toList 0 cs0 w hrow (by simpa using hfit) hone
    rw[Nat.add_zero]at hst
    have hfit':i*g.sz id+j+(a.eval y).cells.toList.length≤cs0.toList.length:=by simpa using hfit
    have hro:B7 w g (g.sz id) (es.set i (Kq c j cs)) (Kq cs0.toList (i*g.sz id+j) (a.eval y).cells.toList).toArray:=by
     intro i' c' hc'
     rw[List.getElem?_set]at hc'
     split at hc'
     ·rename_i e
      subst e
      cases hc'
      refine⟨by rw[Gp hle,hclen],fun k u hu=>?_⟩
      rw[LF hle]at hu
      simp only[Array.getD_eq_getD_getElem?,List.getElem?_toArray]
      rw[LF hfit']
      split at hu
      ·rename_i hk
       rw[if_pos (by simp[←hcl];omega)]
       obtain⟨h1,h2⟩:=hcR _ _ hu
       refine⟨h1,?_⟩
       rw[show i*g.sz id+k - (i*g.sz id+j)=k - j from by omega]
       simpa[Array.getD_eq_getD_getElem?]using h2
      ·rename_i hk
       rw[if_neg (by simp[←hcl];omega)]
       obtain⟨h1,h2⟩:=hcr _ _ hu
       exact⟨h1,by simpa[Array.getD_eq_getD_getElem?]using h2⟩
     ·rename_i e
      obtain⟨h1,h2⟩:=hrR i' c' hc'
      refine⟨h1,fun k u hu=>?_⟩
      obtain⟨h3,h4⟩:=h2 k u hu
      refine⟨h3,?_⟩
      have hk:k<g.sz id:=by have:=(List.getElem?_eq_some_iff.1 hu).1;omega
      simp only[Array.getD_eq_getD_getElem?,List.getElem?_toArray]
      rw[LF hfit',if_neg ?_]
      ·simpa[Array.getD_eq_getD_getElem?]using h4
      ·simp only[Array.length_toList,←hcl]
       rcases Nat.lt_or_gt_of_ne e with h5|h5
       ·have h7:(i+1)*g.sz id≤i'*g.sz id:=Nat.mul_le_mul_right _ h5
        rw[Nat.add_mul,Nat.one_mul]at h7
        omega
       ·have h7:(i'+1)*g.sz id≤i*g.sz id:=Nat.mul_le_mul_right _ h5
        rw[Nat.add_mul,Nat.one_mul]at h7
        omega
    have hnew:=heap_set hh hob (cs':=(Kq cs0.toList (i*g.sz id+j) (a.eval y).cells.toList).toArray) (by simp[Gp hfit',hrs]) (by simpa using hid.len) hro
    refine Me ?_ (hn .j _ _ _ undef hnew.1 hnew.2 (.j _) hK)
    have hsz':(a.eval y).cells.size=cs.length:=hcl.symm
    simp[execOp,ho,hy,Instr.storeAt,Instr.sureAddr,storeVar,C4 hsz,hsz',hst,Kq]
   ·cases hS'
  ·cases hS'
 ·cases hS'
def zT(P:Program)(t:TypeId):Option Value:=(P.info? t).bind (·.zero)
theorem Hk{P:Program}{t:TypeId}{z:Value}(h:zT P t=some z)(w:World):(zeroValue t).run P w = .ok z w:=by
 unfold zT at h
 obtain⟨i,hi,hz⟩:=Option.bind_eq_some_iff.1 h
 simp[zeroValue,typeInfo,hi,hz]
theorem VL{w:World}{g:Gh}{x:AV}{y:Value}(hr:R w g x y){cs:List AV}(h:cellsOf x=some cs):B7 w g cs.length [cs] y.cells:=by
 obtain⟨h1,h2⟩:=Dd hr h
 intro i c hc
 cases i with
 |zero =>
  cases hc
  exact⟨rfl,fun k u hu=>by simpa using h2 k u hu⟩
 |succ i=>simp at hc
def Az(t n:Nat)(x:AV)(S:Aa)(K:AV→Aa→Prop):Prop:=
 BK (cellsOf x) fun cs=>cs.length=n∧K (.p S.n 0 0) (S.new (.cells t [cs] true))
def box(P:Program)(t:TypeId)(x:AV)(S:Aa)(K:AV→Aa→Prop):Prop:=
 match Fa P t with
 |some n=>Az t n x S K
 |none=>False
theorem Kc{P:Program}{t:TypeId}{x:AV}{S:Aa}{K:AV→Aa→Prop}(h:box P t x S K):∃ cs,cellsOf x=some cs∧Fa P t=some cs.length∧K (.p S.n 0 0) (S.new (.cells t [cs] true)):=by
 unfold box at h
 split at h
 ·rename_i n hn
  obtain⟨cs,h1,h2,h3⟩:=h
  exact⟨cs,h1,by rw[hn,h2],h3⟩
 ·exact h.elim
theorem RS{P:Program}{w:World}{g:Gh}{S:Aa}(hh:Ba P w g S){t:TypeId}{x:AV}{y:Value}(hr:R w g x y){cs:List AV}(hcs:cellsOf x=some cs)(hsz:Fa P t=some cs.length):
    Ba P (w.alloc (.cells y.cells t)) (g.add w.heap.size 1 cs.length) (S.new (.cells t [cs] true))∧Mv w g (w.alloc (.cells y.cells t)) (g.add w.heap.size 1 cs.length):=
 JE hh hsz (by rw[Nat.one_mul];exact(Dd hr hcs).1.symm) (Nat.le_refl _) (VL hr hcs)
theorem Xd{P:Program}{o:Oper}{t:TypeId}{x:Operand}(ho:o.op = .box t x){env:Env}{S:Aa}{K X:AV→Aa→Prop}(h:box P t (ev env x) S K):E7 P o env S K X:=by
 obtain⟨cs,hcs,hsz,hK⟩:=Kc h
 intro D w g a next Q hh he hn hx
 obtain⟨h1,h2⟩:=RS hh (he.ev x) hcs hsz
 have hr:=R.p (w:=w.alloc (.cells (a.eval x).cells t)) (g:=g.add w.heap.size 1 cs.length) g.n 0 0 (Nat.lt_succ_self _)
 refine A9 (y:=.pointer (some ⟨w.heap.size,0,none⟩)) (w':=w.alloc (.cells (a.eval x).cells t)) ?_ (hn _ _ _ _ _ h1 h2 ?_ hK)
 ·simp[execOp,ho,Instr.box,newVar,newRow]
 ·rw[←hh.n]
  simpa using hr
def alloc(P:Program)(t:TypeId)(S:Aa)(K:AV→Aa→Prop):Prop:=
 match zT P t with
 |some z=>box P t (Kk z) S K
 |none=>False
theorem RY{P:Program}{o:Oper}{t:TypeId}(ho:o.op = .alloc t){env:Env}{S:Aa}{K X:AV→Aa→Prop}(h:alloc P t S K):E7 P o env S K X:=by
 unfold alloc at h
 split at h
 ·rename_i z hz
  obtain⟨cs,hcs,hsz,hK⟩:=Kc h
  intro D w g a next Q hh he hn hx
  obtain⟨h1,h2⟩:=RS hh (Je w g z) hcs hsz
  have hr:=R.p (w:=w.alloc (.cells z.cells t)) (g:=g.add w.heap.size 1 cs.length) g.n 0 0 (Nat.lt_succ_self _)
  refine A9 (y:=.pointer (some ⟨w.heap.size,0,none⟩)) (w':=w.alloc (.cells z.cells t)) ?_ (hn _ _ _ _ _ h1 h2 ?_ hK)
  ·simp[execOp,ho,Instr.alloc,Hk hz,newVar,newRow]
  ·rw[←hh.n]
   simpa using hr
 ·exact h.elim
def Nw(w:World)(g:Gh)(cs:List AV)(cs':Array Value):Prop:=cs.length=cs'.size∧∀(k:Nat) (u:AV),cs[k]? = some u→u.one=true∧R w g u (cs'.getD k undef)
def CC(place:Nat→Option (Nat × Nat))(cells:List AV):List (Nat × AV)→Option (List AV)
 |[]=>some cells
 |(i,v) :: rest =>
  match place i with
  |none=>none
  |some (off,size) =>
   match cellsOf v with
   |none=>none
   |some cs=>if cs.length=size∧off+size≤cells.length then CC place (Kq cells off cs) rest else none
theorem Oh(off:Nat):∀(l:List Value) (n:Nat) (cells:Array Value),(∀ j,j<l.length→off+(n+j)<cells.size)→
    ((l.zipIdx n).foldl (fun cs (c,j)=>cs.setIfInBounds (off+j) c) cells).size=cells.size∧
    ∀ k,((l.zipIdx n).foldl (fun cs (c,j)=>cs.setIfInBounds (off+j) c) cells)[k]? = if off+n≤k∧k<off+n+l.length then l[k - (off+n)]? else cells[k]?
 |[],n,cells,_=>⟨rfl,fun k=>by rw[if_neg (by simp)];rfl⟩
 |c :: l,n,cells,h=>by
  obtain⟨h1,h2⟩:=Oh off l (n+1) (cells.setIfInBounds (off+n) c) (fun j hj=>by
   have:=h (j+1) (by simpa using hj)
   simp
   omega)
  refine⟨by simpa using h1,fun k=>?_⟩
  have h3:=h2 k
  simp only[List.zipIdx_cons,List.foldl_cons]
  rw[h3]
  have hn:=h 0 (by simp)
  simp only[List.length_cons]
  by_cases hk:off+(n+1)≤k∧k<off+(n+1)+l.length
  ·rw[if_pos hk,if_pos (by omega),show k - (off+n)=(k - (off+(n+1)))+1 from by omega,List.getElem?_cons_succ]
  ·rw[if_neg hk,Array.getElem?_setIfInBounds]
   by_cases he:off+n=k
   ·subst he
    have:off+n<cells.size:=by simpa using hn
    rw[if_pos rfl,if_pos this,if_pos (by omega)]
    simp
   ·rw[if_neg he,if_neg (by omega)]
theorem GM{w:World}{g:Gh}(place:Nat→Option (Nat × Nat)):∀(parts:List (Nat × AV)) (parts':List (Nat × Value)) (cells:List AV) (cells':Array Value) (res:List AV),
    parts.length=parts'.length→(∀(k:Nat) (p:Nat × AV) (q:Nat × Value),parts[k]? = some p→parts'[k]? = some q→p.1=q.1∧R w g p.2 q.2)→Nw w g cells cells'→CC place cells parts=some res→
    ∃ res',Instr.fill place cells' parts'=some res'∧Nw w g res res'
 |[],[],cells,cells',res,_,_,hf,h=>by
  cases h
  exact⟨cells',rfl,hf⟩
 |[],_ :: _,_,_,_,hl,_,_,_=>by cases hl
 |_ :: _,[],_,_,_,hl,_,_,_=>by cases hl
 |(i,v) :: parts,(i',v') :: parts',cells,cells',res,hl,hp,hf,h=>by
  obtain⟨hi,hr⟩:=hp 0 (i,v) (i',v') rfl rfl
  dsimp only at hi hr
  subst hi
  simp only[CC]at h
  simp only[Instr.fill]
  cases hpl:place i with
  |none=>rw[hpl]at h;cases h
  |some os =>
   obtain⟨off,size⟩:=os
   rw[hpl]at h
   dsimp only at h ⊢
   cases hcv:cellsOf v with
   |none=>rw[hcv]at h;cases h
   |some cs =>
    rw[hcv]at h
    dsimp only at h
    split at h
    ·rename_i hc
     obtain⟨hc1,hc2⟩:=hc
     obtain⟨hs,hR⟩:=Dd hr hcv
     have hsz:v'.cells.size=size:=by omega
     have hfit:¬ (off+v'.cells.size > cells'.size):=by have:=hf.1;omega
     rw[if_neg (by simp[hsz];have:=hf.1;omega)]
     have hfs:=Oh off v'.cells.toList 0 cells' (fun j hj=>by simp at hj ⊢;omega)
     refine GM place parts parts' (Kq cells off cs) _ res (by simpa using hl) (fun k p q h1 h2=>hp (k+1) p q (by simpa using h1) (by simpa using h2)) ?_ h
     rw[←Array.foldl_toList]
     have hz:(v'.cells.zipIdx).toList=v'.cells.toList.zipIdx 0:=by simp
     rw[hz]
     refine⟨by rw[Gp (by omega),hfs.1];exact hf.1,fun k u hu=>?_⟩
     rw[LF (by omega)]at hu
     rw[Array.getD_eq_getD_getElem?,hfs.2 k]
     split at hu
     ·rename_i hk
      rw[if_pos (by simp;omega)]
      have h5:=hR _ _ hu
      rw[Nat.add_zero]
      simpa[Array.getD_eq_getD_getElem?]using h5
     ·rename_i hk
      rw[if_neg (by simp;omega)]
      have h5:=hf.2 _ _ hu
      simpa[Array.getD_eq_getD_getElem?]using h5
    ·cases h
theorem Kz{w:World}{g:Gh}{env:Env}{a:Act}(he:BX D w g env a)(parts:Array (Nat × Operand)):
    (parts.toList.map fun(i,x)=>(i,ev env x)).length=(parts.map fun(i,x)=>(i,a.eval x)).toList.length∧
    ∀(k:Nat) (p:Nat × AV) (q:Nat × Value),(parts.toList.map fun(i,x)=>(i,ev env x))[k]? = some p→(parts.map fun(i,x)=>(i,a.eval x)).toList[k]? = some q→p.1=q.1∧R w g p.2 q.2:=by
 refine⟨by simp,fun k p q h1 h2=>?_⟩
 simp only[Array.toList_map,List.getElem?_map]at h1 h2
 obtain⟨⟨i,x⟩,hx,rfl⟩:=Option.map_eq_some_iff.1 h1
 rw[hx]at h2
 cases h2
 exact⟨rfl,he.ev x⟩
def CD(place:List (Nat × Nat))(zc:List AV)(parts:List (Nat × AV))(S:Aa)(K:AV→Aa→Prop):Prop:=
 BK (CC (fun i=>place[i]?) zc parts) fun cs=>K (.a cs) S
def places(P:Program):List Field→Option (List (Nat × Nat))
 |[]=>some []
 |f :: fs =>
  match Fa P f.type,places P fs with
  |some n,some l=>some ((f.offset,n) :: l)
  |_,_=>none
def build(P:Program)(t:TypeId)(parts:List (Nat × AV))(S:Aa)(K:AV→Aa→Prop):Prop:=
 match P.underlying t,zT P t with
 |some (.struct fs),some z =>
  match places P fs.toList,cellsOf (Kk z)with
  |some pl,some zc=>CD pl zc parts S K
  |_,_=>False
 |some (.array n e),some z =>
  match Fa P e,cellsOf (Kk z)with
  |some sz,some zc=>CD ((List.range n).map fun i=>(i*sz,sz)) zc parts S K
  |_,_=>False
 |_,_=>False
theorem run_places{P:Program}(w:World):∀(fs:List Field) (l:List (Nat × Nat)),places P fs=some l→(fs.mapM (m:=Sem) fun f=>do pure (f.offset,←sizeOf f.type)).run P w = .ok l w
 |[],l,h=>by cases h;simp
 |f :: fs,l,h=>by
  simp only[places]at h
  split at h
  ·rename_i n l' h1 h2
   cases h
   have ih:=run_places w fs l' h2
   simp at ih
   simp[C4 h1,ih]
  ·cases h
theorem Ia(w:World)(g:Gh)(z:Value){zc:List AV}(h:cellsOf (Kk z)=some zc):Nw w g zc z.cells:=Dd (Je w g z) h
theorem RR{P:Program}{o:Oper}{t:TypeId}{parts:Array (Nat × Operand)}(ho:o.op = .build t parts){env:Env}{S:Aa}{K X:AV→Aa→Prop}
    (h:build P t (parts.toList.map fun(i,x)=>(i,ev env x)) S K):E7 P o env S K X:=by
 unfold build at h
 split at h
 ·rename_i fs z hu hz
  split at h
  ·rename_i pl zc hpl hzc
   obtain⟨cs,hcs,hK⟩:=h
   refine Bd hK fun D w g a hh he=>?_
   obtain⟨hp1,hp2⟩:=Kz he parts
   obtain⟨res,h1,h2⟩:=GM (w:=w) (g:=g) (fun i=>pl[i]?) _ (parts.map fun(i,x)=>(i,a.eval x)).toList zc z.cells cs hp1 hp2 (Ia w g z hzc) hcs
   refine⟨.agg res,?_,.a _ _ h2.1 (fun k u hu=>(h2.2 k u hu).1) (fun k u hu=>(h2.2 k u hu).2)⟩
   have hm:=run_places (P:=P) w fs.toList pl hpl
   have hm':(fs.mapM (m:=Sem) fun f=>do pure (f.offset,←sizeOf f.type)).run P w = .ok pl.toArray w:=by
    rw[Array.mapM_eq_mapM_toList,Sem.run_map,hm]
    rfl
   simp only[execOp,ho,Instr.build,Sem.run_bind,Hk hz,Result.andThen_ok,run_underlying hu,hm',List.getElem?_toArray,h1,Sem.run_pure]
  ·exact h.elim
 ·rename_i n e z hu hz
  split at h
  ·rename_i sz zc hsz hzc
   obtain⟨cs,hcs,hK⟩:=h
   refine Bd hK fun D w g a hh he=>?_
   obtain⟨hp1,hp2⟩:=Kz he parts
   have hcs':CC (fun i=>some (i*sz,sz)) zc (parts.toList.map fun(i,x)=>(i,ev env x))=some cs:=by
    have hgen:∀(l:List (Nat × AV)) (c0 res:List AV),CC (fun i=>((List.range n).map fun i=>(i*sz,sz))[i]?) c0 l=some res→CC (fun i=>some (i*sz,sz)) c0 l=some res:=by
     intro l
     induction l with
     |nil=>exact fun c0 res h=>h
     |cons p l ih =>
      intro c0 res h
      obtain⟨i,v⟩:=p
      simp only[CC]at h ⊢
      by_cases hi:i<n
      ·have hpl:((List.range n).map fun i=>(i*sz,sz))[i]? = some (i*sz,sz):=by simp[hi]
       rw[hpl]at h
       dsimp only at h
       split at h
       ·cases h
       ·rename_i cs0 hc0
        split at h
        ·rename_i hc
         rw[if_pos hc]
         exact ih _ _ h
        ·cases h
      ·have:((List.range n).map fun i=>(i*sz,sz))[i]? = none:=by simp;omega
       rw[this]at h
       cases h
    exact hgen _ _ _ hcs
   obtain⟨res,h1,h2⟩:=GM (w:=w) (g:=g) (fun i=>some (i*sz,sz)) _ (parts.map fun(i,x)=>(i,a.eval x)).toList zc z.cells cs hp1 hp2 (Ia w g z hzc) hcs'
   refine⟨.agg res,?_,.a _ _ h2.1 (fun k u hu=>(h2.2 k u hu).1) (fun k u hu=>(h2.2 k u hu).2)⟩
   simp only[execOp,ho,Instr.build,Sem.run_bind,Hk hz,Result.andThen_ok,run_underlying hu,C4 hsz,h1,Sem.run_pure]
  ·exact h.elim
 ·exact h.elim
def chunks(sz len:Nat)(cs:List AV):List (List AV):=(List.range len).map fun i=>(cs.drop (i*sz)).take sz
def AU(e sz len:Nat)(zc:List AV)(parts:List (Nat × AV))(S:Aa)(K:AV→Aa→Prop):Prop:=
 BK (CC (fun i=>some (i*sz,sz)) ((List.range (len*sz)).map fun k=>zc.getD (k % zc.length) .j) parts) fun cs=>K (.s S.n 0 len) (S.new (.cells e (chunks sz len cs) true))∨K (.l (chunks sz len cs)) S
def mF(P:Program)(t:TypeId):Option TypeId:=match P.underlying t with|some (.slice e)=>some e|_=>none
theorem Gb{P:Program}{t e:TypeId}(h:mF P t=some e):P.underlying t=some (.slice e):=by
 unfold mF at h
 split at h
 ·rename_i h';cases h;exact h'
 ·cases h
def bsl(P:Program)(t:TypeId)(len:Nat)(parts:List (Nat × AV))(S:Aa)(K:AV→Aa→Prop):Prop:=
 match mF P t with
 |some e =>
  match Fa P e,zT P e with
  |some sz,some z =>
   match cellsOf (Kk z)with
   |some zc=>match decide (len*sz≤2 ^ 24) && decide (zc.length=sz)with
    |true=>AU e sz len zc parts S K
    |false=>False
   |none=>False
  |_,_=>False
 |none=>False
theorem TO{w:World}{g:Gh}{sz len:Nat}{cs:List AV}{cs':Array Value}(hf:Nw w g cs cs')(hl:cs.length=len*sz):B7 w g sz (chunks sz len cs) cs':=by
 intro i c hc
 unfold chunks at hc
 rw[List.getElem?_map]at hc
 obtain⟨i',hi',rfl⟩:=Option.map_eq_some_iff.1 hc
 obtain⟨h1,h2⟩:=List.getElem?_eq_some_iff.1 hi'
 simp at h1 h2
 subst h2
 have hb:i*sz+sz≤len*sz:=by
  have:(i+1)*sz≤len*sz:=Nat.mul_le_mul_right sz h1
  rwa [Nat.add_mul,Nat.one_mul]at this
 refine⟨by simp;omega,fun k u hu=>?_⟩
 rw[List.getElem?_take]at hu
 split at hu
 ·rw[List.getElem?_drop]at hu
  exact hf.2 _ _ hu
 ·cases hu
theorem Xc{P:Program}{o:Oper}{t:TypeId}{len:Nat}{parts:Array (Nat × Operand)}(ho:o.op = .buildSlice t len parts){env:Env}{S:Aa}{K X:AV→Aa→Prop}
    (h:bsl P t len (parts.toList.map fun(i,x)=>(i,ev env x)) S K):E7 P o env S K X:=by
 unfold bsl at h
 split at h
 case h_2=>exact h.elim
 rename_i e he0
 split at h
 case h_2=>exact h.elim
 rename_i sz z hsz hz
 split at h
 case h_2=>exact h.elim
 rename_i zc hzc
 split at h
 case h_2=>exact h.elim
 rename_i hb24
 simp only[Bool.and_eq_true,decide_eq_true_eq]at hb24
 obtain⟨h24,hzl⟩:=hb24
 obtain⟨cs,hcs,hK⟩:=h
 have hu:=Gb he0
 intro D w g a next Q hh he hn hx
 obtain⟨hp1,hp2⟩:=Kz he parts
 have hfz:=Ia w g z hzc
 have hzs:z.cells.size=sz:=by rw[←hfz.1,hzl]
 let zero:Array Value:=if len*sz=0 then #[]else z.cells
 have hflat:Nw w g ((List.range (len*sz)).map fun k=>zc.getD (k % zc.length) .j) ((Array.range (len*sz)).map (zero[· % zero.size]!)):=by
  refine⟨by simp,fun k u hu=>?_⟩
  rw[List.getElem?_map]at hu
  obtain⟨k',hk',rfl⟩:=Option.map_eq_some_iff.1 hu
  obtain⟨h1,h2⟩:=List.getElem?_eq_some_iff.1 hk'
  simp at h1 h2
  subst h2
  have hpos:0<sz:=by
   rcases Nat.eq_zero_or_pos sz with h|h
   ·subst h;simp at h1
   ·exact h
  have hzero:zero=z.cells:=by
   show(if len*sz=0 then #[]else z.cells)=z.cells
   rw[if_neg (by omega)]
  have hkm:k % zc.length<zc.length:=Nat.mod_lt _ (by omega)
  obtain⟨u',hu'⟩:∃ u',zc[k % zc.length]? = some u':=⟨_,List.getElem?_eq_getElem hkm⟩
  have hgd:zc.getD (k % zc.length) .j=u':=by rw[List.getD_eq_getElem?_getD,hu'];rfl
  obtain⟨h3,h4⟩:=hfz.2 _ _ hu'
  rw[hgd]
  refine⟨h3,?_⟩
  rw[hfz.1]at h4
  have hkm':k % z.cells.size<z.cells.size:=Nat.mod_lt _ (by omega)
  have e1:((Array.range (len*sz)).map (zero[· % zero.size]!)).getD k undef=z.cells.getD (k % z.cells.size) undef:=by
   rw[hzero]
   have e3:(Array.range (len*sz))[k]? = some k:=by simp[h1]
   have e4:z.cells[k % z.cells.size]! = z.cells[k % z.cells.size]'hkm':=getElem!_pos z.cells (k % z.cells.size) hkm'
   simp only[Array.getD_eq_getD_getElem?,Array.getElem?_map,e3,Option.map_some,Option.getD_some,e4,Array.getElem?_eq_getElem hkm']
  rw[e1]
  exact h4
 obtain⟨res,h1,h2⟩:=GM (w:=w) (g:=g) (fun i=>some (i*sz,sz)) _ (parts.map fun(i,x)=>(i,a.eval x)).toList _ _ cs hp1 hp2 hflat hcs
 have hflen:∀(l:List (Nat × AV)) (c0 res:List AV),CC (fun i=>some (i*sz,sz)) c0 l=some res→res.length=c0.length:=by
  intro l
  induction l with
  |nil=>intro c0 res h;cases h;rfl
  |cons p l ih =>
   intro c0 res h
   obtain⟨i,v⟩:=p
   simp only[CC]at h
   split at h
   ·cases h
   ·split at h
    ·rename_i hc
     rw[ih _ _ h,Gp (by omega)]
    ·cases h
 have hcl:cs.length=len*sz:=by rw[hflen _ _ _ hcs];simp
 have hrun:(execOp a.eval o).run P w = .ok (.value (.slice (some ⟨w.heap.size,0,none⟩) len len)) (w.alloc (.cells res e)):=by
  have h24':¬ (len*sz > 2 ^ 24):=by omega
  simp only[execOp,ho,Instr.buildSlice,Sem.run_bind,run_underlying hu,Result.andThen_ok,C4 hsz,if_neg h24']
  by_cases h0:len*sz=0
  ·have hzero:zero = #[]:=if_pos h0
   rw[hzero]at h1
   rw[if_pos h0]
   simp only[Sem.run_bind,Sem.run_pure,Result.andThen_ok,h1,newRow,run_newObj,World.alloc_eq]
  ·have hzero:zero=z.cells:=if_neg h0
   rw[hzero]at h1
   rw[if_neg h0]
   simp only[Sem.run_bind,Sem.run_pure,Result.andThen_ok,Hk hz,h1,newRow,run_newObj,World.alloc_eq]
 have hrow:=TO h2 hcl
 have hclen:(chunks sz len cs).length=len:=by simp[chunks]
 rcases hK with hK|hK
 ·have hnew:=JE hh (t:=e) (cap:=len) hsz (by rw[←h2.1,hcl]) (by rw[hclen];exact Nat.le_refl _) hrow
  refine A9 (y:=.slice (some ⟨w.heap.size,0,none⟩) len len) hrun (hn _ _ _ _ _ hnew.1 hnew.2 ?_ hK)
  rw[←hh.n]
  exact R.s (w:=w.alloc (.cells res e)) (g:=g.add w.heap.size len sz) g.n 0 len len ⟨w.heap.size,0,none⟩ (Nat.lt_succ_self _) (Nat.le_refl _) (by simp) (fun _=>by simp)
 ·obtain⟨h5,m5⟩:=lS hh (.cells res e)
  refine A9 (y:=.slice (some ⟨w.heap.size,0,none⟩) len len) hrun (hn _ _ _ _ _ h5 m5 ?_ hK)
  have hr5:=hrow.mv m5
  have hrl:=R.l (w:=w.alloc (.cells res e)) (g:={ g with im:=fun b=>g.im b∨b=w.heap.size }) (chunks sz len cs) (some ⟨w.heap.size,0,none⟩) len sz (fun i j=>res.getD (i*sz+j) undef) (by rw[hclen];exact Nat.le_refl _) (fun hne=>⟨_,rfl,.inr rfl,fun i c hc=>⟨(hr5 i c hc).1,fun j hj=>by
   have hi:=(List.getElem?_eq_some_iff.1 hc).1
   have hlt:i*sz+j<res.size:=by
    rw[←h2.1,hcl]
    exact GI (n:=len) (by rw[hclen]at hi;exact hi) (Nat.le_refl _) hj
   rw[Ej,Ee (Go.heap_alloc_new w _),Nat.zero_add]
   simp[Array.getD_eq_getD_getElem?,Array.getElem?_eq_getElem hlt]⟩⟩) (fun i c j u hc hu=>((hr5 i c hc).2 j u hu).1) (fun i c j u hc hu=>((hr5 i c hc).2 j u hu).2)
  rw[hclen]at hrl
  exact hrl
def Aw:AV→Option Int
 |.v (.int _ n)=>some n
 |_=>none
theorem Dn{w:World}{g:Gh}{x:AV}{y:Value}(hr:R w g x y){n:Int}(h:Aw x=some n):∃ k,y = .int k n:=by
 unfold Aw at h
 split at h
 ·rename_i k m
  cases h
  exact⟨k,hr.BB⟩
 ·cases h
def HP(op:BinOp)(x y:Int):Option Bool:=
 match op with
 |.eql=>some (x == y)
 |.neq=>some (x != y)
 |.lss=>some (x<y)
 |.leq=>some (x≤y)
 |.gtr=>some (x > y)
 |.geq=>some (x≥y)
 |_=>none
def Qc(op:BinOp)(k:IntKind)(x y:Int):Option Int:=
 match op with
 |.add=>some (k.wrap (x+y))
 |.sub=>some (k.wrap (x - y))
 |.mul=>some (k.wrap (x*y))
 |.quo=>if y=0 then none else some (k.wrap (x.tdiv y))
 |.rem=>if y=0 then none else some (x.tmod y)
 |.and=>some (k.wrap (BitVec.ofInt k.bits x &&& BitVec.ofInt k.bits y).toNat)
 |.or=>some (k.wrap (BitVec.ofInt k.bits x ||| BitVec.ofInt k.bits y).toNat)
 |.xor=>some (k.wrap (BitVec.ofInt k.bits x ^^^ BitVec.ofInt k.bits y).toNat)
 |.andNot=>some (k.wrap (BitVec.ofInt k.bits x &&& ~~~BitVec.ofInt k.bits y).toNat)
 |_=>none
def shI(op:BinOp)(k:IntKind)(x y:Int):Option Int:=
 if y<0 then none else
 match op with
 |.shl=>some (k.wrap (x*2 ^ min y.toNat k.bits))
 |.shr=>some (x.fdiv (2 ^ min y.toNat k.bits))
 |_=>none
def Hz:BinOp→Bool
 |.shl|.shr=>true
 |_=>false
def VH(op:BinOp)(x y:ByteArray):Option Value:=
 match op with
 |.add=>if x.size+y.size≤9223372036854775807 then some (.string (x++y))else none
 |.eql=>some (.bool (x.toList == y.toList))
 |.neq=>some (.bool !(x.toList == y.toList))
 |_=>none
def b2(op:BinOp)(kd:Nat):Value→Value→Option Value
 |.int k a,.int k' b =>
  if Hz op then(shI op k a b).map (.int k)else
  if k=k' then match HP op a b with
   |some r=>some (.bool r)
   |none=>(Qc op k a b).map (.int k)
  else none
 |.string a,.string b=>VH op a b
 |.bool a,.bool b=>if kd=1 then match op with
    |.eql=>some (.bool (a == b))
    |.neq=>some (.bool !(a == b))
    |_=>none
  else none
 |_,_=>none
def M0(P:Program)(t:TypeId):Nat:=
 match P.underlying t with
 |some .bool=>1
 |some (.slice _)=>2
 |some (.pointer _)=>3
 |some (.interface _)=>4
 |some (.map _ _)=>5
 |some (.func _ _ _)=>6
 |_=>0
def Yc(op:BinOp)(kd:Nat)(x:AV)(S:Aa)(K:AV→Aa→Prop):Prop:=
 let NA (b:Bool):Prop:=match op with
  |.eql=>K (.v (.bool b)) S
  |.neq=>K (.v (.bool !b)) S
  |_=>False
 match kd,x with
 |2,.nl|2,.l []=>NA true∧NA false
 |2,.s _ _ _|2,.l (_ :: _)=>NA false
 |3,.p _ _ _|3,.q _ _=>NA false
 |3,.v (.pointer none)=>NA true
 |4,.i _ _=>NA false
 |4,.v .nilIface=>NA true
 |5,.m _=>NA false
 |5,.v (.map none)=>NA true
 |6,.f _ _ _=>NA false
 |6,.v .nilFunc=>NA true
 |_,_=>False
def isNil:Operand→Bool
 |.const (.slice none 0 0)|.const (.pointer none)|.const .nilIface|.const (.map none)|.const .nilFunc=>true
 |_=>false
def bin(op:BinOp)(kd:Nat)(x y:AV)(S:Aa)(K:AV→Aa→Prop):Prop:=
 match x,y with
 |.v a,.v b=>BK (b2 op kd a b) fun r=>K (.v r) S
 |_,_=>False
theorem Sm{P:Program}{w:World}{op:BinOp}{x y:Int}{b:Bool}(h:HP op x y=some b):(Op.intCmp op x y).run P w = .ok (.bool b) w:=by
 unfold HP at h
 unfold Op.intCmp
 split at h<;>first|(cases h;rfl)|cases h
theorem kC{P:Program}{w:World}{op:BinOp}{k:IntKind}{x y r:Int}(hs:Hz op=false)(hc:HP op x y=none)(h:Qc op k x y=some r){t:TypeId}:(binOp op t (.int k x) (.int k y)).run P w = .ok (.int k r) w:=by
 unfold Qc at h
 split at h<;>first|(cases h;simp[binOp,Op.intArith,Op.intBits];done)|skip
 ·split at h
  ·cases h
  ·rename_i hy;cases h;simp[binOp,Op.intDiv,hy]
 ·split at h
  ·cases h
  ·rename_i hy;cases h;simp[binOp,Op.intDiv,hy]
 ·cases h
theorem wI{P:Program}{w:World}{op:BinOp}{t:TypeId}{a b r:Value}(h:b2 op (M0 P t) a b=some r):(binOp op t a b).run P w = .ok r w:=by
 unfold b2 at h
 split at h
 ·rename_i k x k' y
  split at h
  ·rename_i hs
   obtain⟨n,hn,rfl⟩:=Option.map_eq_some_iff.1 h
   unfold shI at hn
   split at hn
   ·cases hn
   ·rename_i hy
    split at hn
    ·cases hn;simp[binOp,Op.shift,hy]
    ·cases hn;simp[binOp,Op.shift,hy]
    ·cases hn
  ·rename_i hs
   have hs':Hz op=false:=by simpa using hs
   split at h
   ·rename_i hk
    subst hk
    split at h
    ·rename_i b hc
     cases h
     have:=Sm (P:=P) (w:=w) hc
     unfold HP at hc
     split at hc<;>first|(cases hc;done)|(cases hc;simpa[binOp]using this)
    ·rename_i hc
     obtain⟨n,hn,rfl⟩:=Option.map_eq_some_iff.1 h
     exact kC hs' hc hn
   ·cases h
 ·rename_i x y
  unfold VH at h
  split at h
  ·split at h
   ·rename_i hl
    cases h
    have hm:IntKind.i64.max=9223372036854775807:=by decide
    have hl':¬ (((x.size+y.size:Nat):Int) > IntKind.i64.max):=by rw[hm];omega
    simp only[binOp,Op.stringOp,if_neg hl',Sem.run_pure]
   ·cases h
  ·cases h;simp[binOp,Op.stringOp]
  ·cases h;simp[binOp,Op.stringOp]
  ·cases h
 ·rename_i x y
  split at h
  ·rename_i hk
   have hu:P.underlying t=some .bool:=by
    unfold M0 at hk
    split at hk<;>first|assumption|(simp at hk)
   have he:(Op.equal t (.bool x) (.bool y)).run P w = .ok (x == y) w:=by
    show(Op.equalIn (9999+1) t (.bool x) (.bool y)).run P w=_
    unfold Op.equalIn
    simp[run_underlying hu]
   split at h
   ·cases h;simp[binOp,he]
   ·cases h;simp[binOp,he]
   ·cases h
  ·cases h
 ·cases h
theorem eT{P:Program}{w:World}{op:BinOp}{kd:Nat}{t:TypeId}{x y:Operand}{a b r:Value}(h:b2 op kd a b=some r):(eqGuard op t x y a b).run P w = .ok () w:=by
 unfold b2 at h
 split at h<;>first|cases h|skip
 all_goals (unfold eqGuard;split<;>simp)
theorem Ot{P:Program}{o:Oper}{op:BinOp}{t yt:TypeId}{x y:Operand}(ho:o.op = .binOp op t x y yt){env:Env}{S:Aa}{K X:AV→Aa→Prop}
    (h:bin op (M0 P t) (ev env x) (ev env y) S K):E7 P o env S K X:=by
 unfold bin at h
 split at h
 ·rename_i a b hx hy
  obtain⟨r,hr,hK⟩:=h
  refine Bd hK fun D w g ac hh he=>⟨r,?_,.v _⟩
  have h1:=he.ev x
  have h2:=he.ev y
  rw[hx]at h1
  rw[hy]at h2
  simp only[execOp,ho,h1.BB,h2.BB,Sem.run_bind,eT hr,wI hr,Result.andThen_ok,Sem.run_pure]
 ·exact h.elim
theorem JC{P:Program}{t:TypeId}(h:M0 P t=2):∃ e,P.underlying t=some (.slice e):=by
 unfold M0 at h
 split at h<;>first|(rename_i h';exact⟨_,h'⟩)|(simp at h)
theorem I9{P:Program}{t:TypeId}(h:M0 P t=3):∃ e,P.underlying t=some (.pointer e):=by
 unfold M0 at h
 split at h<;>first|(rename_i h';exact⟨_,h'⟩)|(simp at h)
theorem Rp{P:Program}{t:TypeId}(h:M0 P t=4):∃ e,P.underlying t=some (.interface e):=by
 unfold M0 at h
 split at h<;>first|(rename_i h';exact⟨_,h'⟩)|(simp at h)
theorem Z6{P:Program}{t:TypeId}(h:M0 P t=5):∃ k e,P.underlying t=some (.map k e):=by
 unfold M0 at h
 split at h<;>first|(rename_i h';exact⟨_,_,h'⟩)|(simp at h)
theorem U1{P:Program}{t:TypeId}(h:M0 P t=6):∃ a b c,P.underlying t=some (.func a b c):=by
 unfold M0 at h
 split at h<;>first|(rename_i h';exact⟨_,_,_,h'⟩)|(simp at h)
theorem Lm{P:Program}{w:World}{op:BinOp}{t:TypeId}{xo:Operand}{v nv:Value}(hn:isNil (.const nv)=true):(eqGuard op t xo (.const nv) v nv).run P w = .ok () w:=by
 unfold eqGuard
 cases op<;>cases nv<;>first|(simp[isNil]at hn;done)|skip
 all_goals (cases v<;>simp)
theorem CV{P:Program}{w:World}{t:TypeId}{v nv:Value}{b:Bool}(he:(Op.equal t v nv).run P w = .ok b w)(hv:∀ k a,v≠.int k a){op:BinOp}{S:Aa}{K:AV→Aa→Prop}{xo:Operand}(hn:isNil (.const nv)=true)
    (h:match op with|.eql=>K (.v (.bool b)) S|.neq=>K (.v (.bool !b)) S|_=>False):∃ r,(do eqGuard op t xo (.const nv) v nv;binOp op t v nv:Sem Value).run P w = .ok (.bool r) w∧K (.v (.bool r)) S:=by
 have hb:∀ op,op = .eql∨op = .neq→(binOp op t v nv).run P w = .ok (.bool (if op = .eql then b else !b)) w:=by
  rintro op (rfl|rfl)
  ·cases nv<;>first|(simp[isNil]at hn;done)|skip
   all_goals (cases v<;>first|(simp[binOp,he];done)|skip)
  ·cases nv<;>first|(simp[isNil]at hn;done)|skip
   all_goals (cases v<;>first|(simp[binOp,he];done)|skip)
 split at h
 ·exact⟨b,by simp only[Sem.run_bind,Lm hn,Result.andThen_ok,hb _ (.inl rfl),if_true],h⟩
 ·exact⟨!b,by simp[Lm hn,hb _ (.inr rfl)],h⟩
 ·exact h.elim
theorem kX{P:Program}{w:World}{g:Gh}{t:TypeId}{x:AV}{v nv:Value}(hr:R w g x v)(hn:isNil (.const nv)=true){op:BinOp}{S:Aa}{K:AV→Aa→Prop}
    (h:Yc op (M0 P t) x S K) (xo:Operand) (hk:∀ e,P.underlying t=some (.slice e)→nv = .slice none 0 0) (hk2:∀ e,P.underlying t=some (.pointer e)→nv = .pointer none) (hk3:∀ e,P.underlying t=some (.interface e)→nv = .nilIface)
    (hk4:∀ k e,P.underlying t=some (.map k e)→nv = .map none) (hk5:∀ a b c,P.underlying t=some (.func a b c)→nv = .nilFunc):∃ r,(do eqGuard op t xo (.const nv) v nv;binOp op t v nv:Sem Value).run P w = .ok (.bool r) w∧K (.v (.bool r)) S:=by
 have heq:∀ u,(Op.equal t v u).run P w=(Op.equalIn (9999+1) t v u).run P w:=fun _=>rfl
 unfold Yc at h
 dsimp only at h
 generalize hkd:M0 P t=kd at h
 split at h
 ·obtain⟨e,hu⟩:=JC hkd
  obtain rfl:=hk e hu
  obtain⟨A,rfl⟩:=hr.GH
  refine CV (b:=A.isNone) ?_ (by simp) hn (by cases A<;>first|exact h.1|exact h.2)
  rw[heq]
  unfold Op.equalIn
  cases A<;>simp[run_underlying hu]
 ·obtain⟨e,hu⟩:=JC hkd
  obtain rfl:=hk e hu
  obtain⟨A,c,_,_,rfl,_⟩:=hr.IL
  refine CV (b:=A.isNone) ?_ (by simp) hn (by cases A<;>first|exact h.1|exact h.2)
  rw[heq]
  unfold Op.equalIn
  cases A<;>simp[run_underlying hu]
 ·obtain⟨e,hu⟩:=JC hkd
  obtain rfl:=hk e hu
  obtain⟨_,A,c,rfl,_⟩:=hr.FX
  refine CV (b:=false) ?_ (by simp) hn h
  rw[heq]
  unfold Op.equalIn
  simp[run_underlying hu]
 ·obtain⟨e,hu⟩:=JC hkd
  obtain rfl:=hk e hu
  obtain⟨A,c,_,_,rfl,_,hm,_⟩:=hr.IL
  obtain⟨ad,rfl,_⟩:=hm (by simp)
  refine CV (b:=false) ?_ (by simp) hn h
  rw[heq]
  unfold Op.equalIn
  simp[run_underlying hu]
 ·obtain⟨e,hu⟩:=I9 hkd
  obtain rfl:=hk2 e hu
  obtain⟨_,rfl⟩:=hr.DT
  refine CV (b:=false) ?_ (by simp) hn h
  rw[heq]
  unfold Op.equalIn
  simp[run_underlying hu]
 ·obtain⟨e,hu⟩:=I9 hkd
  obtain rfl:=hk2 e hu
  cases hr
  refine CV (b:=false) ?_ (by simp) hn h
  rw[heq]
  unfold Op.equalIn
  simp[run_underlying hu]
 ·obtain⟨e,hu⟩:=I9 hkd
  obtain rfl:=hk2 e hu
  obtain rfl:=hr.BB
  refine CV (b:=true) ?_ (by simp) hn h
  rw[heq]
  unfold Op.equalIn
  simp[run_underlying hu]
 ·obtain⟨e,hu⟩:=Rp hkd
  obtain rfl:=hk3 e hu
  cases hr
  refine CV (b:=false) ?_ (by simp) hn h
  rw[heq]
  unfold Op.equalIn
  simp[run_underlying hu]
 ·obtain⟨e,hu⟩:=Rp hkd
  obtain rfl:=hk3 e hu
  obtain rfl:=hr.BB
  refine CV (b:=true) ?_ (by simp) hn h
  rw[heq]
  unfold Op.equalIn
  simp[run_underlying hu]
 ·obtain⟨k,e,hu⟩:=Z6 hkd
  obtain rfl:=hk4 k e hu
  cases hr
  refine CV (b:=false) ?_ (by simp) hn h
  rw[heq]
  unfold Op.equalIn
  simp[run_underlying hu]
 ·obtain⟨k,e,hu⟩:=Z6 hkd
  obtain rfl:=hk4 k e hu
  obtain rfl:=hr.BB
  refine CV (b:=true) ?_ (by simp) hn h
  rw[heq]
  unfold Op.equalIn
  simp[run_underlying hu]
 ·obtain⟨k,e,c,hu⟩:=U1 hkd
  obtain rfl:=hk5 k e c hu
  cases hr
  refine CV (b:=false) ?_ (by simp) hn h
  rw[heq]
  unfold Op.equalIn
  simp[run_underlying hu]
 ·obtain⟨k,e,c,hu⟩:=U1 hkd
  obtain rfl:=hk5 k e c hu
  obtain rfl:=hr.BB
  refine CV (b:=true) ?_ (by simp) hn h
  rw[heq]
  unfold Op.equalIn
  simp[run_underlying hu]
 ·exact h.elim
def OT(kd:Nat):Operand→Bool
 |.const (.slice none 0 0)=>kd == 2
 |.const (.pointer none)=>kd == 3
 |.const .nilIface=>kd == 4
 |.const (.map none)=>kd == 5
 |.const .nilFunc=>kd == 6
 |_=>false
theorem VR{P:Program}{o:Oper}{op:BinOp}{t yt:TypeId}{x y:Operand}(ho:o.op = .binOp op t x y yt){env:Env}{S:Aa}{K X:AV→Aa→Prop}(hf:OT (M0 P t) y=true)
    (h:Yc op (M0 P t) (ev env x) S K):E7 P o env S K X:=by
 intro D w g a next Q hh he hn hx
 have hy:∃ nv,y = .const nv∧isNil (.const nv)=true∧(∀ e,P.underlying t=some (.slice e)→nv = .slice none 0 0)∧(∀ e,P.underlying t=some (.pointer e)→nv = .pointer none)∧(∀ e,P.underlying t=some (.interface e)→nv = .nilIface)∧
     (∀ k e,P.underlying t=some (.map k e)→nv = .map none)∧(∀ a b c,P.underlying t=some (.func a b c)→nv = .nilFunc):=by
  unfold OT at hf
  split at hf<;>first|(cases hf;done)|skip
  all_goals
   simp only[beq_iff_eq]at hf
   refine⟨_,rfl,rfl,?_,?_,?_,?_,?_⟩
   all_goals
    intros
    rename_i hu
    first|rfl|(unfold M0 at hf;rw[hu]at hf;simp at hf)
 obtain⟨nv,rfl,h1,h2,h3,h4,h5,h6⟩:=hy
 obtain⟨r,hr,hK⟩:=kX (he.ev x) h1 h x h2 h3 h4 h5 h6
 have hr':(do eqGuard op t x (.const nv) (a.eval x) (a.eval (.const nv));binOp op t (a.eval x) (a.eval (.const nv)):Sem Value).run P w = .ok (.bool r) w:=hr
 refine A9 (y:=.bool r) (w':=w) ?_ (hn _ S w g _ hh (Mv.refl _ _) (.v _) hK)
 simp only[execOp,ho,Sem.run_bind]at hr' ⊢
 rw[hr']
 rfl
def pick(c x y:AV)(S:Aa)(K:AV→Aa→Prop):Prop:=
 match c with
 |.v (.bool b)=>match b with|true=>K x S|false=>K y S
 |_=>False
theorem Ss{P:Program}{o:Oper}{c x y:Operand}(ho:o.op = .pick c x y){env:Env}{S:Aa}{K X:AV→Aa→Prop}(h:pick (ev env c) (ev env x) (ev env y) S K):E7 P o env S K X:=by
 unfold pick at h
 split at h
 ·rename_i b hc
  cases b with
  |false =>
   refine Bd h fun D w g a hh he=>⟨a.eval y,?_,he.ev y⟩
   have h1:=he.ev c
   rw[hc]at h1
   simp[execOp,ho,h1.BB,asBool]
  |true =>
   refine Bd h fun D w g a hh he=>⟨a.eval x,?_,he.ev x⟩
   have h1:=he.ev c
   rw[hc]at h1
   simp[execOp,ho,h1.BB,asBool]
 ·exact h.elim
theorem MJ{P:Program}{o:Oper}{x:Operand}(ho:o.op = .move x∨o.op = .assign x){env:Env}{S:Aa}{K X:AV→Aa→Prop}(h:K (ev env x) S):E7 P o env S K X:=
 Bd h fun D w g a hh he=>⟨a.eval x,by rcases ho with ho|ho<;>simp[execOp,ho],he.ev x⟩
def un(op:UnOp)(x:AV)(S:Aa)(K:AV→Aa→Prop):Prop:=
 match op,x with
 |.not,.v (.bool b)=>K (.v (.bool !b)) S
 |.neg,.v (.int k n)=>K (.v (.int k (k.wrap (0 - n)))) S
 |_,_=>False
theorem Xy{P:Program}{o:Oper}{op:UnOp}{t:TypeId}{x:Operand}(ho:o.op = .unOp op t x){env:Env}{S:Aa}{K X:AV→Aa→Prop}(h:un op (ev env x) S K):E7 P o env S K X:=by
 unfold un at h
 split at h
 ·rename_i b hx
  refine Bd h fun D w g a hh he=>⟨_,?_,.v _⟩
  have h1:=he.ev x
  rw[hx]at h1
  simp[execOp,ho,h1.BB,Op.unary]
 ·rename_i k n hx
  refine Bd h fun D w g a hh he=>⟨_,?_,.v _⟩
  have h1:=he.ev x
  rw[hx]at h1
  simp[execOp,ho,h1.BB,Op.unary,Op.intArith]
 ·exact h.elim
def YH(fn:Fn)(fs cs:List AV)(S:Aa)(K:AV→Aa→Prop):Prop:=K (.f fn fs cs) S
theorem H4{w:World}{g:Gh}{env:Env}{a:Act}(he:BX D w g env a)(xs:Array Operand):
    (xs.toList.map (ev env)).length=(xs.map a.eval).size∧∀(k:Nat) (u:AV),(xs.toList.map (ev env))[k]? = some u→R w g u ((xs.map a.eval).getD k undef):=by
 refine⟨by simp,fun k u hu=>?_⟩
 rw[List.getElem?_map]at hu
 obtain⟨x,hx,rfl⟩:=Option.map_eq_some_iff.1 hu
 have hx':xs[k]? = some x:=by simpa using hx
 simp only[Array.getD_eq_getD_getElem?,Array.getElem?_map,hx',Option.map_some,Option.getD_some]
 exact he.ev x
theorem O0{P:Program}{o:Oper}{fn:Fn}{fs cs:Array Operand}(ho:o.op = .makeFunc fn fs cs){env:Env}{S:Aa}{K X:AV→Aa→Prop}
    (h:YH fn (fs.toList.map (ev env)) (cs.toList.map (ev env)) S K):E7 P o env S K X:=
 Bd h fun D w g a hh he=>⟨.func fn (fs.map a.eval) (cs.map a.eval),by simp[execOp,ho,Instr.makeFunc],.f _ _ _ _ _ (H4 he fs).1 (H4 he cs).1 (H4 he fs).2 (H4 he cs).2⟩
def AZ(x:AV)(ix:Nat)(S:Aa)(K:AV→Aa→Prop):Prop:=
 match x with
 |.t vs=>BK vs[ix]? fun u=>K u S
 |_=>False
theorem TJ{P:Program}{o:Oper}{x:Operand}{ix:Nat}(ho:o.op = .extract x ix){env:Env}{S:Aa}{K X:AV→Aa→Prop}(h:AZ (ev env x) ix S K):E7 P o env S K X:=by
 unfold AZ at h
 split at h
 ·rename_i vs hx
  obtain⟨u,hu,hK⟩:=h
  refine Bd hK fun D w g a hh he=>?_
  have h1:=he.ev x
  rw[hx]at h1
  generalize hv:a.eval x=v at h1
  cases h1 with
  |t cs cs' hl hR =>
   have hlt:ix<cs'.size:=by have:=(List.getElem?_eq_some_iff.1 hu).1;omega
   refine⟨cs'.getD ix undef,?_,hR _ _ hu⟩
   simp[execOp,ho,hv,Instr.extract,hlt]
 ·exact h.elim
def shift(x:AV)(n:Nat)(S:Aa)(K:AV→Aa→Prop):Prop:=
 match x with
 |.p id i j=>K (.p id i (j+n)) S
 |.q c j=>K (.q c (j+n)) S
 |_=>False
theorem NQ{w:World}{g:Gh}{x:AV}{y:Value}(hr:R w g x y){n:Nat}{S:Aa}{K:AV→Aa→Prop}(h:shift x n S K):∃ ad u,y = .pointer (some ad)∧R w g u (.pointer (some (ad.add n)))∧K u S:=by
 unfold shift at h
 split at h
 ·rename_i id i j
  obtain⟨h1,h2⟩:=hr.DT
  refine⟨_,_,h2,?_,h⟩
  have:=R.p (w:=w) (g:=g) id i (j+n) h1
  rwa [Ej,Nat.add_assoc]
 ·cases hr with
  |q c j ad vs him hm h1 hR =>
   refine⟨_,_,rfl,?_,h⟩
   rw[add_add]
   exact .q _ _ _ vs him hm h1 hR
 ·exact h.elim
def PS(P:Program)(s:TypeId)(f:Nat):Option (Nat × TypeId):=
 match P.underlying s with
 |some (.struct fs)=>(fs[f]?).map fun d=>(d.offset,d.type)
 |_=>none
theorem Ll{P:Program}{s:TypeId}{f off:Nat}{t:TypeId}(h:PS P s f=some (off,t)):∃ fs d,P.underlying s=some (.struct fs)∧fs[f]? = some d∧d.offset=off∧d.type=t:=by
 unfold PS at h
 split at h
 ·rename_i fs hu
  obtain⟨d,hd,he⟩:=Option.map_eq_some_iff.1 h
  cases he
  exact⟨fs,d,hu,hd,rfl,rfl⟩
 ·cases h
def fieldAddr(P:Program)(s:TypeId)(x:AV)(f:Nat)(S:Aa)(K:AV→Aa→Prop):Prop:=
 match PS P s f with
 |some (off,t)=>match Fa P t with
  |some (_+1)=>shift x off S K
  |_=>False
 |none=>False
theorem Lv{P:Program}{o:Oper}{s:TypeId}{x:Operand}{f:Nat}(ho:o.op = .fieldAddr s x f){env:Env}{S:Aa}{K X:AV→Aa→Prop}(h:fieldAddr P s (ev env x) f S K):E7 P o env S K X:=by
 unfold fieldAddr at h
 split at h
 case h_2=>exact h.elim
 rename_i off t hf
 split at h
 case h_2=>exact h.elim
 rename_i n hn
 obtain⟨fs,d,hu,hd,rfl,rfl⟩:=Ll hf
 intro D w g a next Q hh he hnx hx
 obtain⟨ad,u,hy,hr,hK⟩:=NQ (he.ev x) h
 refine A9 (y:=.pointer (some (ad.add d.offset))) (w':=w) ?_ (hnx _ S w g _ hh (Mv.refl _ _) hr hK)
 simp[execOp,ho,hy,Instr.fieldAt,run_underlying hu,hd,Instr.sureAddr,fieldPlace,C4 hn]
def IF(agg:Bool)(sz off:Nat)(cs:List AV):Option AV:=
 if agg then(if off+sz≤cs.length then some (.a ((cs.drop off).take sz))else none)else cs[off]?
def IG(x:AV)(off:Nat)(S:Aa)(K:AV→Aa→Prop):Prop:=
 match x with
 |.a cs=>BK (IF false 1 off cs) fun u=>K u S
 |_=>False
def QK(x:AV)(sz off:Nat)(S:Aa)(K:AV→Aa→Prop):Prop:=
 match x with
 |.a cs=>BK (IF true sz off cs) fun u=>K u S
 |_=>False
theorem QA{P:Program}{w:World}{g:Gh}{t:TypeId}{agg:Bool}{sz off:Nat}(ha:NH P t=some agg)(hs:Fa P t=some sz){cs:List AV}{cs':Array Value}(hl:cs.length=cs'.size)(h1:∀(k:Nat) (u:AV),cs[k]? = some u→u.one=true)
    (hR:∀(k:Nat) (u:AV),cs[k]? = some u→R w g u (cs'.getD k undef)) {u:AV} (h:IF agg sz off cs=some u):∃ y,(part t cs' off).run P w = .ok y w∧R w g u y:=by
 unfold IF at h
 unfold Go.part
 cases agg with
 |false =>
  simp only[Bool.false_eq_true,if_false]at h
  have hlt:off<cs'.size:=by have:=(List.getElem?_eq_some_iff.1 h).1;omega
  refine⟨cs'.getD off undef,?_,hR _ _ h⟩
  simp[Jk ha,hlt,Array.getD_eq_getD_getElem?]
 |true =>
  simp only[if_true]at h
  split at h
  ·rename_i hle
   cases h
   refine⟨.agg (cs'.extract off (off+sz)),by simp[Jk ha,C4 hs],?_⟩
   have hget:∀(k:Nat) (u:AV),((cs.drop off).take sz)[k]? = some u→k<sz∧cs[off+k]? = some u:=by
    intro k u hu
    rw[List.getElem?_take]at hu
    split at hu
    ·rename_i hk
     rw[List.getElem?_drop]at hu
     exact⟨hk,hu⟩
    ·cases hu
   refine .a _ _ (by simp;omega) (fun k u hu=>h1 _ _ (hget k u hu).2) (fun k u hu=>?_)
   obtain⟨hk,hu⟩:=hget k u hu
   have:=hR _ _ hu
   have hlt:off+k<cs'.size:=by have:=(List.getElem?_eq_some_iff.1 hu).1;omega
   simp only[Array.getD_eq_getD_getElem?,Array.getElem?_extract]at this ⊢
   rwa [if_pos (by omega)]
  ·cases h
def field(P:Program)(s:TypeId)(x:AV)(f:Nat)(S:Aa)(K:AV→Aa→Prop):Prop:=
 match PS P s f with
 |some (off,t)=>match NH P t,Fa P t with
  |some false,some _=>IG x off S K
  |some true,some n=>QK x n off S K
  |_,_=>False
 |none=>False
theorem Rz{P:Program}{o:Oper}{s:TypeId}{x:Operand}{f:Nat}(ho:o.op = .field s x f){env:Env}{S:Aa}{K X:AV→Aa→Prop}(h:field P s (ev env x) f S K):E7 P o env S K X:=by
 unfold field at h
 split at h
 case h_2=>exact h.elim
 rename_i off t hf
 obtain⟨fs,d,hu,hd,rfl,rfl⟩:=Ll hf
 have key:∀ agg sz cs u,NH P d.type=some agg→Fa P d.type=some sz→ev env x = .a cs→IF agg sz d.offset cs=some u→K u S→E7 P o env S K X:=by
  intro agg sz cs u ha hs hx hp hK
  refine Bd hK fun D w g a hh he=>?_
  have h1:=he.ev x
  rw[hx]at h1
  generalize hv:a.eval x=v at h1
  cases h1 with
  |a cs0 cs' hl h2 hR =>
   obtain⟨y,hrun,hr⟩:=QA (P:=P) (w:=w) (g:=g) ha hs hl h2 hR hp
   refine⟨y,?_,hr⟩
   simp[execOp,ho,hv,Instr.field,run_underlying hu,hd,asAgg,hrun]
 split at h
 ·rename_i n ha hs
  unfold IG at h
  split at h
  ·rename_i cs hx
   obtain⟨u,hu',hK⟩:=h
   exact key false n cs u ha hs hx (by simpa[IF]using hu') hK
  ·exact h.elim
 ·rename_i n ha hs
  unfold QK at h
  split at h
  ·rename_i cs hx
   obtain⟨u,hu',hK⟩:=h
   exact key true n cs u ha hs hx hu' hK
  ·exact h.elim
 ·exact h.elim
end Go.Ab
set_option linter.unusedVariables false
set_option linter.unusedSimpArgs false
namespace Go.Ab
open Go Go.RowKit
variable {D:List Deferred}
def Aa.ty(S:Aa)(id:Nat):Option TypeId:=
 match S.obj id with
 |some (.cells t _ _)=>some t
 |_=>none
theorem wB{S:Aa}{id:Nat}{t:TypeId}(h:S.ty id=some t):∃ es live,S.obj id=some (.cells t es live):=by
 unfold Aa.ty at h
 split at h
 ·rename_i t' es live ho
  cases h
  exact⟨_,_,ho⟩
 ·cases h
theorem r7{P:Program}{w:World}{g:Gh}{S:Aa}(hh:Ba P w g S){id:Nat}{t:TypeId}{n:Nat}(h:S.ty id=some t)(hs:Fa P t=some n):g.sz id=n:=by
 obtain⟨es,live,ho⟩:=wB h
 obtain⟨i,hi,h2⟩:=(hh.obj _ _ _ _ ho).info
 unfold Fa at hs
 rw[hi]at hs
 cases hs
 exact h2.symm
def AF(x:AV)(S:Aa)(K:AV→Aa→Prop):Prop:=
 match x with
 |.s _ _ n=>K (.v (.int .i64 n)) S
 |.l es=>K (.v (.int .i64 es.length)) S
 |.nl=>K (.v (.int .i64 0)) S
 |_=>False
def FH(x:AV)(S:Aa)(K:AV→Aa→Prop):Prop:=
 match x with
 |.v (.string b)=>K (.v (.int .i64 b.size)) S
 |_=>False
def len(P:Program)(t:TypeId)(x:AV)(S:Aa)(K:AV→Aa→Prop):Prop:=
 match P.underlying t with
 |some (.slice _)=>AF x S K
 |some .string=>FH x S K
 |some (.array n _)=>K (.v (.int .i64 n)) S
 |_=>False
theorem j9{P:Program}{w:World}{g:Gh}{t:TypeId}{x:AV}{y:Value}(hr:R w g x y){S:Aa}{K:AV→Aa→Prop}(h:len P t x S K)(ty:TypeId):∃ n:Int,(Builtin.len_ #[t] ty #[y]).run P w = .ok (.int .i64 n) w∧K (.v (.int .i64 n)) S:=by
 unfold len at h
 split at h
 ·rename_i e hu
  unfold AF at h
  split at h
  ·obtain⟨_,A,c,rfl,_⟩:=hr.FX
   exact⟨_,by simp[Builtin.len_,run_underlying hu,goInt],h⟩
  ·obtain⟨A,c,_,_,rfl,_⟩:=hr.IL
   exact⟨_,by simp[Builtin.len_,run_underlying hu,goInt],h⟩
  ·obtain⟨A,rfl⟩:=hr.GH
   exact⟨0,by simp[Builtin.len_,run_underlying hu,goInt],h⟩
  ·exact h.elim
 ·rename_i hu
  unfold FH at h
  split at h
  ·obtain rfl:=hr.BB
   exact⟨_,by simp[Builtin.len_,run_underlying hu,goInt],h⟩
  ·exact h.elim
 ·rename_i n e hu
  exact⟨n,by simp[Builtin.len_,run_underlying hu,goInt],h⟩
 ·exact h.elim
def AS(e sz:Nat)(x i:AV)(S:Aa)(K:AV→Aa→Prop):Prop:=
 BK (Aw i) fun z =>
  match x with
  |.s id b n=>(0≤z∧z<n)∧S.ty id=some e∧K (.p id (b+z.toNat) 0) S
  |.l es=>(0≤z∧z<es.length)∧BK es[z.toNat]? fun c=>c.length=sz∧K (.q c 0) S
  |_=>False
def Iz(n sz:Nat)(x i:AV)(S:Aa)(K:AV→Aa→Prop):Prop:=
 BK (Aw i) fun z=>(0≤z∧z<n)∧shift x (z.toNat*sz) S K
def indexAddr(P:Program)(t:TypeId)(x i:AV)(S:Aa)(K:AV→Aa→Prop):Prop:=
 match P.underlying t with
 |some (.slice e)=>match Fa P e with
  |some sz=>AS e sz x i S K
  |none=>False
 |some (.array n e)=>match Fa P e with
  |some sz=>Iz n sz x i S K
  |none=>False
 |_=>False
theorem Lu{P:Program}{o:Oper}{t:TypeId}{x i:Operand}(ho:o.op = .indexAddr t x i){env:Env}{S:Aa}{K X:AV→Aa→Prop}(h:indexAddr P t (ev env x) (ev env i) S K):E7 P o env S K X:=by
 unfold indexAddr at h
 split at h
 ·rename_i e hu
  split at h
  case h_2=>exact h.elim
  rename_i sz hsz
  obtain⟨z,hz,h⟩:=h
  intro D w g a next Q hh he hnx hx
  obtain⟨k,hi⟩:=Dn (he.ev i) hz
  have hrx:=he.ev x
  split at h
  ·rename_i id b n hX
   rw[hX]at hrx
   obtain⟨⟨h0,h1⟩,hty,hK⟩:=h
   obtain⟨hid,A,c,hy,hn,hc,hA⟩:=hrx.FX
   have hA':=hA (by omega)
   subst hA'
   have hsz':=r7 hh hty hsz
   refine A9 (y:=.pointer (some ⟨g.blk id,(b+z.toNat)*g.sz id+0,none⟩)) (w':=w) ?_ (hnx _ S w g _ hh (Mv.refl _ _) (.p _ _ _ hid) hK)
   simp[execOp,ho,hy,hi,Instr.indexAt,run_underlying hu,asIntOf,C4 hsz,h0,h1,Ej,hsz',Nat.add_mul]
  ·rename_i es hX
   rw[hX]at hrx
   obtain⟨⟨h0,h1⟩,c,hc,hcl,hK⟩:=h
   obtain⟨A,cp,sz',vs,hy,hcp,hm,hR⟩:=hrx.IL
   have hne:es≠[]:=by rintro rfl;simp at hc
   obtain⟨ad,rfl,him,hcell⟩:=hm hne
   obtain⟨h2,h3⟩:=hcell _ _ hc
   have hs:sz'=sz:=by omega
   subst hs
   have hq:=R.q (w:=w) (g:=g) c 0 (ad.add (z.toNat*sz')) (fun k=>vs z.toNat k) (by rw[Ix];exact him) (fun k hk=>by rw[add_add];exact h3 k (by omega)) (fun k u hu=>(hR _ _ _ _ hc hu).1) (fun k u hu=>(hR _ _ _ _ hc hu).2)
   have h00:(ad.add (z.toNat*sz')).add 0=ad.add (z.toNat*sz'):=by rw[add_add,Nat.add_zero]
   rw[h00]at hq
   refine A9 (y:=.pointer (some (ad.add (z.toNat*sz')))) (w':=w) ?_ (hnx _ S w g _ hh (Mv.refl _ _) hq hK)
   simp[execOp,ho,hy,hi,Instr.indexAt,run_underlying hu,asIntOf,C4 hsz,h0,h1]
  ·exact h.elim
 ·rename_i n e hu
  split at h
  case h_2=>exact h.elim
  rename_i sz hsz
  obtain⟨z,hz,⟨h0,h1⟩,h⟩:=h
  intro D w g a next Q hh he hnx hx
  obtain⟨k,hi⟩:=Dn (he.ev i) hz
  obtain⟨ad,u,hy,hr,hK⟩:=NQ (he.ev x) h
  refine A9 (y:=.pointer (some (ad.add (z.toNat*sz)))) (w':=w) ?_ (hnx _ S w g _ hh (Mv.refl _ _) hr hK)
  simp[execOp,ho,hy,hi,Instr.indexAt,Instr.sureAddr,run_underlying hu,asIntOf,C4 hsz,h0,h1]
 ·exact h.elim
def Hy(x i:AV)(S:Aa)(K:AV→Aa→Prop):Prop:=
 BK (Aw i) fun z =>
  match x with
  |.v (.string b)=>0≤z∧∃ h:z.toNat<b.size,K (.v (.int .u8 (b[z.toNat]'h).toNat)) S
  |_=>False
def index(P:Program)(t:TypeId)(x i:AV)(S:Aa)(K:AV→Aa→Prop):Prop:=
 match P.underlying t with
 |some .string=>Hy x i S K
 |some (.array n e)=>match NH P e,Fa P e with
  |some false,some sz=>BK (Aw i) fun z=>(0≤z∧z<n)∧IG x (z.toNat*sz) S K
  |some true,some sz=>BK (Aw i) fun z=>(0≤z∧z<n)∧QK x sz (z.toNat*sz) S K
  |_,_=>False
 |_=>False
theorem Rs{P:Program}{o:Oper}{t:TypeId}{x i:Operand}(ho:o.op = .index t x i){env:Env}{S:Aa}{K X:AV→Aa→Prop}(h:index P t (ev env x) (ev env i) S K):E7 P o env S K X:=by
 unfold index at h
 split at h
 ·rename_i hu
  obtain⟨z,hz,h⟩:=h
  split at h
  ·rename_i b hX
   obtain⟨h0,hlt,hK⟩:=h
   refine Bd hK fun D w g a hh he=>⟨_,?_,.v _⟩
   obtain⟨k,hi⟩:=Dn (he.ev i) hz
   have hrx:=he.ev x
   rw[hX]at hrx
   have hg:b[z.toNat]? = some (b[z.toNat]'hlt):=getElem?_pos b z.toNat hlt
   simp[execOp,ho,hrx.BB,hi,Instr.index,asIntOf,run_underlying hu,h0,hg]
  ·exact h.elim
 ·rename_i n e hu
  have key:∀ agg sz z cs u,NH P e=some agg→Fa P e=some sz→Aw (ev env i)=some z→0≤z→z<n→ev env x = .a cs→IF agg sz (z.toNat*sz) cs=some u→K u S→E7 P o env S K X:=by
   intro agg sz z cs u ha hs hz h0 h1 hx hp hK
   refine Bd hK fun D w g a hh he=>?_
   obtain⟨k,hi⟩:=Dn (he.ev i) hz
   have hrx:=he.ev x
   rw[hx]at hrx
   generalize hv:a.eval x=v at hrx
   cases hrx with
   |a cs0 cs' hl h2 hR =>
    obtain⟨y,hrun,hr⟩:=QA (P:=P) (w:=w) (g:=g) ha hs hl h2 hR hp
    refine⟨y,?_,hr⟩
    simp[execOp,ho,hv,hi,Instr.index,asIntOf,run_underlying hu,C4 hs,h0,h1,hrun]
  split at h
  ·rename_i sz ha hs
   obtain⟨z,hz,⟨h0,h1⟩,h⟩:=h
   unfold IG at h
   split at h
   ·rename_i cs hx
    obtain⟨u,hu',hK⟩:=h
    exact key false sz z cs u ha hs hz h0 h1 hx (by simpa[IF]using hu') hK
   ·exact h.elim
  ·rename_i sz ha hs
   obtain⟨z,hz,⟨h0,h1⟩,h⟩:=h
   unfold QK at h
   split at h
   ·rename_i cs hx
    obtain⟨u,hu',hK⟩:=h
    exact key true sz z cs u ha hs hz h0 h1 hx hu' hK
   ·exact h.elim
  ·exact h.elim
 ·exact h.elim
def Ql(e bytes:Nat)(zc:List AV)(l c:AV)(S:Aa)(K:AV→Aa→Prop):Prop:=
 BK (Aw l) fun l=>BK (Aw c) fun c=>(0≤l∧l≤c∧(bytes:Int)*c≤281474976710656∧c≤9223372036854775807)∧K (.s S.n 0 l.toNat) (S.new (.cells e (List.replicate l.toNat zc) true))
def RQ(P:Program)(t:TypeId):Option Nat:=(P.info? t).map (·.bytes)
def YL(P:Program)(t:TypeId)(l c:AV)(S:Aa)(K:AV→Aa→Prop):Prop:=
 match mF P t with
 |some e=>match Fa P e,RQ P e,zT P e with
  |some sz,some b,some z=>match cellsOf (Kk z)with
   |some zc=>match decide (zc.length=sz)with
    |true=>Ql e b zc l c S K
    |false=>False
   |none=>False
  |_,_,_=>False
 |none=>False
theorem Rj{P:Program}{o:Oper}{t:TypeId}{l c:Operand}(ho:o.op = .makeSlice t l c){env:Env}{S:Aa}{K X:AV→Aa→Prop}(h:YL P t (ev env l) (ev env c) S K):E7 P o env S K X:=by
 unfold YL at h
 split at h
 case h_2=>exact h.elim
 rename_i e he0
 split at h
 case h_2=>exact h.elim
 rename_i sz b z hsz hb hz
 split at h
 case h_2=>exact h.elim
 rename_i zc hzc
 split at h
 case h_2=>exact h.elim
 rename_i hzl
 simp only[decide_eq_true_eq]at hzl
 obtain⟨l0,hl0,c0,hc0,⟨h0,hlc,hbytes,h63⟩,hK⟩:=h
 intro D w g a next Q hh he hnx hx
 obtain⟨k1,h1⟩:=Dn (he.ev l) hl0
 obtain⟨k2,h2⟩:=Dn (he.ev c) hc0
 have hszT:=hsz
 unfold Fa at hsz
 obtain⟨i,hi,hsz'⟩:=Option.map_eq_some_iff.1 hsz
 have hb':i.bytes=b:=by unfold RQ at hb;rw[hi]at hb;cases hb;rfl
 have hz':i.zero=some z:=by unfold zT at hz;rw[hi]at hz;exact hz
 have hrun:=Go.run_make (P:=P) w t e i z (Gb he0) hi hz' k1 k2 l0 c0 h0 hlc (by rw[hb'];exact hbytes) h63
 have hfz:=Ia w g z hzc
 have hzs:z.cells.size=sz:=by rw[←hfz.1,hzl]
 have hro:B7 w g sz (List.replicate l0.toNat zc) (madeCells z.cells (c0.toNat*i.size)):=by
  intro q cc hcc
  rw[List.getElem?_replicate]at hcc
  split at hcc
  ·rename_i hq
   cases hcc
   refine⟨hzl,fun k u hu=>?_⟩
   obtain⟨h3,h4⟩:=hfz.2 k u hu
   refine⟨h3,?_⟩
   have hk:k<sz:=by have:=(List.getElem?_eq_some_iff.1 hu).1;omega
   have hlt:q*sz+k<c0.toNat*sz:=GI (cap:=c0.toNat) (n:=l0.toNat) hq (by omega) hk
   have hkm:(q*sz+k) % z.cells.size=k:=by rw[hzs,Nat.mul_comm,Nat.mul_add_mod,Nat.mod_eq_of_lt hk]
   have hk2:k<z.cells.size:=by omega
   have e3:(Array.range (c0.toNat*i.size))[q*sz+k]? = some (q*sz+k):=by rw[hsz'];simp[hlt]
   have e4:z.cells[(q*sz+k) % z.cells.size]! = z.cells[k]'hk2:=by rw[hkm];exact getElem!_pos z.cells k hk2
   have e5:(madeCells z.cells (c0.toNat*i.size)).getD (q*sz+k) undef=z.cells.getD k undef:=by
    simp only[madeCells,Array.getD_eq_getD_getElem?,Array.getElem?_map,e3,Option.map_some,Option.getD_some,e4,Array.getElem?_eq_getElem hk2]
   rw[e5]
   exact h4
  ·cases hcc
 have hnew:=JE hh (t:=e) (cap:=c0.toNat) hszT (by rw[size_madeCells,hsz']) (by simp;omega) hro
 refine A9 (y:=.slice (some ⟨w.heap.size,0,none⟩) l0.toNat c0.toNat) (by simp[execOp,ho,h1,h2,hrun]) (hnx _ _ _ _ _ hnew.1 hnew.2 ?_ hK)
 rw[←hh.n]
 exact R.s (g:=g.add w.heap.size c0.toNat sz) g.n 0 l0.toNat c0.toNat ⟨w.heap.size,0,none⟩ (Nat.lt_succ_self _) (by omega) (by simp) (fun _=>by simp)
def Ly(d:Option AV)(z:Int):Option Int:=
 match d with
 |none=>some z
 |some x=>Aw x
def Hi(e sz:Nat)(x:AV)(lo hi mx:Option AV)(S:Aa)(K:AV→Aa→Prop):Prop:=
 match x with
 |.s id b n=>BK (Ly lo 0) fun l=>BK (Ly hi n) fun h =>
    match mx with
    |none=>(0≤l∧l≤h∧h≤n)∧(l=0∨S.ty id=some e)∧K (.s id (b+l.toNat) (h - l).toNat) S
    |some m=>BK (Aw m) fun m=>hi.isSome=true∧(0≤l∧l≤h∧h≤m∧m≤n)∧(l=0∨S.ty id=some e)∧K (if m=l then .nl else .s id (b+l.toNat) (h - l).toNat) S
 |.l es=>BK (Ly lo 0) fun l=>BK (Ly hi es.length) fun h =>
    match mx with
    |none=>(0≤l∧l≤h∧h≤es.length)∧(∀ c,c∈es→c.length=sz)∧K (.l ((es.drop l.toNat).take (h - l).toNat)) S
    |some m=>BK (Aw m) fun m=>hi.isSome=true∧(0≤l∧l≤h∧h≤m∧m≤es.length)∧(∀ c,c∈es→c.length=sz)∧K (if m=l then .nl else .l ((es.drop l.toNat).take (h - l).toNat)) S
 |.nl=>BK (Ly lo 0) fun l=>BK (Ly hi 0) fun h=>BK (Ly mx 0) fun m=>(mx.isSome=true→hi.isSome=true)∧(l=0∧h=0∧m=0)∧K .nl S
 |_=>False
def XD(x:AV)(lo hi:Option AV)(S:Aa)(K:AV→Aa→Prop):Prop:=
 match x with
 |.v (.string b)=>BK (Ly lo 0) fun l=>BK (Ly hi b.size) fun h=>(0≤l∧l≤h∧h≤b.size)∧K (.v (.string (b.extract l.toNat h.toNat))) S
 |_=>False
def slice(P:Program)(t:TypeId)(x:AV)(lo hi mx:Option AV)(S:Aa)(K:AV→Aa→Prop):Prop:=
 match P.underlying t with
 |some (.slice e)=>match Fa P e with
  |some sz=>Hi e sz x lo hi mx S K
  |none=>False
 |some .string=>mx=none∧XD x lo hi S K
 |_=>False
theorem H2{P:Program}{w:World}{x:Value}{y:Nat}{c:BoundsCode}{k:IntKind}{n:Int}(h:x = .int k n)(h0:0≤n)(h1:n≤y):(Instr.sliceBound x y c).run P w = .ok n.toNat w:=by
 subst h
 simp[Instr.sliceBound,asIntOf,h0,h1]
theorem Gf{w:World}{g:Gh}{env:Env}{a:Act}(he:BX D w g env a){o:Option Operand}{d z:Int}(h:Ly (o.map (ev env)) d=some z):
    (o=none∧z=d)∨∃ x k,o=some x∧a.eval x = .int k z:=by
 cases o with
 |none=>cases h;exact .inl ⟨rfl,rfl⟩
 |some x =>
  obtain⟨k,hk⟩:=Dn (he.ev x) h
  exact .inr ⟨x,k,rfl,hk⟩
theorem Mi{P:Program}{w:World}{g:Gh}{env:Env}{a:Act}(he:BX D w g env a){lo hi mx:Option Operand}{isS:Bool}{n c:Nat}{l h m:Int}(hl:Ly (lo.map (ev env)) 0=some l)(hh:Ly (hi.map (ev env)) n=some h)
    (hm:Ly (mx.map (ev env)) c=some m) (hx:mx.isSome=true→hi.isSome=true) (h0:0≤l) (h1:l≤h) (h2:h≤m) (h3:m≤c) (hc:mx=none→m=c):
    (Instr.sliceBounds isS n c (lo.map a.eval) (hi.map a.eval) (mx.map a.eval)).run P w = .ok (l.toNat,h.toNat,m.toNat) w:=by
 have hL:∀ x k,a.eval x = .int k l→∀ code,(Instr.sliceBound (a.eval x) h.toNat code).run P w = .ok l.toNat w:=fun x k e code=>H2 e h0 (by omega)
 have hH:∀ x k,a.eval x = .int k h→∀ code,(Instr.sliceBound (a.eval x) m.toNat code).run P w = .ok h.toNat w:=fun x k e code=>H2 e (by omega) (by omega)
 have hH':mx=none→∀ x k,a.eval x = .int k h→∀ code,(Instr.sliceBound (a.eval x) c code).run P w = .ok h.toNat w:=fun em x k e code=>H2 e (by omega) (by omega)
 have hM:∀ x k,a.eval x = .int k m→∀ code,(Instr.sliceBound (a.eval x) c code).run P w = .ok m.toNat w:=fun x k e code=>H2 e (by omega) (by omega)
 unfold Instr.sliceBounds
 rcases Gf he hm with⟨rfl,rfl⟩|⟨xm,km,rfl,em⟩
 ·rcases Gf he hh with⟨rfl,rfl⟩|⟨xh,kh,rfl,eh⟩<;>rcases Gf he hl with⟨rfl,rfl⟩|⟨xl,kl,rfl,el⟩
  ·simp
  ·have:=hL xl kl el
   simp at this
   simp[this]
  ·simp[hH' rfl xh kh eh]
  ·simp[hH' rfl xh kh eh,hL xl kl el]
 ·rcases Gf he hh with⟨rfl,rfl⟩|⟨xh,kh,rfl,eh⟩<;>rcases Gf he hl with⟨rfl,rfl⟩|⟨xl,kl,rfl,el⟩
  ·simp at hx
  ·simp at hx
  ·simp[hM xm km em,hH xh kh eh]
  ·simp[hM xm km em,hH xh kh eh,hL xl kl el]
theorem Qx{P:Program}{o:Oper}{t:TypeId}{x:Operand}{lo hi mx:Option Operand}(ho:o.op = .slice t x lo hi mx){env:Env}{S:Aa}{K X:AV→Aa→Prop}
    (h:slice P t (ev env x) (lo.map (ev env)) (hi.map (ev env)) (mx.map (ev env)) S K):E7 P o env S K X:=by
 unfold slice at h
 split at h
 ·rename_i e hu
  split at h
  case h_2=>exact h.elim
  rename_i sz hsz
  have mach:∀{D:List Deferred} (w:World) (g:Gh) (a:Act) (A:Option Addr) (n c:Nat) (l h m:Int),BX D w g env a→a.eval x = .slice A n c→Ly (lo.map (ev env)) 0=some l→Ly (hi.map (ev env)) n=some h→Ly (mx.map (ev env)) c=some m→
      (mx.isSome=true→hi.isSome=true)→0≤l→l≤h→h≤m→m≤c→(mx=none→m=c)→
      (execOp a.eval o).run P w = .ok (.value (.slice (if m.toNat=l.toNat then A else A.map (·.add (l.toNat*sz))) (h.toNat - l.toNat) (m.toNat - l.toNat))) w:=by
   intro D w g a A n c l h m he hx hl hh hm hxx h0 h1 h2 h3 hc
   have hb:=Mi (P:=P) (isS:=true) he hl hh hm hxx h0 h1 h2 h3 hc
   simp[execOp,ho,hx,Instr.sliceAt,Instr.slice,run_underlying hu,hb,C4 hsz]
  unfold Hi at h
  split at h
  ·rename_i id b n hX
   obtain⟨l,hl,hh0,hhh,h⟩:=h
   have fin:∀{D:List Deferred} (w:World) (g:Gh) (a:Act) (S0:Ba P w g S) (he:BX D w g env a) (A:Addr) (c:Nat) (m:Int),id<g.n→n≤c→b+c≤g.cap id→(0<c→A=⟨g.blk id,b*g.sz id,none⟩)→0≤l→l≤hh0→hh0≤m→m≤c→(l=0∨S.ty id=some e)→
       R w g (.s id (b+l.toNat) (hh0 - l).toNat) (.slice (if m.toNat=l.toNat then some A else(some A).map (·.add (l.toNat*sz))) (hh0.toNat - l.toNat) (m.toNat - l.toNat)):=by
    intro D w g a S0 he A c m hid hn hc hA h0 h1 h2 h3 hty
    have e1:(hh0 - l).toNat=hh0.toNat - l.toNat:=by omega
    rw[e1]
    by_cases hml:m.toNat=l.toNat
    ·rw[if_pos hml]
     exact .s id _ _ _ A hid (by omega) (by omega) (fun hp=>by omega)
    ·rw[if_neg hml]
     refine .s id _ _ _ (A.add (l.toNat*sz)) hid (by omega) (by omega) (fun hp=>?_)
     rw[hA (by omega),Ej]
     rcases hty with rfl|hty
     ·simp
     ·rw[r7 S0 hty hsz,Nat.add_mul]
   cases hmx:mx with
   |none =>
    rw[hmx]at h
    obtain⟨⟨h0,h1,h2⟩,hty,hK⟩:=h
    intro D w g a next Q hh he hnx hx
    have hrx:=he.ev x
    rw[hX]at hrx
    obtain⟨hid,A,c,hy,hn,hc,hA⟩:=hrx.FX
    refine A9 (mach w g a (some A) n c l hh0 c he hy hl hhh (by rw[hmx];rfl) (by simp[hmx]) h0 h1 (by omega) (by omega) (fun _=>rfl)) (hnx _ S w g _ hh (Mv.refl _ _) ?_ hK)
    exact fin w g a hh he A c c hid hn hc hA h0 h1 (by omega) (by omega) hty
   |some xm =>
    rw[hmx]at h
    obtain⟨m,hm,hhi,⟨h0,h1,h2,h3⟩,hty,hK⟩:=h
    intro D w g a next Q hh he hnx hx
    have hrx:=he.ev x
    rw[hX]at hrx
    obtain⟨hid,A,c,hy,hn,hc,hA⟩:=hrx.FX
    refine A9 (mach w g a (some A) n c l hh0 m he hy hl hhh (by rw[hmx];exact hm) (fun _=>by simpa using hhi) h0 h1 h2 (by omega) (by simp[hmx])) (hnx _ S w g _ hh (Mv.refl _ _) ?_ hK)
    split
    ·rename_i e
     subst e
     have e1:hh0.toNat - m.toNat=0:=by omega
     rw[if_pos rfl,e1,Nat.sub_self]
     exact .nl _
    ·exact fin w g a hh he A c m hid hn hc hA h0 h1 h2 (by omega) hty
  ·rename_i es hX
   obtain⟨l,hl,hh0,hhh,h⟩:=h
   have fin:∀(w:World) (g:Gh) (y:Value) (A:Option Addr) (c:Nat) (m:Int),R w g (.l es) y→y = .slice A es.length c→0≤l→l≤hh0→hh0≤m→m≤c→hh0≤es.length→(∀ c,c∈es→c.length=sz)→
       R w g (.l ((es.drop l.toNat).take (hh0 - l).toNat)) (.slice (if m.toNat=l.toNat then A else A.map (·.add (l.toNat*sz))) (hh0.toNat - l.toNat) (m.toNat - l.toNat)):=by
    intro w g y A c m hr hy h0 h1 h2 h3 h4 hcl
    obtain⟨A',c',sz',vs,hy',hc',hm,hR⟩:=hr.IL
    rw[hy']at hy
    cases hy
    have e1:(hh0 - l).toNat=hh0.toNat - l.toNat:=by omega
    have hlen:((es.drop l.toNat).take (hh0 - l).toNat).length=hh0.toNat - l.toNat:=by simp;omega
    have hget:∀(i:Nat) (cc:List AV),((es.drop l.toNat).take (hh0 - l).toNat)[i]? = some cc→es[l.toNat+i]? = some cc:=by
     intro i cc hcc
     rw[List.getElem?_take]at hcc
     split at hcc
     ·rwa [List.getElem?_drop]at hcc
     ·cases hcc
    rw[←hlen]
    refine .l _ _ _ sz (fun i j=>vs (l.toNat+i) j) (by rw[hlen];omega) (fun hne=>?_) (fun i cc j u h5 h6=>(hR _ _ _ _ (hget i cc h5) h6).1) (fun i cc j u h5 h6=>(hR _ _ _ _ (hget i cc h5) h6).2)
    have hpos:0<hh0.toNat - l.toNat:=by
     rw[←hlen]
     exact List.length_pos_iff.2 hne
    have hes:es≠[]:=by rintro rfl;simp at hne
    obtain⟨ad,rfl,him,hcell⟩:=hm hes
    have hszz:sz'=sz:=by
     obtain⟨cc,hcc⟩:∃ cc,es[l.toNat]? = some cc:=⟨_,List.getElem?_eq_getElem (by omega)⟩
     rw[←(hcell _ _ hcc).1]
     exact hcl cc (List.mem_of_getElem? hcc)
    subst hszz
    rw[if_neg (by omega)]
    refine⟨_,rfl,by rw[Ix];exact him,fun i cc hcc=>?_⟩
    obtain⟨h7,h8⟩:=hcell _ _ (hget i cc hcc)
    refine⟨h7,fun j hj=>?_⟩
    rw[add_add,←Nat.add_assoc,←Nat.add_mul]
    exact h8 j hj
   cases hmx:mx with
   |none =>
    rw[hmx]at h
    obtain⟨⟨h0,h1,h2⟩,hty,hK⟩:=h
    intro D w g a next Q hh he hnx hx
    have hrx:=he.ev x
    rw[hX]at hrx
    obtain⟨A,c,_,_,hy,hn,_⟩:=hrx.IL
    refine A9 (mach w g a A es.length c l hh0 c he hy hl hhh (by rw[hmx];rfl) (by simp[hmx]) h0 h1 (by omega) (by omega) (fun _=>rfl)) (hnx _ S w g _ hh (Mv.refl _ _) ?_ hK)
    exact fin w g _ A c c hrx hy h0 h1 (by omega) (by omega) h2 hty
   |some xm =>
    rw[hmx]at h
    obtain⟨m,hm,hhi,⟨h0,h1,h2,h3⟩,hty,hK⟩:=h
    intro D w g a next Q hh he hnx hx
    have hrx:=he.ev x
    rw[hX]at hrx
    obtain⟨A,c,_,_,hy,hn,_⟩:=hrx.IL
    refine A9 (mach w g a A es.length c l hh0 m he hy hl hhh (by rw[hmx];exact hm) (fun _=>by simpa using hhi) h0 h1 h2 (by omega) (by simp[hmx])) (hnx _ S w g _ hh (Mv.refl _ _) ?_ hK)
    split
    ·rename_i e
     subst e
     have e1:hh0.toNat - m.toNat=0:=by omega
     rw[if_pos rfl,e1,Nat.sub_self]
     exact .nl _
    ·exact fin w g _ A c m hrx hy h0 h1 h2 (by omega) (by omega) hty
  ·rename_i hX
   obtain⟨l,hl,h0,hh0,m,hm,hxx,⟨rfl,rfl,rfl⟩,hK⟩:=h
   intro D w g a next Q hh he hnx hx
   have hrx:=he.ev x
   rw[hX]at hrx
   obtain⟨A,hy⟩:=hrx.GH
   refine A9 (mach w g a A 0 0 0 0 0 he hy hl hh0 hm (by simpa using hxx) (Int.le_refl _) (Int.le_refl _) (Int.le_refl _) (Int.le_refl _) (fun _=>rfl)) (hnx _ S w g _ hh (Mv.refl _ _) ?_ hK)
   exact .nl _
  ·exact h.elim
 ·rename_i hu
  obtain⟨hmx,h⟩:=h
  unfold XD at h
  split at h
  ·rename_i b hX
   obtain⟨l,hl,hh0,hhh,⟨h0,h1,h2⟩,hK⟩:=h
   refine Bd hK fun D w g a hh he=>⟨_,?_,.v _⟩
   have hrx:=he.ev x
   rw[hX]at hrx
   have hmx':mx=none:=by cases mx with|none=>rfl|some _=>cases hmx
   subst hmx'
   have hb:=Mi (P:=P) (w:=w) (isS:=false) (mx:=none) (c:=b.size) (m:=b.size) he hl hhh rfl (by simp) h0 h1 h2 (Int.le_refl _) (fun _=>rfl)
   simp at hb
   simp[execOp,ho,hrx.BB,Instr.sliceAt,Instr.slice,run_underlying hu,hb]
  ·exact h.elim
 ·exact h.elim
def IZ(S:Aa)(y:AV):Option (List (List AV)):=
 match y with
 |.nl=>some []
 |.l es=>some es
 |.s id b n =>
  match S.obj id with
  |some (.cells _ es _)=>if b+n≤es.length then some ((es.drop b).take n)else none
  |_=>none
 |_=>none
theorem Kv{P:Program}{w:World}{g:Gh}{S:Aa}(hh:Ba P w g S){y:AV}{v:Value}(hr:R w g y v){es:List (List AV)}(hs:IZ S y=some es){sz:Nat}(hc:∀ c,c∈es→c.length=sz):
    ∃(A:Option Addr) (c:Nat),v = .slice A es.length c∧es.length≤c∧(es≠[]→∃(ad:Addr) (news:List Value),A=some ad∧news.length=es.length*sz∧(∀ j u,news[j]? = some u→w.cell? (ad.add j)=some u)∧(∀ u,u∈news→u.oneCell'=true)∧B7 w g sz es news.toArray):=by
 have build:∀(ad:Addr) (f:Nat→Nat→Value),(∀(i:Nat) (c:List AV) (k:Nat) (u:AV),es[i]? = some c→c[k]? = some u→u.one=true∧R w g u (f i k)∧w.cell? (ad.add (i*sz+k))=some (f i k))→
     ∃ news:List Value,news.length=es.length*sz∧(∀ j u,news[j]? = some u→w.cell? (ad.add j)=some u)∧(∀ u,u∈news→u.oneCell'=true)∧B7 w g sz es news.toArray:=by
  intro ad f hf
  have hat:∀ j,j<es.length*sz→∃ c u,es[j / sz]? = some c∧c[j % sz]? = some u∧0<sz:=by
   intro j hj
   have hpos:0<sz:=by
    rcases Nat.eq_zero_or_pos sz with h|h
    ·subst h;simp at hj
    ·exact h
   have h1:j / sz<es.length:=Nat.div_lt_of_lt_mul (by rw[Nat.mul_comm];exact hj)
   have h2:j % sz<sz:=Nat.mod_lt _ hpos
   have h3:=hc _ (List.getElem_mem h1)
   exact⟨es[j / sz],es[j / sz][j % sz]'(by omega),List.getElem?_eq_getElem h1,List.getElem?_eq_getElem (by omega),hpos⟩
  refine⟨(List.range (es.length*sz)).map fun j=>f (j / sz) (j % sz),by simp,fun j u hu=>?_,fun u hu=>?_,fun i c hci=>⟨hc c (List.mem_of_getElem? hci),fun k u hu=>?_⟩⟩
  ·rw[List.getElem?_map]at hu
   obtain⟨j',hj',rfl⟩:=Option.map_eq_some_iff.1 hu
   obtain⟨h1,h2⟩:=List.getElem?_eq_some_iff.1 hj'
   simp at h1 h2
   subst h2
   obtain⟨c,u,h3,h4,hpos⟩:=hat j h1
   have:=(hf _ _ _ _ h3 h4).2.2
   rwa [Nat.mul_comm,Nat.div_add_mod]at this
  ·obtain⟨j,hj,rfl⟩:=List.mem_map.1 hu
   simp at hj
   obtain⟨c,u,h3,h4,hpos⟩:=hat j hj
   obtain⟨h5,h6,_⟩:=hf _ _ _ _ h3 h4
   exact h6.OQ h5
  ·obtain⟨h5,h6,_⟩:=hf _ _ _ _ hci hu
   refine⟨h5,?_⟩
   have hk:k<sz:=by
    have:=(List.getElem?_eq_some_iff.1 hu).1
    have:=hc c (List.mem_of_getElem? hci)
    omega
   have hi:i<es.length:=(List.getElem?_eq_some_iff.1 hci).1
   have hlt:i*sz+k<es.length*sz:=GI hi (Nat.le_refl _) hk
   have e1:(i*sz+k) / sz=i:=by
    rw[Nat.mul_comm,Nat.mul_add_div (by omega),Nat.div_eq_of_lt hk,Nat.add_zero]
   have e2:(i*sz+k) % sz=k:=by rw[Nat.mul_comm,Nat.mul_add_mod,Nat.mod_eq_of_lt hk]
   have e3:(List.range (es.length*sz))[i*sz+k]? = some (i*sz+k):=by simp[hlt]
   simp only[Array.getD_eq_getD_getElem?,List.getElem?_toArray,List.getElem?_map,e3,Option.map_some,Option.getD_some,e1,e2]
   exact h6
 cases y with
 |nl =>
  cases hs
  obtain⟨A,rfl⟩:=hr.GH
  exact⟨A,0,rfl,Nat.le_refl _,fun h=>absurd rfl h⟩
 |l es' =>
  have hs':es'=es:=by simpa[IZ]using hs
  subst hs'
  obtain⟨A,c,sz',vs,rfl,hcap,hm,hR⟩:=hr.IL
  refine⟨A,c,rfl,hcap,fun hne=>?_⟩
  obtain⟨ad,rfl,him,hcell⟩:=hm hne
  have hsz:sz'=sz:=by
   cases es' with
   |nil=>exact absurd rfl hne
   |cons c0 rest =>
    rw[←(hcell 0 c0 rfl).1]
    exact hc c0 List.mem_cons_self
  subst hsz
  obtain⟨news,h2⟩:=build ad vs (fun i c k u h3 h4=>⟨(hR _ _ _ _ h3 h4).1,(hR _ _ _ _ h3 h4).2,(hcell i c h3).2 k (by have:=(List.getElem?_eq_some_iff.1 h4).1;have:=(hcell i c h3).1;omega)⟩)
  exact⟨ad,news,rfl,h2⟩
 |s id b n =>
  obtain⟨hid,A,c,rfl,hn,hcap,hA⟩:=hr.FX
  simp only[IZ]at hs
  split at hs
  ·rename_i t es0 live ho
   split at hs
   ·rename_i hle
    cases hs
    have hlen:((es0.drop b).take n).length=n:=by simp;omega
    refine⟨some A,c,by rw[hlen],by omega,fun hne=>?_⟩
    have hpos:0<n:=by rw[←hlen];exact List.length_pos_iff.2 hne
    have hA':=hA (by omega)
    subst hA'
    have hob:=hh.obj _ _ _ _ ho
    obtain⟨cs,hrow,hcs,hro⟩:=hob.row
    have hget:∀(i:Nat) (cc:List AV),((es0.drop b).take n)[i]? = some cc→es0[b+i]? = some cc:=by
     intro i cc hcc
     rw[List.getElem?_take]at hcc
     split at hcc
     ·rwa [List.getElem?_drop]at hcc
     ·cases hcc
    have hszz:g.sz id=sz:=by
     have h0:es0[b]? = some es0[b]:=List.getElem?_eq_getElem (by omega)
     rw[←(hro b _ h0).1]
     refine hc _ ?_
     have:((es0.drop b).take n)[0]? = some es0[b]:=by
      rw[List.getElem?_take,if_pos hpos,List.getElem?_drop]
      exact h0
     exact List.mem_of_getElem? this
    subst hszz
    obtain⟨news,h2⟩:=build ⟨g.blk id,b*g.sz id,none⟩ (fun i k=>cs.getD ((b+i)*g.sz id+k) undef) (fun i c k u h3 h4=>by
     obtain⟨h5,h6⟩:=hro _ _ (hget i c h3)
     obtain⟨h7,h8⟩:=h6 k u h4
     refine⟨h7,h8,?_⟩
     have hk:k<g.sz id:=by have:=(List.getElem?_eq_some_iff.1 h4).1;omega
     have hb:(b+i)*g.sz id+k<cs.size:=by
      rw[hcs]
      exact GI (List.getElem?_eq_some_iff.1 (hget i c h3)).1 hob.len hk
     rw[Ej,Ee hrow,←Nat.add_assoc,←Nat.add_mul]
     simp[Array.getD_eq_getD_getElem?,Array.getElem?_eq_getElem hb])
    exact⟨_,news,rfl,h2⟩
   ·cases hs
  ·cases hs
 |_=>simp[IZ]at hs
def Qf(e b:Nat)(x:AV)(ys:List (List AV))(S:Aa)(K:AV→Aa→Prop):Prop:=
 match ys with
 |[]=>K x S
 |_ :: _=>match x with
  |.nl=>ys.length*b≤140737488355328∧K (.s S.n 0 ys.length) (S.new (.cells e ys true))
  |.s id 0 n =>
   match S.obj id with
   |some (.cells t es true)=>(t=e∧n≤es.length∧(n+ys.length)*b≤140737488355328)∧K (.s S.n 0 (n+ys.length)) ((S.kill id).new (.cells e (es.take n++ys) true))
   |_=>False
  |_=>False
def Od:AV→Bool
 |.nl|.s _ _ _|.l _=>true
 |_=>false
def Bo(e sz b:Nat)(x y:AV)(S:Aa)(K:AV→Aa→Prop):Prop:=
 Od x=true∧BK (IZ S y) fun ys=>(∀ c,c∈ys→c.length=sz)∧Qf e b x ys S K
def app(P:Program)(ts:Array TypeId)(x y:AV)(S:Aa)(K:AV→Aa→Prop):Prop:=
 match ts.toList with
 |[t,t']=>match mF P t with
  |some e=>match Fa P e,RQ P e,zT P e with
   |some sz,some b,some z=>match decide (t=t') && (decide (0<b) && decide (z.cells.size=sz))with
    |true=>Bo e sz b x y S K
    |false=>False
   |_,_,_=>False
  |none=>False
 |_=>False
theorem Ew{w:World}{g:Gh}{sz:Nat}{es:List (List AV)}{l l':List Value}(h:B7 w g sz es l.toArray)(hl:es.length*sz≤l.length):B7 w g sz es (l++l').toArray:=by
 intro i c hc
 obtain⟨h1,h2⟩:=h i c hc
 refine⟨h1,fun k u hu=>?_⟩
 obtain⟨h3,h4⟩:=h2 k u hu
 refine⟨h3,?_⟩
 have hk:k<sz:=by have:=(List.getElem?_eq_some_iff.1 hu).1;omega
 have hlt:=GI (List.getElem?_eq_some_iff.1 hc).1 (Nat.le_refl _) hk
 simp only[Array.getD_eq_getD_getElem?,List.getElem?_toArray]at h4 ⊢
 rwa [List.getElem?_append_left (by omega)]
theorem Jl{w:World}{g:Gh}{sz:Nat}{es ys:List (List AV)}{l l':List Value}(h:B7 w g sz es l.toArray)(h':B7 w g sz ys l'.toArray)(hl:l.length=es.length*sz):B7 w g sz (es++ys) (l++l').toArray:=by
 intro i c hc
 by_cases hi:i<es.length
 ·rw[List.getElem?_append_left hi]at hc
  exact Ew h (by omega) i c hc
 ·rw[List.getElem?_append_right (by omega)]at hc
  obtain⟨h1,h2⟩:=h' _ _ hc
  refine⟨h1,fun k u hu=>?_⟩
  obtain⟨h3,h4⟩:=h2 k u hu
  refine⟨h3,?_⟩
  have e1:i*sz+k=l.length+((i - es.length)*sz+k):=by
   rw[hl,Nat.sub_mul]
   have:es.length*sz≤i*sz:=Nat.mul_le_mul_right _ (by omega)
   omega
  simp only[Array.getD_eq_getD_getElem?,List.getElem?_toArray]at h4 ⊢
  rw[e1,List.getElem?_append_right (by omega),Nat.add_sub_cancel_left]
  exact h4
theorem Ml{w:World}{g:Gh}{sz:Nat}{es:List (List AV)}{cs:Array Value}(h:B7 w g sz es cs):B7 w g sz es (cs.toList.take (es.length*sz)).toArray:=by
 intro i c hc
 obtain⟨h1,h2⟩:=h i c hc
 refine⟨h1,fun k u hu=>?_⟩
 obtain⟨h3,h4⟩:=h2 k u hu
 refine⟨h3,?_⟩
 have hk:k<sz:=by have:=(List.getElem?_eq_some_iff.1 hu).1;omega
 have hlt:=GI (List.getElem?_eq_some_iff.1 hc).1 (Nat.le_refl _) hk
 simp only[Array.getD_eq_getD_getElem?,List.getElem?_toArray]at h4 ⊢
 rw[List.getElem?_take,if_pos hlt]
 simpa using h4
theorem Lo{P:Program}{w:World}{t ty e:TypeId}{i:TypeInfo}(ht:P.underlying t=some (.slice e))(hi:P.info? e=some i)(A B:Option Addr)(n c c':Nat)(hn:n≤c):
    (Builtin.append_ #[t,t] ty #[.slice A n c,.slice B 0 c']).run P w = .ok (.slice A n c) w:=by
 cases A<;>cases B<;>simp[Builtin.append_,run_underlying ht,sizeOf,typeInfo,hi,Builtin.lenOf,Builtin.firstCells,hn,loadCells,loadCellsFrom,storeCells]
theorem Oc{w:World}{g:Gh}{x:AV}{y:Value}(hr:R w g x y)(h:Od x=true):∃ A n c,y = .slice A n c∧n≤c:=by
 cases x with
 |nl=>obtain⟨A,rfl⟩:=hr.GH;exact⟨A,0,0,rfl,Nat.le_refl _⟩
 |s id i n=>obtain⟨_,A,c,rfl,h1,_⟩:=hr.FX;exact⟨_,_,_,rfl,h1⟩
 |l es=>obtain⟨A,c,_,_,rfl,h1,_⟩:=hr.IL;exact⟨_,_,_,rfl,h1⟩
 |_=>simp[Od]at h
theorem GJ{P:Program}{w:World}{g:Gh}{S:Aa}(hh:Ba P w g S){e:TypeId}{sz:Nat}(hsz:Fa P e=some sz){es:List (List AV)}{l:List Value}(hro:B7 w g sz es l.toArray)(hl:l.length=es.length*sz){z:Array Value}(hz:z.size=sz){cap:Nat}(hcap:es.length≤cap):
    Ba P (w.drew.alloc (.cells (l.toArray++Builtin.zeroCells z (cap - es.length)) e)) (g.add w.heap.size cap sz) (S.new (.cells e es true))∧Mv w g (w.drew.alloc (.cells (l.toArray++Builtin.zeroCells z (cap - es.length)) e)) (g.add w.heap.size cap sz):=by
 have h:=JE hh.drew (t:=e) (es:=es) (cs:=l.toArray++Builtin.zeroCells z (cap - es.length)) (cap:=cap) hsz (by
  simp only[Array.size_append,List.size_toArray,size_zeroCells,hl,hz,←Nat.add_mul]
  congr 1
  omega) hcap (by
  have h1:B7 w.drew g sz es (l++(Builtin.zeroCells z (cap - es.length)).toList).toArray:=Ew (hro.mv (D3 w g)) (by omega)
  have h2:(l++(Builtin.zeroCells z (cap - es.length)).toList).toArray=l.toArray++Builtin.zeroCells z (cap - es.length):=by simp
  rwa [h2]at h1)
 exact⟨h.1,(D3 w g).trans h.2⟩
theorem kD{P:Program}{w:World}{g:Gh}{S:Aa}(hh:Ba P w g S){t ty e:TypeId}{sz b:Nat}{z:Value}(ht:mF P t=some e)(hsz:Fa P e=some sz)(hb:RQ P e=some b)(hz:zT P e=some z)(hb0:0<b)(hzs:z.cells.size=sz)
    {x y:AV} {vx vy:Value} (hx:R w g x vx) (hy:R w g y vy) {K:AV→Aa→Prop} (h:Bo e sz b x y S K):
    ∃ w' g' S' v u,(Builtin.append_ #[t,t] ty #[vx,vy]).run P w = .ok v w'∧Ba P w' g' S'∧Mv w g w' g'∧R w' g' u v∧K u S':=by
 obtain⟨hisl,ys,hys,hcl,h⟩:=h
 have hszT:=hsz
 unfold Fa at hsz
 obtain⟨i,hi,hsz'⟩:=Option.map_eq_some_iff.1 hsz
 subst hsz'
 have hb':i.bytes=b:=by unfold RQ at hb;rw[hi]at hb;cases hb;rfl
 subst hb'
 have hz':i.zero=some z:=by unfold zT at hz;rw[hi]at hz;exact hz
 have htu:=Gb ht
 obtain⟨B,c',rfl,hc',hsrc⟩:=Kv hh hy hys hcl
 unfold Qf at h
 split at h
 ·obtain⟨A,n,c,rfl,hn⟩:=Oc hx hisl
  exact⟨w,g,S,_,x,Lo htu hi A B n c _ hn,hh,Mv.refl _ _,hx,h⟩
 ·rename_i y0 yr
  obtain⟨ad,news,rfl,hnl,hncell,hn1,hnro⟩:=hsrc (by simp)
  generalize hm:(y0 :: yr)=ys at *
  have hmpos:0<ys.length:=by rw[←hm];simp
  split at h
  ·obtain⟨hbytes,hK⟩:=h
   obtain⟨A,rfl⟩:=hx.GH
   have h63:ys.length≤140737488355328:=Nat.le_trans (Nat.le_mul_of_pos_right _ hb0) hbytes
   have hcap:=grownCap_ge w ys.length 0 e
   have hnew:=GJ hh hszT hnro hnl hzs hcap
   have hrun:(Builtin.append_ #[t,t] ty #[.slice A 0 0,.slice (some ad) ys.length c']).run P w = .ok (.slice (some ⟨w.heap.size,0,none⟩) ys.length (grownCap w ys.length 0 e)) (w.drew.alloc (.cells (news.toArray++Builtin.zeroCells z.cells (grownCap w ys.length 0 e - ys.length)) e)):=by
    cases A with
    |none=>exact Go.run_append_nil (P:=P) w t ty e i z htu hi hz' ad ys.length c' news hnl hncell hmpos (by omega) (by omega)
    |some A =>
     have:=Go.run_append_grow (P:=P) w t ty e i z htu hi hz' A 0 0 [] (by simp) (by simp) ad ys.length c' news hnl hncell (by omega) (by omega) (growslice_fits (by omega) (by simpa using hbytes))
     simpa using this
   refine⟨_,_,_,_,_,hrun,hnew.1,hnew.2,?_,hK⟩
   rw[←hh.n]
   exact R.s (g:=g.add w.heap.size (grownCap w ys.length 0 e) i.size) g.n 0 ys.length _ ⟨w.heap.size,0,none⟩ (Nat.lt_succ_self _) hcap (by simp) (fun _=>by simp)
  ·rename_i id n
   split at h
   ·rename_i t' es ho
    obtain⟨⟨rfl,hesL,hbytes⟩,hK⟩:=h
    obtain⟨es0,hes0⟩:∃ es0,es0=es.take n:=⟨_,rfl⟩
    rw[←hes0]at hK
    have hesn:es0.length=n:=by rw[hes0,List.length_take];omega
    obtain⟨hid,A,c,rfl,hnc,hcap,hA⟩:=hx.FX
    have hob:=hh.obj _ _ _ _ ho
    obtain⟨cs,hrow,hcs,hro⟩:=hob.row
    have hszid:g.sz id=i.size:=by
     obtain⟨i',hi',h2⟩:=hob.info
     rw[hi]at hi'
     cases hi'
     exact h2.symm
    have h63:n+ys.length≤140737488355328:=Nat.le_trans (Nat.le_mul_of_pos_right _ hb0) hbytes
    have hro':B7 w g i.size es0 cs:=by
     rw[←hszid]
     intro q c hc
     rw[hes0,List.getElem?_take]at hc
     split at hc
     ·exact hro q c hc
     ·cases hc
    have hlen:(cs.toList.take (es0.length*i.size)).length=es0.length*i.size:=by
     simp only[List.length_take,Array.length_toList,hcs,hszid]
     have:es0.length*i.size≤g.cap id*i.size:=Nat.mul_le_mul_right _ (Nat.le_trans (by omega) hob.len)
     omega
    have hroall:=Jl (Ml hro') hnro hlen
    have hlenall:(cs.toList.take (es0.length*i.size)++news).length=(es0++ys).length*i.size:=by
     rw[List.length_append,hlen,hnl,List.length_append,Nat.add_mul]
    by_cases hroom:n+ys.length≤c
    ·have hA':=hA (by omega)
     rw[Nat.zero_mul]at hA'
     subst hA'
     have hfit:n*i.size+news.length≤cs.size:=by
      rw[hnl,hcs,hszid,←Nat.add_mul]
      exact Nat.mul_le_mul_right _ (by omega)
     have hr:=Go.run_append_room (P:=P) w t ty t' i htu hi (g.blk id) n c cs hrow ad ys.length c' news hnl hncell hn1 hroom hfit
     obtain⟨h1,m1⟩:=M5 hh ho
     have ho':((S.kill id).new (.cells t' es true)).obj g.n=some (.cells t' es true):=by simp[Aa.new,Aa.kill,hh.n]
     obtain⟨h2,m2⟩:=heap_set h1 ho' (es':=es0++ys) (cs':=(cs.toList.take (n*i.size)++news++cs.toList.drop (n*i.size+news.length)).toArray) (by
      rw[Iw,Nn,hszid]
      simp only[List.size_toArray,List.length_append,List.length_take,List.length_drop,Array.length_toList]
      rw[hcs,hszid]at hfit ⊢
      omega) (by rw[Iw,List.length_append];omega) (by
      have e0:(g.add (g.blk id) (g.cap id) (g.sz id)).sz g.n=i.size:=by rw[Nn,hszid]
      rw[e0]
      have h3:=Ew (l':=cs.toList.drop (n*i.size+news.length)) (hroall.mv m1) (by omega)
      rw[hesn]at h3
      exact h3)
     rw[D6]at h2 m2
     have hst:((S.kill id).new (.cells t' es true)).Dl g.n (.cells t' (es0++ys) true)=(S.kill id).new (.cells t' (es0++ys) true):=by
      simp only[Aa.Dl,Aa.new,Aa.kill,hh.n,Aa.mk.injEq,true_and]
      funext q
      split<;>simp_all
     rw[hst]at h2
     refine⟨_,_,_,_,_,hr,h2,m1.trans m2,?_,hK⟩
     rw[←hh.n]
     exact R.s (g:=g.add (g.blk id) (g.cap id) (g.sz id)) g.n 0 (n+ys.length) c ⟨g.blk id,0,none⟩ (Nat.lt_succ_self _) hroom (by rw[Iw];omega) (fun _=>by simp)
    ·have hold:∀ j v,(cs.toList.take (n*i.size))[j]? = some v→w.cell? (A.add j)=some v:=by
       intro j v hv
       have hj:=(List.getElem?_eq_some_iff.1 hv).1
       have hpos:0<n:=by
        rcases Nat.eq_zero_or_pos n with h|h
        ·subst h;simp at hj
        ·exact h
       have hA':=hA (by omega)
       subst hA'
       rw[List.getElem?_take]at hv
       split at hv
       ·rw[Nat.zero_mul,Ej,Ee hrow,Nat.zero_add]
        simpa using hv
       ·cases hv
     have hr:=Go.run_append_grow (P:=P) w t ty t' i z htu hi hz' A n c (cs.toList.take (n*i.size)) (by rw[←hesn];exact hlen) hold ad ys.length c' news hnl hncell (by omega) (by omega) (growslice_fits (by omega) hbytes)
     have hge:=grownCap_ge w (n+ys.length) c t'
     obtain⟨h2,m2⟩:=GJ (hh.kill id) hszT hroall hlenall hzs (cap:=grownCap w (n+ys.length) c t') (by rw[List.length_append];omega)
     have e1:(es0++ys).length=n+ys.length:=by rw[List.length_append,hesn]
     rw[e1,hesn]at h2 m2
     have e2:(cs.toList.take (n*i.size)++news).toArray=(cs.toList.take (n*i.size)).toArray++news.toArray:=by simp
     rw[e2]at h2 m2
     refine⟨_,_,_,_,_,hr,h2,m2,?_,hK⟩
     rw[←hh.n]
     exact R.s (g:=g.add w.heap.size (grownCap w (n+ys.length) c t') i.size) g.n 0 (n+ys.length) _ ⟨w.heap.size,0,none⟩ (Nat.lt_succ_self _) hge (by simp) (fun _=>by simp)
   ·exact h.elim
  ·exact h.elim
end Go.Ab
set_option linter.unusedVariables false
set_option linter.unusedSimpArgs false
namespace Go.Ab
open Go Go.RowKit
variable {D:List Deferred}
def xT(e:Nat)(x:AV)(ys:List (List AV))(S:Aa)(K:AV→Aa→Prop):Prop:=
 match x with
 |.s id i n=>match S.obj id with
  |some (.cells t es true)=>(t=e∧i+n≤es.length)∧K (.v (.int .i64 (min ys.length n:Nat))) (S.Dl id (.cells t (es.take i++ys.take (min ys.length n)++es.drop (i+min ys.length n)) true))
  |_=>False
 |_=>False
def mN(e:Nat)(x y:AV)(S:Aa)(K:AV→Aa→Prop):Prop:=
 BK (IZ S y) fun ys=>(∀ c,c∈ys→c.length=1)∧xT e x ys S K
def cpy(P:Program)(ts:Array TypeId)(x y:AV)(S:Aa)(K:AV→Aa→Prop):Prop:=
 match ts.toList with
 |[t,_]=>match mF P t with
  |some e=>match Fa P e with
   |some 1=>mN e x y S K
   |_=>False
  |none=>False
 |_=>False
theorem AaA{α:Type}{X Y:List α}{i k q:Nat}(hi:i+k≤X.length)(hk:k≤Y.length):(X.take i++Y.take k++X.drop (i+k))[q]? = if q<i then X[q]? else if q<i+k then Y[q - i]? else X[q]?:=by
 have l1:(X.take i).length=i:=by rw[List.length_take];omega
 have l2:(Y.take k).length=k:=by rw[List.length_take];omega
 by_cases h1:q<i
 ·rw[if_pos h1,List.append_assoc,List.getElem?_append_left (by omega),List.getElem?_take,if_pos h1]
 ·rw[if_neg h1]
  by_cases h2:q<i+k
  ·rw[if_pos h2,List.getElem?_append_left (by rw[List.length_append];omega),List.getElem?_append_right (by omega),l1,List.getElem?_take,if_pos (by omega)]
  ·rw[if_neg h2,List.getElem?_append_right (by rw[List.length_append];omega),List.length_append,l1,l2,List.getElem?_drop]
   congr 1;omega
theorem OI{w:World}{g:Gh}{es ys:List (List AV)}{cs:Array Value}{l:List Value}{i k:Nat}(h:B7 w g 1 es cs)(h':B7 w g 1 ys l.toArray)(hk:k≤ys.length)(hl:l.length=ys.length)(hi:i+k≤es.length)(hs:es.length≤cs.size):
    B7 w g 1 (es.take i++ys.take k++es.drop (i+k)) (cs.toList.take i++l.take k++cs.toList.drop (i+k)).toArray:=by
 intro q c hc
 rw[AaA hi hk]at hc
 have hv:=AaA (X:=cs.toList) (Y:=l) (i:=i) (k:=k) (q:=q) (by simpa using Nat.le_trans hi hs) (by omega)
 have at_:∀ v,(cs.toList.take i++l.take k++cs.toList.drop (i+k))[q]? = v→(cs.toList.take i++l.take k++cs.toList.drop (i+k)).toArray.getD (q*1+0) undef=v.getD undef:=fun v e=>by
  rw[Array.getD_eq_getD_getElem?,Nat.mul_one,Nat.add_zero,List.getElem?_toArray,e]
 have fin:∀{es0:List (List AV)} {cs0:Array Value} {q0:Nat},B7 w g 1 es0 cs0→es0[q0]? = some c→(cs.toList.take i++l.take k++cs.toList.drop (i+k))[q]? = cs0[q0]?→c.length=1∧∀(k_1:Nat) (u:AV),c[k_1]? = some u→u.one=true∧R w g u ((cs.toList.take i++l.take k++cs.toList.drop (i+k)).toArray.getD (q*1+k_1) undef):=fun{es0 cs0 q0} hR he hq=>by
  obtain⟨h1,h2⟩:=hR _ _ he
  refine⟨h1,fun k1 u hu=>?_⟩
  obtain⟨h3,h4⟩:=h2 k1 u hu
  refine⟨h3,?_⟩
  have:k1=0:=by have:=(List.getElem?_eq_some_iff.1 hu).1;omega
  subst this
  rw[at_ _ hq]
  rwa [Nat.mul_one,Nat.add_zero,Array.getD_eq_getD_getElem?]at h4
 by_cases h1:q<i
 ·rw[if_pos h1]at hc hv
  exact fin h hc (by rw[hv,Array.getElem?_toList])
 ·rw[if_neg h1]at hc hv
  by_cases h2:q<i+k
  ·rw[if_pos h2]at hc hv
   exact fin h' hc (by rw[hv,List.getElem?_toArray])
  ·rw[if_neg h2]at hc hv
   exact fin h hc (by rw[hv,Array.getElem?_toList])
theorem Qs{S:Aa}{id:Nat}{o:Bw}(h:S.obj id=some o):S.Dl id o=S:=by
 cases S
 simp only[Aa.Dl,Aa.mk.injEq,true_and]
 funext q
 split
 ·rename_i e;subst e;exact h.symm
 ·rfl
theorem W8{P:Program}{o:Oper}{x y:Operand}{ts:Array TypeId}(ho:o.op = .call { callee:=.builtin .copy,args:=#[x,y],argTypes:=ts }){env:Env}{S:Aa}{K X:AV→Aa→Prop}
    (h:cpy P ts (ev env x) (ev env y) S K):E7 P o env S K X:=by
 unfold cpy at h
 split at h
 case h_2=>exact h.elim
 rename_i t t' hts
 split at h
 case h_2=>exact h.elim
 rename_i e he0
 split at h
 case h_2=>exact h.elim
 rename_i hsz
 have hts':ts = #[t,t']:=by
  apply Array.ext'
  exact hts
 subst hts'
 obtain⟨ys,hys,hcl,h⟩:=h
 intro D w g a next Q hh hE hnx hx
 obtain⟨B,c',hvy,hc',hsrc⟩:=Kv hh (hE.ev y) hys hcl
 have hu:=Gb he0
 have hsz1:(P.info? e).map (·.size)=some 1:=hsz
 unfold xT at h
 split at h
 case h_2=>exact h.elim
 rename_i id i n hxa
 split at h
 case h_2=>exact h.elim
 rename_i t0 es hob
 obtain⟨⟨rfl,hin⟩,hK⟩:=h
 have hrx:=hE.ev x
 rw[hxa]at hrx
 obtain⟨hid,A,c,hvx,hnc,hcap,hA⟩:=hrx.FX
 have hobj:=hh.obj _ _ _ _ hob
 obtain⟨cs,hrow,hcs,hro⟩:=hobj.row
 have hszid:g.sz id=1:=by
  obtain⟨i',hi',h2⟩:=hobj.info
  rw[hi']at hsz1
  have:i'.size=1:=by simpa using hsz1
  omega
 by_cases hk:min ys.length n=0
 ·have hrun:=Go.run_copy_none (P:=P) w t t' o.type t0 (some A) B n c ys.length c' hu hsz1 hk
  refine A9 (w':=w) (y:=.int .i64 ((0:Nat):Int)) ?_ (hnx _ S w g _ hh (Mv.refl _ _) (.v _) ?_)
  ·simp[execOp,ho,resolve,invoke,builtin,hvx,hvy,hrun,Result.andThen,goInt]
  ·rw[hk]at hK
   have e1:es.take i++ys.take 0++es.drop (i+0)=es:=by simp
   rw[e1,Qs hob]at hK
   exact hK
 ·have hne:ys≠[]:=by intro e;subst e;simp at hk
  obtain⟨ad,news,rfl,hnl,hncell,hn1,hnro⟩:=hsrc hne
  rw[Nat.mul_one]at hnl
  have hA':=hA (by omega)
  rw[hszid,Nat.mul_one]at hA'
  subst hA'
  have hmin:min ys.length n≤ys.length:=Nat.min_le_left _ _
  have hmin2:min ys.length n≤n:=Nat.min_le_right _ _
  have hlen:(news.take (min ys.length n)).length=min ys.length n:=by rw[List.length_take];omega
  rw[hszid,Nat.mul_one]at hcs
  have hrun:=Go.run_copy_row (P:=P) w t t' o.type t0 (g.blk id) i n c ad ys.length c' cs t0 (news.take (min ys.length n)) hu hsz1 hrow hlen (fun j v hv=>by
   rw[List.getElem?_take]at hv
   split at hv
   ·exact hncell j v hv
   ·cases hv) (by rw[hlen];omega) (fun v hv=>hn1 v (List.mem_of_mem_take hv))
  have hlast:(cs.toList.take i++news.take (min ys.length n)++cs.toList.drop (i+(news.take (min ys.length n)).length))=cs.toList.take i++news.take (min ys.length n)++cs.toList.drop (i+min ys.length n):=by rw[hlen]
  rw[hlast]at hrun
  have hes:=hobj.len
  obtain⟨h1,m1⟩:=heap_set hh hob (es':=es.take i++ys.take (min ys.length n)++es.drop (i+min ys.length n)) (cs':=(cs.toList.take i++news.take (min ys.length n)++cs.toList.drop (i+min ys.length n)).toArray) (by
   rw[hszid,Nat.mul_one]
   simp only[List.size_toArray,List.length_append,List.length_take,List.length_drop,Array.length_toList]
   omega) (by
   simp only[List.length_append,List.length_take,List.length_drop]
   omega) (by
   rw[hszid]at hro ⊢
   exact OI hro hnro hmin hnl (by omega) (by omega))
  refine A9 (y:=.int .i64 ((min ys.length n:Nat):Int)) ?_ (hnx _ _ _ g _ h1 m1 (.v _) hK)
  simp only[execOp,ho,resolve,invoke,builtin,hvx,hvy]
  simp[hvx,hvy,hrun,Result.andThen,goInt,hlen]
end Go.Ab
set_option linter.unusedVariables false
set_option linter.unusedSimpArgs false
namespace Go.Ab
open Go Go.RowKit
variable {D:List Deferred}
def sQ(P:Program)(kt:TypeId):Option KK:=
 match P.underlying kt with
 |some (.int k)=>some (.i k)
 |some .string=>some .s
 |some (.array 2 e)=>match P.underlying e,Fa P e with
  |some (.int k),some 1=>some (.p k)
  |_,_=>none
 |_=>none
def Hx:KK→AV→Option Key
 |.i k,.v (.int k' n)=>if k'=k then some (.i n)else none
 |.s,.v (.string b)=>some (.s b.data.toList)
 |.p k,.a [.v (.int k1 x),.v (.int k2 y)]=>if k1=k∧k2=k then some (.p x y)else none
 |_,_=>none
theorem GF{w:World}{g:Gh}{kk:KK}{u:AV}{y:Value}{key:Key}(hr:R w g u y)(h:Hx kk u=some key):y=key.val kk∧key.fits kk=true:=by
 unfold Hx at h
 split at h
 ·split at h
  ·rename_i e;cases h;cases e;exact⟨hr.BB,rfl⟩
  ·cases h
 ·cases h
  obtain rfl:=hr.BB
  simp[Key.val,Key.fits]
 ·split at h
  ·rename_i e
   obtain⟨rfl,rfl⟩:=e
   cases h
   cases hr with
   |a cs cs' hl h1 hR =>
    refine⟨?_,rfl⟩
    have h0:=(hR 0 _ rfl).BB
    have h2:=(hR 1 _ rfl).BB
    obtain⟨l⟩:=cs'
    match l,hl with
    |[p,q],_ =>
     simp at h0 h2
     simp[Key.val,h0,h2]
  ·cases h
 ·cases h
theorem JA{P:Program}{kt:TypeId}{kk:KK}(h:sQ P kt=some kk):(∃ k,kk = .i k∧P.underlying kt=some (.int k))∨(kk = .s∧P.underlying kt=some .string)∨
    ∃ k e,kk = .p k∧P.underlying kt=some (.array 2 e)∧P.underlying e=some (.int k)∧Fa P e=some 1:=by
 unfold sQ at h
 split at h
 ·rename_i k hk;cases h;exact .inl ⟨k,rfl,hk⟩
 ·rename_i hk;cases h;exact .inr (.inl ⟨rfl,hk⟩)
 ·rename_i e hk
  split at h
  ·rename_i k h1 h2;cases h;exact .inr (.inr ⟨k,e,rfl,hk,h1,h2⟩)
  ·cases h
 ·cases h
theorem rE{P:Program}{e:TypeId}{k:IntKind}(h:P.underlying e=some (.int k)):NH P e=some false:=by simp[NH,h]
theorem Ds{P:Program}{w:World}{e:TypeId}{k:IntKind}(h:P.underlying e=some (.int k))(h1:Fa P e=some 1){cs:Array Value}{i:Nat}{v:Value}(hv:cs[i]? = some v):(part e cs i).run P w = .ok v w:=by
 simp[part,Jk (rE h),hv]
theorem FN{P:Program}{w:World}{kt:TypeId}{kk:KK}(hk:sQ P kt=some kk){key:Key}(hf:key.fits kk=true)(b:Bool):(Instr.checkKey b 10000 kt (key.val kk)).run P w = .ok () w:=by
 rcases JA hk with⟨k,rfl,hu⟩|⟨rfl,hu⟩|⟨k,e,rfl,hu,he,hs⟩
 ·cases key<;>simp[Key.fits]at hf
  exact MapKept.run_checkKey hu (by simp[Key.val,MapKept.IsKey]) b 9999
 ·cases key<;>simp[Key.fits]at hf
  exact MapKept.run_checkKey hu (by simp[Key.val,MapKept.IsKey]) b 9999
 ·cases key<;>simp[Key.fits]at hf
  rename_i x y
  have c:∀ n:Int,(Instr.checkKey b 9999 e (.int k n)).run P w = .ok () w:=fun n=>MapKept.run_checkKey he (by simp[MapKept.IsKey]) b 9998
  have h0:=Ds (w:=w) (cs:=#[.int k x,.int k y]) (i:=0) he hs rfl
  have h1:=Ds (w:=w) (cs:=#[.int k x,.int k y]) (i:=1) he hs rfl
  unfold Instr.checkKey
  simp only[Sem.run_bind,run_underlying hu,Result.andThen,Key.val]
  simp[Std.Legacy.Range.forIn_eq_forIn_range',Std.Legacy.Range.size,List.range',C4 hs,h0,h1,c,Result.andThen]
theorem NS{P:Program}{w:World}{kt:TypeId}{k:IntKind}{e:TypeId}(hu:P.underlying kt=some (.array 2 e))(he:P.underlying e=some (.int k))(hs:Fa P e=some 1)(a b:Key)(ha:a.fits (.p k)=true)(hb:b.fits (.p k)=true):
    (Op.equal kt (a.val (.p k)) (b.val (.p k))).run P w = .ok (decide (a=b)) w:=by
 cases a<;>simp[Key.fits]at ha
 cases b<;>simp[Key.fits]at hb
 rename_i x y x' y'
 have h0:=Ds (w:=w) (cs:=#[.int k x,.int k y]) (i:=0) he hs rfl
 have h1:=Ds (w:=w) (cs:=#[.int k x,.int k y]) (i:=1) he hs rfl
 have h2:=Ds (w:=w) (cs:=#[.int k x',.int k y']) (i:=0) he hs rfl
 have h3:=Ds (w:=w) (cs:=#[.int k x',.int k y']) (i:=1) he hs rfl
 have c:∀ m n:Int,(Op.equalIn 9999 e (.int k m) (.int k n)).run P w = .ok (m == n) w:=fun m n=>by
  unfold Op.equalIn
  simp[Sem.run_bind,run_underlying he,Result.andThen]
 have g0:∀ p q:Int,(part e #[.int k p,.int k q] 0).run P w = .ok (.int k p) w:=fun p q=>Ds (w:=w) (cs:=#[.int k p,.int k q]) (i:=0) he hs rfl
 have g1:∀ p q:Int,(part e #[.int k p,.int k q] 1).run P w = .ok (.int k q) w:=fun p q=>Ds (w:=w) (cs:=#[.int k p,.int k q]) (i:=1) he hs rfl
 clear h0 h1 h2 h3
 unfold Op.equal Op.maxDepth Op.equalIn
 simp only[Sem.run_bind,run_underlying hu,Result.andThen,Key.val]
 by_cases e1:x=x'<;>by_cases e2:y=y' <;>
  simp[Std.Legacy.Range.forIn_eq_forIn_range',Std.Legacy.Range.size,List.range',C4 hs,g0,g1,c,Result.andThen,e1,e2]
def H8(es:List (Key × AV))(k:Key):Option Nat:=es.findIdx? fun e=>decide (e.1=k)
theorem QB{P:Program}{w:World}{kt:TypeId}{kk:KK}(hk:sQ P kt=some kk){key:Key}(hf:key.fits kk=true){es:List (Key × AV)}{ms:Array MapEntry}(hrow:HT kk es ms):
    (Instr.findKey kt (key.val kk) ms.toList).run P w = .ok ((H8 es key).map fun i=>(i,(ms[i]?.getD default).val)) w:=by
 have hkeys:∀(i:Nat) (e:Key × AV),es[i]? = some e→e.1.fits kk=true∧∃ m,ms.toList[i]? = some m∧m.key=e.1.val kk:=fun i e he=>by
  obtain⟨h1,m,h2,h3,_⟩:=hrow.2 i e he
  exact⟨h1,m,by simpa using h2,h3⟩
 have hlen:ms.toList.length=es.length:=by simpa using hrow.1
 have hget:∀ i:Nat,(ms[i]?.getD default).val=(ms.toList[i]?.getD default).val:=fun i=>by simp
 simp only[hget]
 generalize ms.toList=l at hkeys hlen
 clear hrow hget
 have now:∀(d:TypeDesc),P.underlying kt=some d→(∀ k':Key,k'.fits kk=true→Instr.sameNow d (key.val kk) (k'.val kk)=some (decide (k'=key)))→
     ∀(es:List (Key × AV)) (l:List MapEntry) (j:Nat),(∀(i:Nat) (e:Key × AV),es[i]? = some e→e.1.fits kk=true∧∃ m,l[i]? = some m∧m.key=e.1.val kk)→l.length=es.length→
      Instr.findNow d (key.val kk) l j=some ((H8 es key).map fun i=>(j+i,(l[i]?.getD default).val)):=by
  intro d hd hs es
  induction es with
  |nil=>intro l j _ hl;obtain rfl:=List.eq_nil_of_length_eq_zero hl;rfl
  |cons e es ih =>
   intro l j h hl
   obtain⟨hf0,m,hm,hmk⟩:=h 0 e rfl
   cases l with
   |nil=>simp at hm
   |cons m' l =>
    simp at hm
    subst hm
    have hsm:=hs e.1 hf0
    rw[←hmk]at hsm
    by_cases heq:e.1=key
    ·simp[Instr.findNow,hsm,heq,H8,List.findIdx?_cons]
    ·have hi:=ih l (j+1) (fun i e' he'=>by have:=h (i+1) e' (by simpa using he');simpa using this) (by simpa using hl)
     simp only[Instr.findNow,hsm,heq,decide_false,hi,H8,List.findIdx?_cons,Bool.false_eq_true,if_false,Option.map_map]
     congr 2
     funext i
     simp[Nat.add_assoc,Nat.add_comm 1 i]
 have fin:∀(d:TypeDesc),P.underlying kt=some d→(∀ k':Key,k'.fits kk=true→Instr.sameNow d (key.val kk) (k'.val kk)=some (decide (k'=key)))→(Instr.findKey kt (key.val kk) l).run P w = .ok ((H8 es key).map fun i=>(i,(l[i]?.getD default).val)) w:=by
  intro d hd hs
  have:=now d hd hs es l 0 hkeys hlen
  simp only[Nat.zero_add]at this
  exact MapKept.run_findKey hd this
 rcases JA hk with⟨k,rfl,hu⟩|⟨rfl,hu⟩|⟨k,e,rfl,hu,he,hs⟩
 ·refine fin _ hu fun k' h'=>?_
  cases key<;>simp[Key.fits]at hf
  cases k'<;>simp[Key.fits]at h'
  rename_i a b
  simp only[Key.val,Instr.sameNow,if_true,Key.i.injEq,Option.some.injEq]
  by_cases h:a=b
  ·simp[h]
  ·simp[h,Ne.symm h]
 ·refine fin _ hu fun k' h'=>?_
  cases key<;>simp[Key.fits]at hf
  cases k'<;>simp[Key.fits]at h'
  rename_i a b
  simp only[Key.val,Instr.sameNow,Key.s.injEq,Option.some.injEq]
  by_cases h:b=a
  ·subst h;simp;exact(MapKept.bytes_beq _ _).2 rfl
  ·simp only[h,decide_false]
   cases hb:((⟨a.toArray⟩:ByteArray) == ⟨b.toArray⟩)with
   |false=>rfl
   |true =>
    have:=(MapKept.bytes_beq _ _).1 hb
    simp at this
    exact absurd this.symm h
 ·have ask:∀(es:List (Key × AV)) (l:List MapEntry) (j:Nat),(∀(i:Nat) (e:Key × AV),es[i]? = some e→e.1.fits (.p k)=true∧∃ m,l[i]? = some m∧m.key=e.1.val (.p k))→l.length=es.length→
      (Instr.findAsking kt (key.val (.p k)) l j).run P w = .ok ((H8 es key).map fun i=>(j+i,(l[i]?.getD default).val)) w:=by
    intro es
    induction es with
    |nil=>intro l j _ hl;obtain rfl:=List.eq_nil_of_length_eq_zero hl;rfl
    |cons e' es ih =>
     intro l j h hl
     obtain⟨hf0,m,hm,hmk⟩:=h 0 e' rfl
     cases l with
     |nil=>simp at hm
     |cons m' l =>
      simp at hm
      subst hm
      have hq:=NS (w:=w) hu he hs key e'.1 hf hf0
      rw[←hmk]at hq
      by_cases heq:e'.1=key
      ·have:key=e'.1:=heq.symm
       simp only[this,decide_true]at hq
       unfold Instr.findAsking
       rw[this]
       simp[hq,Result.andThen,H8,List.findIdx?_cons]
      ·have hne:¬ key=e'.1:=fun q=>heq q.symm
       simp only[hne,decide_false]at hq
       have hi:=ih l (j+1) (fun i e2 he'=>by have:=h (i+1) e2 (by simpa using he');simpa using this) (by simpa using hl)
       unfold Instr.findAsking
       simp only[Sem.run_bind,hq,Result.andThen_ok,Bool.false_eq_true,if_false,hi,H8,List.findIdx?_cons,heq,decide_false,Option.map_map]
       congr 2
       funext i
       simp[Nat.add_assoc,Nat.add_comm 1 i]
  have hA:=ask es l 0 hkeys hlen
  simp only[Nat.zero_add]at hA
  cases l with
  |nil =>
   have:es = []:=List.eq_nil_of_length_eq_zero (by simpa using hlen.symm)
   subst this
   simp[Instr.findKey,run_underlying hu,Result.andThen,Instr.findNow,H8]
  |cons m l =>
   have:Instr.findNow (.array 2 e) (key.val (.p k)) (m :: l) 0=none:=by simp[Instr.findNow,Instr.sameNow]
   simp only[Instr.findKey,Sem.run_bind,run_underlying hu,Result.andThen_ok,this]
   exact hA
def Jf(es:List (Key × AV))(k:Key):Option AV:=(H8 es k).bind fun i=>(es[i]?).map (·.2)
def Ol(S:Aa)(kk:KK):AV→Option (List (Key × AV))
 |.m id=>match S.obj id with
  |some (.map kk' es _)=>if kk'=kk then some es else none
  |_=>none
 |.mt kk' es=>if kk'=kk then some es else none
 |.v (.map none)=>some []
 |_=>none
def jU(z:AV)(c:Bool)(r:Option AV):AV:=match c with
 |true=>.t [r.getD z,.v (.bool r.isSome)]
 |false=>r.getD z
def UW(kk:KK)(z:AV)(c:Bool)(x k:AV)(S:Aa)(K:AV→Aa→Prop):Prop:=
 BK (Ol S kk x) fun es=>BK (Hx kk k) fun key=>K (jU z c (Jf es key)) S
def PL(P:Program)(t:TypeId)(x k:AV)(c:Bool)(S:Aa)(K:AV→Aa→Prop):Prop:=
 match P.underlying t with
 |some (.map kt e)=>match sQ P kt,zT P e with
  |some kk,some z=>UW kk (Kk z) c x k S K
  |_,_=>False
 |_=>False
theorem RA{P:Program}{w:World}{g:Gh}{S:Aa}(hh:Ba P w g S){kk:KK}{x:AV}{y:Value}(hr:R w g x y){es:List (Key × AV)}(h:Ol S kk x=some es):
    (y = .map none∧es = [])∨∃ r ms,y = .map (some r)∧w.heap[r]? = some (.map ms ms.size)∧HT kk es ms∧∀(i:Nat) (e:Key × AV),es[i]? = some e→R w g e.2 (ms[i]?.getD default).val:=by
 unfold Ol at h
 split at h
 ·rename_i id
  split at h
  ·rename_i kk' es' l ho
   split at h
   ·rename_i e
    subst e
    cases h
    cases hr with
    |m id h' =>
     obtain⟨ms,h1,h2,h3⟩:=(hh.ob _ _ ho).row
     exact .inr ⟨_,ms,rfl,h1,h2,h3⟩
   ·cases h
  ·cases h
 ·split at h
  ·rename_i e
   subst e
   cases h
   cases hr with
   |mt kk es r ms him hm hrow hR=>exact .inr ⟨r,ms,rfl,hm,hrow,hR⟩
  ·cases h
 ·cases h
  exact .inl ⟨hr.BB,rfl⟩
 ·cases h
theorem UT{kk:KK}{es:List (Key × AV)}{k:Key}{i:Nat}(h:H8 es k=some i):∃ e,es[i]? = some e∧Jf es k=some e.2:=by
 have hi:i<es.length:=by
  unfold H8 at h
  exact(List.findIdx?_eq_some_iff_getElem.1 h).1
 exact⟨es[i],List.getElem?_eq_getElem hi,by simp[Jf,h,hi]⟩
theorem PK{P:Program}{o:Oper}{t:TypeId}{x k:Operand}{c:Bool}(ho:o.op = .lookup t x k c){env:Env}{S:Aa}{K X:AV→Aa→Prop}(h:PL P t (ev env x) (ev env k) c S K):E7 P o env S K X:=by
 unfold PL at h
 split at h
 case h_2=>exact h.elim
 rename_i kt e hu
 split at h
 case h_2=>exact h.elim
 rename_i kk z hk hz
 obtain⟨es,he,key,hkey,hK⟩:=h
 refine Bd hK fun D w g a hh hE=>?_
 obtain⟨hkv,hkf⟩:=GF (hE.ev k) hkey
 have hz0:=Hk hz w
 have fin:∀(v:Value) (b:Bool),R w g ((Jf es key).getD (Kk z)) v→(Jf es key).isSome=b→R w g (jU (Kk z) c (Jf es key)) (if c then .tuple #[v,.bool b]else v):=by
  intro v b h1 h2
  cases c with
  |false=>exact h1
  |true =>
   refine .t _ _ rfl fun i u hu=>?_
   match i,hu with
   |0,hu=>cases hu;exact h1
   |1,hu=>cases hu;rw[h2];exact .v _
   |i+2,hu=>simp at hu
 rcases RA hh (hE.ev x) he with⟨hy,rfl⟩|⟨r,ms,hy,hb,hrow,hR⟩
 ·refine⟨if c then .tuple #[z,.bool false]else z,?_,fin _ _ (by simpa[Jf,H8]using Je w g z) (by simp[Jf,H8])⟩
  have hf:(Instr.findKey kt (key.val kk) []).run P w = .ok none w:=by
   have hd:∃ d,P.underlying kt=some d:=by
    rcases JA hk with⟨_,_,h⟩|⟨_,h⟩|⟨_,_,_,h,_⟩<;>exact⟨_,h⟩
   obtain⟨d,hd⟩:=hd
   exact MapKept.run_findKey hd rfl
  cases c<;>simp[execOp,ho,Instr.lookup,run_underlying hu,hy,hkv,FN hk hkf,hf,hz0,Result.andThen]
 ·have hf:=QB (w:=w) hk hkf hrow
  cases hix:H8 es key with
  |none =>
   rw[hix]at hf
   refine⟨if c then .tuple #[z,.bool false]else z,?_,fin _ _ (by simpa[Jf,hix]using Je w g z) (by simp[Jf,hix])⟩
   cases c<;>simp[execOp,ho,Instr.lookup,run_underlying hu,hy,hkv,MapKept.run_getObj_map hb,FN hk hkf,hf,hz0,Result.andThen]
  |some i =>
   rw[hix]at hf
   obtain⟨e',he',hl⟩:=UT (kk:=kk) hix
   refine⟨if c then .tuple #[(ms[i]?.getD default).val,.bool true]else(ms[i]?.getD default).val,?_,fin _ _ (by rw[hl];exact hR i e' he') (by rw[hl];rfl)⟩
   cases c<;>simp[execOp,ho,Instr.lookup,run_underlying hu,hy,hkv,MapKept.run_getObj_map hb,FN hk hkf,hf,Result.andThen]
def Tz(x:AV)(S:Aa)(K:AV→Aa→Prop):Prop:=
 match x with
 |.m id=>match S.obj id with
  |some (.map _ es _)=>K (.v (.int .i64 es.length)) S
  |_=>False
 |.mt _ es=>K (.v (.int .i64 es.length)) S
 |.v (.map none)=>K (.v (.int .i64 0)) S
 |_=>False
theorem XK{P:Program}{w:World}{g:Gh}{S:Aa}(hh:Ba P w g S){t kt e:TypeId}(hu:P.underlying t=some (.map kt e)){x:AV}{y:Value}(hr:R w g x y){K:AV→Aa→Prop}(h:Tz x S K)(ty:TypeId):
    ∃ n:Int,(Builtin.len_ #[t] ty #[y]).run P w = .ok (.int .i64 n) w∧K (.v (.int .i64 n)) S:=by
 unfold Tz at h
 split at h
 ·rename_i id
  split at h
  ·rename_i kk es l ho
   cases hr with
   |m id h' =>
    obtain⟨ms,h1,h2,h3⟩:=(hh.ob _ _ ho).row
    exact⟨_,by simp[Builtin.len_,run_underlying hu,MapKept.run_getObj_map h1,Result.andThen,goInt,h2.1],h⟩
  ·exact h.elim
 ·cases hr with
  |mt kk' es' r ms him hm hrow hR=>exact⟨_,by simp[Builtin.len_,run_underlying hu,MapKept.run_getObj_map hm,Result.andThen,goInt,hrow.1],h⟩
 ·exact⟨0,by simp[Builtin.len_,run_underlying hu,hr.BB,goInt],h⟩
 ·exact h.elim
def YG(kk:KK)(S:Aa)(K:AV→Aa→Prop):Prop:=K (.m S.n) (S.new (.map kk [] true))
def YM(P:Program)(t:TypeId)(r:Option Operand)(S:Aa)(K:AV→Aa→Prop):Prop:=
 match P.underlying t,r with
 |some (.map kt _),none=>match sQ P kt with
  |some kk=>YG kk S K
  |none=>False
 |_,_=>False
theorem Rk{P:Program}{o:Oper}{t:TypeId}{r:Option Operand}(ho:o.op = .makeMap t r){env:Env}{S:Aa}{K X:AV→Aa→Prop}(h:YM P t r S K):E7 P o env S K X:=by
 unfold YM at h
 split at h
 case h_2=>exact h.elim
 rename_i kt e hu
 split at h
 case h_2=>exact h.elim
 rename_i kk hk
 intro D w g a next Q hh hE hn hx
 obtain⟨h1,h2⟩:=FZ hh (.map #[] 0) (cap:=0) (sz:=0) (ao:=.map kk [] true) rfl ⟨#[],by rw[D6];exact Go.heap_alloc_new w _,⟨rfl,fun i e h=>by simp at h⟩,fun i e h=>by simp at h⟩
 refine A9 (w':=w.alloc (.map #[] 0)) (y:=.map (some w.heap.size)) ?_ (hn _ _ _ _ _ h1 h2 ?_ h)
 ·simp[execOp,ho,Instr.makeMap,Result.andThen]
 ·have:=R.m (w:=w.alloc (.map #[] 0)) (g:=g.add w.heap.size 0 0) S.n (by rw[←hh.n];exact Nat.lt_succ_self _)
  rwa [show(g.add w.heap.size 0 0).blk S.n=w.heap.size by rw[←hh.n];simp]at this
def CW:List (Key × AV)→Key→AV→List (Key × AV)
 |[],k,v=>[(k,v)]
 |e :: es,k,v=>if e.1=k then(e.1,v) :: es else e :: CW es k v
theorem DZ:∀{es:List (Key × AV)} {k:Key} {v:AV},H8 es k=none→CW es k v=es ++ [(k,v)]
 |[],k,v,_=>rfl
 |e :: es,k,v,h=>by
  simp only[H8,List.findIdx?_cons]at h
  split at h
  ·cases h
  ·rename_i hne
   have hne:¬ e.1=k:=by simpa using hne
   have:H8 es k=none:=by simpa[H8]using h
   simp[CW,hne,DZ this]
theorem Oe:∀{es:List (Key × AV)} {k:Key} {v:AV} {i:Nat},H8 es k=some i→∃ e,es[i]? = some e∧e.1=k∧CW es k v=es.set i (e.1,v)
 |[],k,v,i,h=>by simp[H8]at h
 |e :: es,k,v,i,h=>by
  simp only[H8,List.findIdx?_cons]at h
  split at h
  ·rename_i heq
   have heq:e.1=k:=by simpa using heq
   cases h
   exact⟨e,rfl,heq,by simp[CW,heq]⟩
  ·rename_i hne
   have hne:¬ e.1=k:=by simpa using hne
   obtain⟨j,hj,rfl⟩:=Option.map_eq_some_iff.1 h
   obtain⟨e',h1,h2,h3⟩:=Oe (es:=es) (k:=k) (v:=v) hj
   exact⟨e',by simpa using h1,h2,by simp[CW,hne,h3]⟩
def Hf(kk:KK)(x k v:AV)(S:Aa)(K:AV→Aa→Prop):Prop:=
 match x with
 |.m id=>match S.obj id with
  |some (.map kk' es true)=>kk'=kk∧BK (Hx kk k) fun key=>K .j (S.Dl id (.map kk (CW es key v) true))
  |_=>False
 |_=>False
def LC(P:Program)(t:TypeId)(x k v:AV)(S:Aa)(K:AV→Aa→Prop):Prop:=
 match P.underlying t with
 |some (.map kt _)=>match sQ P kt with
  |some kk=>Hf kk x k v S K
  |none=>False
 |_=>False
theorem OH{kk:KK}{key:Key}(h:key.fits kk=true)(n:Nat):Instr.sameBits (n+1) (key.val kk) (key.val kk)=true:=by
 cases kk<;>cases key<;>simp[Key.fits]at h
 ·simp[Key.val,Instr.sameBits]
 ·simp[Key.val,Instr.sameBits];exact(MapKept.bytes_beq _ _).2 rfl
 ·cases n<;>simp[Key.val,Instr.sameBits]
theorem stays{P:Program}{w:World}{kk:KK}{key:Key}(h:key.fits kk=true):(Instr.keyThatStays (key.val kk) (key.val kk)).run P w = .ok (key.val kk) w:=by
 simp[Instr.keyThatStays,OH h 9999]
theorem OY{P:Program}{w:World}{g:Gh}{S:Aa}(hh:Ba P w g S){id:Nat}{o:Bw}(ho:S.obj id=some o)(hl:o.live=true)(o':Obj):Mv w g { w with heap:=w.heap.setIfInBounds (g.blk id) o' } g:=
 ⟨rfl,rfl,rfl,by simp,fun b hb=>by
  have hne:b≠g.blk id:=fun e=>(hh.ob _ _ ho).imY hl (e ▸ hb)
  simp[Array.getElem?_setIfInBounds,Ne.symm hne],fun _ h=>h,Nat.le_refl _,fun _ _=>rfl,fun _ _=>rfl,fun _ _=>rfl⟩
theorem IC{P:Program}{o:Oper}{t:TypeId}{x k v:Operand}(ho:o.op = .mapUpdate t x k v∨o.op = .insert t x k v){env:Env}{S:Aa}{K X:AV→Aa→Prop}(h:LC P t (ev env x) (ev env k) (ev env v) S K):E7 P o env S K X:=by
 unfold LC at h
 split at h
 case h_2=>exact h.elim
 rename_i kt e hu
 split at h
 case h_2=>exact h.elim
 rename_i kk hk
 unfold Hf at h
 split at h
 case h_2=>exact h.elim
 rename_i id hx
 split at h
 case h_2=>exact h.elim
 rename_i kk' es hob
 obtain⟨rfl,key,hkey,hK⟩:=h
 intro D w g a next Q hh hE hn hx'
 have hrx:=hE.ev x
 rw[hx]at hrx
 generalize hv:a.eval x=vx at hrx
 cases hrx with
 |m id hid =>
  obtain⟨hkv,hkf⟩:=GF (hE.ev k) hkey
  obtain⟨ms,hb,hrow,hR⟩:=(hh.ob _ _ hob).row
  have hf:=QB (w:=w) hk hkf hrow
  have hblt:=(hh.ob _ _ hob).blk
  cases hix:H8 es key with
  |none =>
   rw[hix]at hf
   let ms':=ms.push { key:=key.val kk',val:=a.eval v,born:=ms.size }
   have m:=OY hh hob rfl (.map ms' (ms.size+1))
   have hsz:ms'.size=ms.size+1:=by simp[ms']
   refine Me (w':={ w with heap:=w.heap.setIfInBounds (g.blk id) (.map ms' (ms.size+1)) }) ?_ (hn .j _ _ g _ (FY hh hob rfl rfl (o1:=.map kk' (CW es key (ev env v)) true) m (by simp) (fun b hb'=>by simp[Array.getElem?_setIfInBounds,Ne.symm hb']) ?_) m (.j _) hK)
   ·rcases ho with ho|ho<;>simp[execOp,ho,Instr.mapUpdate,run_underlying hu,hv,hkv,MapKept.run_getObj_map hb,FN hk hkf,hf,MapKept.run_setObj_map _ hb,Result.andThen,ms']
   ·have hl:=hrow.1
    refine⟨ms',by simp[hblt,hsz],⟨by rw[DZ hix,hsz];simp[hl],fun i e' he'=>?_⟩,fun i e' he'=>?_⟩
    ·rw[DZ hix]at he'
     by_cases hi:i<es.length
     ·rw[List.getElem?_append_left hi]at he'
      obtain⟨h1,m0,h2,h3,h4⟩:=hrow.2 i e' he'
      exact⟨h1,m0,by rw[Array.getElem?_push];have:¬ i=ms.size:=by omega
                     simp[this,h2],h3,h4⟩
     ·rw[List.getElem?_append_right (by omega)]at he'
      have:i=es.length:=by
       have:=(List.getElem?_eq_some_iff.1 he').1
       simp at this;omega
      subst this
      simp at he'
      subst he'
      exact⟨hkf,⟨key.val kk',a.eval v,ms.size⟩,by rw[←hl];simp[ms'],rfl,hl⟩
    ·rw[DZ hix]at he'
     by_cases hi:i<es.length
     ·rw[List.getElem?_append_left hi]at he'
      have hne:¬ i=ms.size:=by omega
      simp only[ms',Array.getElem?_push,hne,if_false]
      exact(hR i e' he').mv m
     ·rw[List.getElem?_append_right (by omega)]at he'
      have:i=es.length:=by
       have:=(List.getElem?_eq_some_iff.1 he').1
       simp at this;omega
      subst this
      simp at he'
      subst he'
      simp only[ms',Array.getElem?_push,←hl,if_true,Option.getD_some]
      exact(hE.ev v).mv m
  |some i =>
   rw[hix]at hf
   obtain⟨e0,he0,hek,hins⟩:=Oe (v:=ev env v) hix
   obtain⟨h1,m0,h2,h3,h4⟩:=hrow.2 i e0 he0
   have hi:i<ms.size:=(Array.getElem?_eq_some_iff.1 h2).1
   let ms':=ms.modify i fun e=>{ e with key:=key.val kk',val:=a.eval v }
   have m:=OY hh hob rfl (.map ms' ms.size)
   have hsz:ms'.size=ms.size:=by simp[ms']
   have hold:(((ms[i]?).map (·.key)).getD (key.val kk'))=key.val kk':=by rw[h2];simp[h3,hek]
   refine Me (w':={ w with heap:=w.heap.setIfInBounds (g.blk id) (.map ms' ms.size) }) ?_ (hn .j _ _ g _ (FY hh hob rfl rfl (o1:=.map kk' (CW es key (ev env v)) true) m (by simp) (fun b hb'=>by simp[Array.getElem?_setIfInBounds,Ne.symm hb']) ?_) m (.j _) hK)
   ·rcases ho with ho|ho<;>simp only[execOp,ho,Instr.mapUpdate,Sem.run_bind,run_underlying hu,hv,hkv,MapKept.run_getObj_map hb,FN hk hkf,hf,hold,stays hkf,MapKept.run_setObj_map _ hb,Result.andThen_ok,Option.map_some]<;>rfl
   ·have hget:∀ j,ms'[j]? = (ms[j]?).map fun e=>if i=j then{ e with key:=key.val kk',val:=a.eval v }else e:=by
      intro j
      simp only[ms',Array.getElem?_modify]
      by_cases e:i=j
      ·simp[e]
      ·simp[e]
    refine⟨ms',by simp[hblt,hsz],⟨by rw[hins,hsz];simp[hrow.1],fun j e' he'=>?_⟩,fun j e' he'=>?_⟩
    ·rw[hins,List.getElem?_set]at he'
     split at he'
     ·rename_i e
      subst e
      split at he'
      ·cases he'
       rw[hget,h2]
       exact⟨h1,_,rfl,by simp[hek],by simp[h4]⟩
      ·cases he'
     ·rename_i e
      obtain⟨h1',m1,h2',h3',h4'⟩:=hrow.2 j e' he'
      rw[hget,h2']
      exact⟨h1',_,rfl,by simp[e,h3'],by simp[e,h4']⟩
    ·rw[hins,List.getElem?_set]at he'
     rw[hget]
     split at he'
     ·rename_i e
      subst e
      split at he'
      ·cases he'
       rw[h2]
       simpa using(hE.ev v).mv m
      ·cases he'
     ·rename_i e
      obtain⟨_,m1,h2',_⟩:=hrow.2 j e' he'
      have:=(hR j e' he').mv m
      rw[h2']at this ⊢
      simpa[e]using this
def kE(x:AV)(S:Aa)(K:AV→Aa→Prop):Prop:=
 match x with
 |.v (.string b)=>K (.p S.n 0 0) (S.new (.sit b 0))
 |_=>False
def wJ(x:AV)(S:Aa)(K:AV→Aa→Prop):Prop:=
 match x with
 |.m id=>match S.obj id with
  |some (.map _ es _)=>K (.p S.n 0 0) (S.new (.mit (.m id) es.length []))
  |_=>False
 |.mt kk es=>K (.p S.n 0 0) (S.new (.mit (.mt kk es) es.length []))
 |_=>False
def Sr(P:Program)(t:TypeId)(x:AV)(S:Aa)(K:AV→Aa→Prop):Prop:=
 match P.underlying t with
 |some .string=>kE x S K
 |some (.map _ _)=>wJ x S K
 |_=>False
theorem OK{w:World}{g:Gh}{S:Aa}(hn:g.n=S.n){o:Obj}:R (w.alloc o) (g.add w.heap.size 0 0) (.p S.n 0 0) (.pointer (some ⟨w.heap.size,0,none⟩)):=by
 have:=R.p (w:=w.alloc o) (g:=g.add w.heap.size 0 0) S.n 0 0 (by rw[←hn];exact Nat.lt_succ_self _)
 rwa [show(g.add w.heap.size 0 0).blk S.n=w.heap.size by rw[←hn];simp,Nat.zero_mul]at this
theorem OM{P:Program}{o:Oper}{t:TypeId}{x:Operand}(ho:o.op = .range t x){env:Env}{S:Aa}{K X:AV→Aa→Prop}(h:Sr P t (ev env x) S K):E7 P o env S K X:=by
 unfold Sr at h
 split at h
 ·rename_i hu
  unfold kE at h
  split at h
  case h_2=>exact h.elim
  rename_i b hx
  intro D w g a next Q hh hE hn hx'
  have hr:=hE.ev x
  rw[hx]at hr
  obtain⟨h1,h2⟩:=FZ hh (.stringIter b 0) (cap:=0) (sz:=0) (ao:=.sit b 0) rfl (by show _=_;rw[D6];exact Go.heap_alloc_new w _)
  refine A9 (w':=w.alloc (.stringIter b 0)) (y:=.pointer (some ⟨w.heap.size,0,none⟩)) ?_ (hn _ _ _ _ _ h1 h2 (OK hh.n) h)
  simp[execOp,ho,Instr.range,run_underlying hu,hr.BB,Result.andThen]
 ·rename_i kt e hu
  unfold wJ at h
  split at h
  ·rename_i id hx
   split at h
   case h_2=>exact h.elim
   rename_i kk es l hob
   intro D w g a next Q hh hE hn hx'
   have hr:=hE.ev x
   rw[hx]at hr
   generalize hv:a.eval x=vx at hr
   cases hr with
   |m id hid =>
    obtain⟨ms,hb,hrow,hR⟩:=(hh.ob _ _ hob).row
    have hm:=ME w.heap.size 0 0 (FQ hh (.mapIter (some (g.blk id)) es.length #[] es.length))
    obtain⟨h1,h2⟩:=FZ hh (.mapIter (some (g.blk id)) es.length #[] es.length) (cap:=0) (sz:=0) (ao:=.mit (.m id) es.length []) rfl ⟨g.blk id,by rw[D6];exact Go.heap_alloc_new w _,(R.m id hid).mv hm⟩
    refine A9 (w':=w.alloc (.mapIter (some (g.blk id)) es.length #[] es.length)) (y:=.pointer (some ⟨w.heap.size,0,none⟩)) ?_ (hn _ _ _ _ _ h1 h2 (OK hh.n) h)
    simp[execOp,ho,Instr.range,run_underlying hu,hv,MapKept.run_getObj_map hb,Result.andThen,hrow.1]
  ·rename_i kk es hx
   intro D w g a next Q hh hE hn hx'
   have hr:=hE.ev x
   rw[hx]at hr
   generalize hv:a.eval x=vx at hr
   have hr0:=hr
   cases hr with
   |mt kk es r ms him hm hrow hR =>
    have hmv:=ME w.heap.size 0 0 (FQ hh (.mapIter (some r) es.length #[] es.length))
    obtain⟨h1,h2⟩:=FZ hh (.mapIter (some r) es.length #[] es.length) (cap:=0) (sz:=0) (ao:=.mit (.mt kk es) es.length []) rfl ⟨r,by rw[D6];exact Go.heap_alloc_new w _,hr0.mv hmv⟩
    refine A9 (w':=w.alloc (.mapIter (some r) es.length #[] es.length)) (y:=.pointer (some ⟨w.heap.size,0,none⟩)) ?_ (hn _ _ _ _ _ h1 h2 (OK hh.n) h)
    simp[execOp,ho,Instr.range,run_underlying hu,hv,MapKept.run_getObj_map hm,Result.andThen,hrow.1]
  ·exact h.elim
 ·exact h.elim
def _root_.Go.Ab.KK.av:KK→Key→AV
 |.i k,.i n=>.v (.int k n)
 |.s,.s b=>.v (.string ⟨b.toArray⟩)
 |.p k,.p x y=>.a [.v (.int k x),.v (.int k y)]
 |_,_=>.j
theorem vN{w:World}{g:Gh}{kk:KK}{key:Key}:R w g (kk.av key) (key.val kk):=by
 cases kk<;>cases key<;>first|exact .v _|exact .j _|skip
 refine .a _ _ rfl (fun k u hu=>?_) (fun k u hu=>?_)
 ·match k,hu with
  |0,hu=>cases hu;rfl
  |1,hu=>cases hu;rfl
  |k+2,hu=>simp at hu
 ·match k,hu with
  |0,hu=>cases hu;exact .v _
  |1,hu=>cases hu;exact .v _
  |k+2,hu=>simp at hu
def NZ(S:Aa):AV→Option (KK × List (Key × AV))
 |.m id=>match S.obj id with
  |some (.map kk es _)=>some (kk,es)
  |_=>none
 |.mt kk es=>some (kk,es)
 |_=>none
def over:AV:=.t [.v (.bool false)]
def MB(str:Bool)(x:AV)(S:Aa)(K:AV→Aa→Prop):Prop:=
 match x with
 |.p id 0 0=>match S.obj id,str with
  |some (.sit s pos),true=>gdP (pos<s.size) (K (.t [.v (.bool true),.v (.int .i64 pos),.v (.int .i32 (Utf8.decode s pos).1)]) (S.Dl id (.sit s (pos+(Utf8.decode s pos).2)))) (K over S)
  |some (.mit m n seen),false=>BK (NZ S m) fun(kk,es)=>es.length=n∧(∀(i:Nat) (e:Key × AV),es[i]? = some e→i∉seen→K (.t [.v (.bool true),kk.av e.1,e.2]) (S.Dl id (.mit m n (seen ++ [i]))))∧
     ((∀ i,i<n→i∈seen)→K over S)
  |_,_=>False
 |_=>False
where gdP (c:Prop) (A B:Prop):Prop:=(c→A)∧(¬ c→B)
theorem Gu{P:Program}{w:World}{r:Nat}{o:Obj}(h:w.heap[r]? = some o)(hp:∀ c e f,o≠.cells c e f):(getObj r).run P w = .ok o w:=by
 cases o<;>first|(exact absurd rfl (hp _ _ _))|simp[getObj,Sem.run,h]
theorem Sl{P:Program}{w:World}{r:Nat}{o:Obj}(o':Obj)(h:w.heap[r]? = some o)(hp:∀ c e f,o≠.cells c e f):(setObj r o').run P w = .ok () { w with heap:=w.heap.setIfInBounds r o' }:=by
 cases o<;>first|(exact absurd rfl (hp _ _ _))|simp[setObj,Sem.run,h]
theorem Lh{P:Program}{w:World}{g:Gh}{S:Aa}(hh:Ba P w g S){x:AV}{r:Nat}(hr:R w g x (.map (some r))){kk:KK}{es:List (Key × AV)}(h:NZ S x=some (kk,es)):
    ∃ ms,w.heap[r]? = some (.map ms ms.size)∧HT kk es ms∧∀(i:Nat) (e:Key × AV),es[i]? = some e→R w g e.2 (ms[i]?.getD default).val:=by
 unfold NZ at h
 split at h
 ·split at h
  ·rename_i kk' es' l ho
   cases h
   cases hr with
   |m id hid=>exact(hh.ob _ _ ho).row
  ·cases h
 ·cases h
  cases hr with
  |mt kk es r ms him hm hrow hR=>exact⟨ms,hm,hrow,hR⟩
 ·cases h
theorem QP{P:Program}{o:Oper}{str:Bool}{x:Operand}(ho:o.op = .next x str){env:Env}{S:Aa}{K X:AV→Aa→Prop}(h:MB str (ev env x) S K):E7 P o env S K X:=by
 unfold MB at h
 split at h
 case h_2=>exact h.elim
 rename_i id hx
 split at h
 ·rename_i s pos hob
  intro D w g a next Q hh hE hn hx'
  have hr:=hE.ev x
  rw[hx]at hr
  obtain⟨hlt,hv⟩:=hr.DT
  rw[Nat.zero_mul]at hv
  have hob':=hh.ob _ _ hob
  have hb:w.heap[g.blk id]? = some (.stringIter s pos):=hob'.row
  have hblt:=hob'.blk
  by_cases hp:pos<s.size
  ·have m:=OY hh hob rfl (.stringIter s (pos+(Utf8.decode s pos).2))
   refine A9 (w':={ w with heap:=w.heap.setIfInBounds (g.blk id) (.stringIter s (pos+(Utf8.decode s pos).2)) }) (y:=.tuple #[.bool true,.int .i64 pos,.int .i32 (Utf8.decode s pos).1]) ?_
    (hn _ _ _ g _ (FY hh hob rfl rfl (o1:=.sit s (pos+(Utf8.decode s pos).2)) m (by simp) (fun b hb'=>by simp[Array.getElem?_setIfInBounds,Ne.symm hb']) (by show _=_;simp[hblt])) m ?_ (h.1 hp))
   ·simp[execOp,ho,Instr.next,hv,Gu hb (fun _ _ _=>by simp),Sl _ hb (fun _ _ _=>by simp),hp,Result.andThen,goInt]
   ·refine .t _ _ rfl fun i u hu=>?_
    match i,hu with
    |0,hu=>cases hu;exact .v _
    |1,hu=>cases hu;exact .v _
    |2,hu=>cases hu;exact .v _
    |i+3,hu=>simp at hu
  ·refine A9 (w':=w) (y:=.tuple #[.bool false]) ?_ (hn _ _ _ g _ hh (Mv.refl _ _) ?_ (h.2 hp))
   ·simp[execOp,ho,Instr.next,hv,Gu hb (fun _ _ _=>by simp),hp,Result.andThen]
   ·refine .t _ _ rfl fun i u hu=>?_
    match i,hu with
    |0,hu=>cases hu;exact .v _
    |i+1,hu=>simp at hu
 ·rename_i m n seen hob
  obtain⟨⟨kk,es⟩,hes,hlen,hK,hO⟩:=h
  intro D w g a next Q hh hE hn hx'
  have hr:=hE.ev x
  rw[hx]at hr
  obtain⟨hlt,hv⟩:=hr.DT
  rw[Nat.zero_mul]at hv
  have hob':=hh.ob _ _ hob
  obtain⟨r,hb,hrm⟩:=hob'.row
  obtain⟨ms,hmb,hrow,hR⟩:=Lh hh hrm hes
  have hblt:=hob'.blk
  have hms:ms.size=n:=hrow.1.trans hlen
  have hborn:∀(i:Nat) (mm:MapEntry),ms[i]? = some mm→i<es.length∧mm.born=i:=fun i mm hm=>by
   have hi:i<es.length:=by have:=(Array.getElem?_eq_some_iff.1 hm).1;omega
   obtain⟨_,m0,h2,_,h4⟩:=hrow.2 i _ (List.getElem?_eq_getElem hi)
   rw[hm]at h2
   cases h2
   exact⟨hi,h4⟩
  rcases run_next_at (P:=P) w o.type (g.blk id) r n n seen.toArray ms ms.size hb hmb (fun x hx=>by
      obtain⟨i,hi⟩:=List.getElem?_of_mem hx
      obtain⟨h1,h2⟩:=hborn i x (by simpa using hi)
      omega) (Nat.le_refl _)with⟨h0,hrun⟩|⟨e,he,w1,hw1,hrun⟩
  ·refine A9 (w':=w) (y:=.tuple #[.bool false]) ?_ (hn _ _ _ g _ hh (Mv.refl _ _) ?_ (hO fun i hi=>?_))
   ·simp only[execOp,ho,hv,Sem.run_bind,hrun,Result.andThen_ok,Sem.run_pure]
   ·refine .t _ _ rfl fun i u hu=>?_
    match i,hu with
    |0,hu=>cases hu;exact .v _
    |i+1,hu=>simp at hu
   ·have hi':i<ms.size:=by omega
    have hb1:=(hborn i ms[i] (Array.getElem?_eq_getElem hi')).2
    rcases Nat.lt_or_ge 0 0 with h|_
    ·omega
    ·have hemp:leftOf ms seen.toArray = #[]:=Array.eq_empty_of_size_eq_zero h0
     unfold leftOf at hemp
     rw[Array.filter_eq_empty_iff]at hemp
     have:=hemp ms[i] (Array.getElem_mem hi')
     simpa[hb1]using this
  ·unfold leftOf at he
   simp only[Array.toList_filter,List.mem_filter]at he
   obtain⟨hem,hns⟩:=he
   obtain⟨i,hi⟩:=List.getElem?_of_mem hem
   have hi:ms[i]? = some e:=by simpa using hi
   obtain⟨hil,hbi⟩:=hborn i e hi
   have hes':=List.getElem?_eq_getElem hil
   obtain⟨hfit,m0,h2,h3,h4⟩:=hrow.2 i _ hes'
   rw[hi]at h2
   cases h2
   have hval:=hR i _ hes'
   rw[hi]at hval
   simp only[Option.getD_some]at hval
   have hnot:i∉seen:=by simpa[hbi]using hns
   have hh1:Ba P w1 g S∧Mv w g w1 g∧w1.heap=w.heap:=by
    rcases hw1 with rfl|rfl
    ·exact⟨hh,Mv.refl _ _,rfl⟩
    ·exact⟨hh.drew,D3 _ _,rfl⟩
   obtain⟨hh1,mv1,heq⟩:=hh1
   have mm:=OY hh1 hob rfl (.mapIter (some r) n (seen.toArray.push e.born) ms.size)
   refine A9 (w':={ w1 with heap:=w1.heap.setIfInBounds (g.blk id) (.mapIter (some r) n (seen.toArray.push e.born) ms.size) }) (y:=.tuple #[.bool true,e.key,e.val]) ?_
    (hn _ _ _ g _ (FY hh1 hob rfl rfl (o1:=.mit m n (seen ++ [i])) mm (by simp) (fun b hb'=>by simp[Array.getElem?_setIfInBounds,Ne.symm hb']) ⟨r,by simp[heq,hblt,hms,hbi],(hrm.mv mv1).mv mm⟩) (mv1.trans mm) ?_ (hK i _ hes' hnot))
   ·simp only[execOp,ho,hv,Sem.run_bind,hrun,Result.andThen_ok,Sem.run_pure,ChangeMaps.setBlock]
   ·refine .t _ _ rfl fun j u hu=>?_
    match j,hu with
    |0,hu=>cases hu;exact .v _
    |1,hu=>cases hu;simp only[h3];exact vN
    |2,hu=>cases hu;exact(hval.mv mv1).mv mm
    |j+3,hu=>simp at hu
 ·exact h.elim
def M8(x:AV)(S:Aa)(K:AV→Aa→Prop):Prop:=
 match x with
 |.p id 0 0=>match S.obj id with
  |some (.mit m n seen)=>BK (NZ S m) fun(kk,es)=>es.length=n∧BK seen.getLast? fun i=>BK es[i]? fun e=>K (.t [kk.av e.1,e.2]) S
  |_=>False
 |_=>False
theorem PV{P:Program}{o:Oper}{x:Operand}(ho:o.op = .entry x){env:Env}{S:Aa}{K X:AV→Aa→Prop}(h:M8 (ev env x) S K):E7 P o env S K X:=by
 unfold M8 at h
 split at h
 case h_2=>exact h.elim
 rename_i id hx
 split at h
 case h_2=>exact h.elim
 rename_i m n seen hob
 obtain⟨⟨kk,es⟩,hes,hlen,i,hi,e,he,hK⟩:=h
 refine Bd hK fun D w g a hh hE=>?_
 have hr:=hE.ev x
 rw[hx]at hr
 obtain⟨hlt,hv⟩:=hr.DT
 rw[Nat.zero_mul]at hv
 obtain⟨r,hb,hrm⟩:=(hh.ob _ _ hob).row
 obtain⟨ms,hmb,hrow,hR⟩:=Lh hh hrm hes
 have hms:ms.size=n:=hrow.1.trans hlen
 obtain⟨hfit,m0,h2,h3,h4⟩:=hrow.2 i e he
 have hval:=hR i e he
 rw[h2]at hval
 have hfind:ms.find? (fun y=>y.born == i)=some m0:=by
  have hil:=(Array.getElem?_eq_some_iff.1 h2).1
  rw[←Array.find?_toList,List.find?_eq_some_iff_getElem]
  refine⟨by simp[h4],i,by simpa using hil,by simpa using(Array.getElem?_eq_some_iff.1 h2).2,fun j hj=>?_⟩
  have hjl:j<es.length:=by have:=(List.getElem?_eq_some_iff.1 he).1;omega
  obtain⟨_,m1,k2,_,k4⟩:=hrow.2 j _ (List.getElem?_eq_getElem hjl)
  have:ms[j]'(by omega)=m1:=(Array.getElem?_eq_some_iff.1 k2).2
  simp[this,k4];omega
 refine⟨.tuple #[m0.key,m0.val],?_,?_⟩
 ·simp[execOp,ho,Instr.entry,hv,Gu hb (fun _ _ _=>by simp),Gu hmb (fun _ _ _=>by simp),Result.andThen,hi,hms,hfind]
 ·refine .t _ _ rfl fun j u hu=>?_
  match j,hu with
  |0,hu=>cases hu;simp only[h3];exact vN
  |1,hu=>cases hu;exact hval
  |j+2,hu=>simp at hu
end Go.Ab
set_option linter.unusedVariables false
set_option linter.unusedSimpArgs false
namespace Go.Ab
open Go Go.RowKit
def fk(P:Program)(t:TypeId):Nat:=
 match P.underlying t with
 |some (.int _)=>1
 |some .bool=>2
 |some .string=>3
 |_=>0
def fks(P:Program):Nat→List Field→Option (List Nat)
 |_,[]=>some []
 | i, f :: fs => if (f.name != "_") && (f.offset == i) && (fk P f.type != 0) then (match fks P (i + 1) fs with | some l => some (fk P f.type :: l) | none => none) else none
def skT(P:Program)(t:TypeId):Option (List Nat):=
 match P.underlying t with
 |some (.struct fs)=>if !P.stoodInHeld t && !P.eqGuardType P.depth t then fks P 0 fs.toList else none
 |_=>none
def eqV:Nat→Value→Value→Option Bool
 |1,.int k a,.int k' b=>if k=k' then some (a == b)else none
 |2,.bool a,.bool b=>some (a == b)
 |3,.string a,.string b=>some (a == b)
 |_,_,_=>none
def eqA:List Nat→List AV→List AV→Option Bool
 |[],[],[]=>some true
 |k :: ks,.v a :: xs,.v b :: ys=>match eqV k a b with
  |some r=>match eqA ks xs ys with
   |some rs=>some (r && rs)
   |none=>none
  |none=>none
 |_,_,_=>none
def eqS(ks:List Nat)(op:BinOp)(x y:AV)(S:Aa)(K:AV→Aa→Prop):Prop:=
 match x,y with
 |.a xs,.a ys=>match eqA ks xs ys with
  |some r=>(match op with
   |.eql=>K (.v (.bool r)) S
   |.neq=>K (.v (.bool !r)) S
   |_=>False)
  |none=>False
 |_,_=>False
theorem kA{P:Program}{w:World}{d:Nat}{t:TypeId}{a b:Value}{r:Bool}(h:eqV (fk P t) a b=some r):(Op.equalIn (d+1) t a b).run P w = .ok r w:=by
 unfold eqV at h
 split at h
 ·rename_i k a k' b hk
  split at h
  ·rename_i he
   subst he
   cases h
   have:∃ k',P.underlying t=some (.int k'):=by
    unfold fk at hk
    split at hk<;>first|(rename_i h;exact⟨_,h⟩)|(simp at hk)
   obtain⟨k',hu⟩:=this
   exact run_equalIn_int w d t k k' a b hu
  ·cases h
 ·rename_i a b hk
  cases h
  have hu:P.underlying t=some .bool:=by
   unfold fk at hk
   split at hk<;>first|assumption|(simp at hk)
  exact run_equalIn_bool' w d t a b hu
 ·rename_i a b hk
  cases h
  have hu:P.underlying t=some .string:=by
   unfold fk at hk
   split at hk<;>first|assumption|(simp at hk)
  rw[run_equalIn_string w d t a b hu,beq_toListBytes]
 ·cases h
theorem K9{P:Program}{w:World}{t:TypeId}(h:fk P t≠0){xs:Array Value}{off:Nat}{v:Value}(hx:xs[off]? = some v):(part t xs off).run P w = .ok v w:=by
 unfold fk at h
 split at h
 ·rename_i hu;simp[part,isAgg,run_underlying hu,hx]
 ·rename_i hu;simp[part,isAgg,run_underlying hu,hx]
 ·rename_i hu;simp[part,isAgg,run_underlying hu,hx]
 ·exact absurd rfl h
theorem kB{P:Program}{w:World}{d:Nat}{X Y:Array Value}:∀(fs:List Field) (i:Nat) (ks:List Nat) (xs ys:List AV) (r:Bool),fks P i fs=some ks→eqA ks xs ys=some r→
    (∀(k:Nat) (a:Value),xs[k]? = some (.v a)→X[i+k]? = some a)→(∀(k:Nat) (a:Value),ys[k]? = some (.v a)→Y[i+k]? = some a)→(Op.eqFields (d+1) X Y fs).run P w = .ok r w:=by
 intro fs
 induction fs with
 |nil =>
  intro i ks xs ys r hk he hx hy
  cases hk
  unfold eqA at he
  split at he
  ·cases he;simp[Op.eqFields]
  ·rename_i h;simp at h
  ·cases he
 |cons f fs ih =>
  intro i ks xs ys r hk he hx hy
  unfold fks at hk
  split at hk
  ·rename_i hc
   simp only[Bool.and_eq_true,bne_iff_ne,ne_eq,beq_iff_eq]at hc
   obtain⟨⟨hn,ho⟩,hf⟩:=hc
   split at hk
   ·rename_i l hl
    cases hk
    unfold eqA at he
    split at he
    ·rename_i h;cases h
    ·rename_i k0 ks0 a xs0 b ys0 e1
     cases e1
     split at he
     ·rename_i r1 h1
      split at he
      ·rename_i rs h2
       cases he
       have p1:=K9 (P:=P) (w:=w) hf (xs:=X) (off:=f.offset) (v:=a) (by rw[ho];have:=hx 0 a rfl;simpa using this)
       have p2:=K9 (P:=P) (w:=w) hf (xs:=Y) (off:=f.offset) (v:=b) (by rw[ho];have:=hy 0 b rfl;simpa using this)
       have p3:=kA (w:=w) (d:=d) h1
       have p4:=ih (i+1) _ _ _ _ hl h2 (fun k a h=>by have:=hx (k+1) a (by simpa using h);rwa [show i+1+k=i+(k+1)by omega]) (fun k a h=>by have:=hy (k+1) a (by simpa using h);rwa [show i+1+k=i+(k+1)by omega])
       simp only[Op.eqFields,if_pos hn,Sem.run_bind,p1,p2,p3,Result.andThen_ok]
       cases r1
       ·simp
       ·simpa using p4
      ·cases he
     ·cases he
    ·cases he
   ·cases hk
  ·cases hk
theorem W2{P:Program}{o:Oper}{op:BinOp}{t yt:TypeId}{x y:Operand}(ho:o.op = .binOp op t x y yt){ks:List Nat}(hk:skT P t=some ks){env:Env}{S:Aa}{K X:AV→Aa→Prop}
    (h:eqS ks op (ev env x) (ev env y) S K):E7 P o env S K X:=by
 unfold skT at hk
 split at hk
 ·rename_i fs hu
  split at hk
  ·rename_i hc
   simp only[Bool.and_eq_true,Bool.not_eq_true']at hc
   unfold eqS at h
   split at h
   ·rename_i xs ys hx hy
    split at h
    ·rename_i r hr
     have hfs0:P.fieldsOf t=fs:=by
      unfold Program.fieldsOf
      rw[hu]
     have hu':P.underlying t=some (.struct (P.fieldsOf t)):=by rw[hfs0];exact hu
     have hfs:(P.fieldsOf t).toList=fs.toList:=by rw[hfs0]
     have key:∀(D:List Deferred) (w:World) (g:Gh) (ac:Act),BX D w g env ac→(eqGuard op t x y (ac.eval x) (ac.eval y)).run P w = .ok () w∧(Op.equal t (ac.eval x) (ac.eval y)).run P w = .ok r w∧∃ c d:Array Value,ac.eval x = .agg c∧ac.eval y = .agg d:=by
      intro D w g ac hE
      have hX:=hE.ev x
      have hY:=hE.ev y
      rw[hx]at hX
      rw[hy]at hY
      cases hX':ac.eval x with
      |agg X =>
       cases hY':ac.eval y with
       |agg Y =>
        rw[hX']at hX
        rw[hY']at hY
        have cell:∀{xs:List AV} {X:Array Value},R w g (.a xs) (.agg X)→∀(k:Nat) (a:Value),xs[k]? = some (.v a)→X[0+k]? = some a:=by
         intro xs X hR k a h
         cases hR with
         |a _ _ hl h1 hR =>
          have hk:=(List.getElem?_eq_some_iff.1 h).1
          have:=(hR k _ h).BB
          rw[Nat.zero_add,Array.getElem?_eq_getElem (by omega)]
          rw[Array.getD,dif_pos (by omega)]at this
          exact congrArg some this
        refine⟨run_eqGuard_agg w op t x y X Y hc.2,?_,X,Y,rfl,rfl⟩
        show(Op.equalIn (9999+1) t (.agg X) (.agg Y)).run P w=_
        rw[run_equalIn_struct w 9999 t X Y hu' hc.1,hfs]
        exact kB (d:=9998) fs.toList 0 ks xs ys r hk hr (cell hX) (cell hY)
       |_=>rw[hY']at hY;cases hY
      |_=>rw[hX']at hX;cases hX
     cases op with
     |eql =>
      refine Bd h fun D w g ac hh hE=>?_
      obtain⟨h1,h2,c,d,h3,h4⟩:=key D w g ac hE
      refine⟨_,?_,.v _⟩
      rw[h3,h4]at h1 h2
      simp[execOp,ho,h3,h4,h1,h2,binOp,Result.andThen]
     |neq =>
      refine Bd h fun D w g ac hh hE=>?_
      obtain⟨h1,h2,c,d,h3,h4⟩:=key D w g ac hE
      refine⟨_,?_,.v _⟩
      rw[h3,h4]at h1 h2
      simp[execOp,ho,h3,h4,h1,h2,binOp,Result.andThen]
     |_=>exact h.elim
    ·exact h.elim
   ·exact h.elim
  ·cases hk
 ·cases hk
end Go.Ab
set_option linter.unusedVariables false
set_option linter.unusedSimpArgs false
namespace Go.Ab
open Go Go.RowKit
variable {D:List Deferred}
def mkI(P:Program)(t:TypeId)(x:AV)(S:Aa)(K:AV→Aa→Prop):Prop:=
 match P.underlying t with
 |none=>False
 |some (.interface _)=>False
 |some _=>K (.i t x) S
theorem VV{P:Program}{o:Oper}{t:TypeId}{x:Operand}(ho:o.op = .makeInterface t x){env:Env}{S:Aa}{K X:AV→Aa→Prop}(h:mkI P t (ev env x) S K):E7 P o env S K X:=by
 unfold mkI at h
 split at h
 ·exact h.elim
 ·exact h.elim
 ·rename_i d hn hu
  refine Bd h fun D w g a hh he=>⟨.iface t (a.eval x),?_,.i _ _ _ (he.ev x)⟩
  have:(Instr.makeInterface t (a.eval x)).run P w = .ok (.iface t (a.eval x)) w:=by
   unfold Instr.makeInterface
   rw[Sem.run_bind,run_underlying hu w]
   cases d<;>first|rfl|exact(hn _ rfl).elim
  simp[execOp,ho,this]
def XW(x:AV)(S:Aa)(X:AV→Aa→Prop):Prop:=
 match x with
 |.i t y=>X (.i t y) S
 |_=>False
theorem Sv{P:Program}{o:Oper}{x:Operand}(ho:o.op = .panic x){env:Env}{S:Aa}{K X:AV→Aa→Prop}(h:XW (ev env x) S X):E7 P o env S K X:=by
 unfold XW at h
 split at h
 ·rename_i t y hX
  intro D w g a next Q hh he hn hx
  have hr:=he.ev x
  rw[hX]at hr
  generalize hv:a.eval x=v at hr
  cases hr with
  |i t y z hz =>
   unfold Oper.wp
   have:(execOp a.eval o).run P w = .halt (.panic (.iface t z)) w:=by simp[execOp,ho,hv,run_panic_iface]
   rw[this,Oper.upon_panic]
   exact hx _ S w g _ hh (Mv.refl _ _) (.i _ _ _ hz) h
 ·exact h.elim
theorem R.sR{w:World}{g:Gh}{t:TypeId}{x:AV}{y:Value}(h:R w g (.i t x) y):∃ z,y = .iface t z∧R w g x z:=by cases h;exact⟨_,rfl,‹_›⟩
theorem R.wC{w:World}{g:Gh}{a b:AV}{x y:Value}(h1:R w g a x)(h2:R w g b y):R w g (.t [a,b]) (.tuple #[x,y]):=
 .t _ _ rfl fun k u h=>match k,h with
  |0,h=>by cases h;exact h1
  |1,h=>by cases h;exact h2
  |k+2,h=>by simp at h
def Aa7(t:TypeId)(z x:AV)(S:Aa)(K:AV→Aa→Prop):Prop:=
 match x with
 |.i t' y=>match Nat.beq t' t with
  |true=>K (.t [y,.v (.bool true)]) S
  |false=>K (.t [z,.v (.bool false)]) S
 |.v .nilIface=>K (.t [z,.v (.bool false)]) S
 |_=>False
def tas(P:Program)(t:TypeId)(commaOk:Bool)(x:AV)(S:Aa)(K:AV→Aa→Prop):Prop:=
 match commaOk,P.underlying t,zT P t with
 |true,some (.interface _),_=>False
 |true,some _,some z=>Aa7 t (Kk z) x S K
 |_,_,_=>False
theorem VG{P:Program}{o:Oper}{t xt:TypeId}{x:Operand}{c:Bool}(ho:o.op = .typeAssert x xt t c){env:Env}{S:Aa}{K X:AV→Aa→Prop}(h:tas P t c (ev env x) S K):E7 P o env S K X:=by
 unfold tas at h
 split at h
 ·exact h.elim
 ·rename_i d z hn hu hz
  have hz0:∀ w,(zeroValue t).run P w = .ok z w:=fun w=>by
   unfold zT at hz
   obtain⟨i,hi,hz'⟩:=Option.bind_eq_some_iff.1 hz
   simp[zeroValue,typeInfo,hi,hz']
  have run:∀(w:World) (y:Value) (r:Value),(y = .nilIface∧r = .tuple #[z,.bool false])∨(∃ v,y = .iface t v∧r = .tuple #[v,.bool true])∨(∃ t' v,y = .iface t' v∧t'≠t∧r = .tuple #[z,.bool false])→(Instr.typeAssert y xt t true).run P w = .ok r w:=by
   intro w y r h
   unfold Instr.typeAssert
   rw[Sem.run_bind,run_underlying hu w]
   rcases h with⟨rfl,rfl⟩|⟨v,rfl,rfl⟩|⟨t',v,rfl,hne,rfl⟩
   ·cases d<;>first|exact(hn _ rfl).elim|simp[hz0 w]
   ·cases d<;>first|exact(hn _ rfl).elim|simp
   ·cases d<;>first|exact(hn _ rfl).elim|simp[hne,hz0 w]
  unfold Aa7 at h
  split at h
  ·rename_i t' y hX
   split at h
   ·rename_i he
    have he:t'=t:=Nat.eq_of_beq_eq_true he
    subst he
    refine Bd h fun D w g a hh hE=>?_
    have hr:=hE.ev x
    rw[hX]at hr
    obtain⟨v,hv,hrv⟩:=hr.sR
    exact⟨_,by simp[execOp,ho,run w (a.eval x) _ (.inr (.inl ⟨v,hv,rfl⟩))],R.wC hrv (.v _)⟩
   ·rename_i he
    have he:t'≠t:=Nat.ne_of_beq_eq_false he
    refine Bd h fun D w g a hh hE=>?_
    have hr:=hE.ev x
    rw[hX]at hr
    obtain⟨v,hv,hrv⟩:=hr.sR
    exact⟨_,by simp[execOp,ho,run w (a.eval x) _ (.inr (.inr ⟨t',v,hv,he,rfl⟩))],R.wC (Je _ _ _) (.v _)⟩
  ·rename_i hX
   refine Bd h fun D w g a hh hE=>?_
   have hr:=hE.ev x
   rw[hX]at hr
   exact⟨_,by simp[execOp,ho,run w (a.eval x) _ (.inl ⟨hr.BB,rfl⟩)],R.wC (Je _ _ _) (.v _)⟩
  ·exact h.elim
 ·exact h.elim
def byteOf:List AV→Option UInt8
 |[.v (.int .u8 n)]=>if 0≤n∧n<256 then some (UInt8.ofNat n.toNat)else none
 |_=>none
def bytesOf:List (List AV)→Option (List UInt8)
 |[]=>some []
 |c :: es=>(byteOf c).bind fun b=>(bytesOf es).map (b :: ·)
abbrev E0(b:UInt8):List AV:=[.v (.int .u8 b.toNat)]
theorem RP{c:List AV}{b:UInt8}(h:byteOf c=some b):c=E0 b:=by
 unfold byteOf at h
 split at h
 ·split at h
  ·rename_i n hn
   cases h
   have:((UInt8.ofNat n.toNat).toNat:Int)=n:=by rw[UInt8.toNat_ofNat'];omega
   rw[E0,this]
  ·cases h
 ·cases h
theorem GX:∀{es:List (List AV)} {l:List UInt8},bytesOf es=some l→es=l.map E0
 |[],l,h=>by cases h;rfl
 |c :: es,l,h=>by
  rw[bytesOf]at h
  obtain⟨b,hb,h⟩:=Option.bind_eq_some_iff.1 h
  obtain⟨r,hr,rfl⟩:=Option.map_eq_some_iff.1 h
  rw[RP hb,GX hr]
  rfl
theorem RO:∀ l:List UInt8,bytesOf (l.map E0)=some l
 |[]=>rfl
 |b :: l=>by
  have h1:byteOf (E0 b)=some b:=by
   have:=b.toNat_lt
   have hc:(0:Int)≤(b.toNat:Int)∧(b.toNat:Int)<256:=⟨by omega,by omega⟩
   simp only[byteOf,E0]
   rw[if_pos hc,Int.toNat_natCast,UInt8.ofNat_toNat]
  rw[List.map_cons,bytesOf,h1,Option.bind_some,RO l]
  rfl
def aX(x:AV)(S:Aa)(K:AV→Aa→Prop):Prop:=BK ((IZ S x).bind bytesOf) fun l=>K (.v (.string ⟨l.toArray⟩)) S
theorem foldl_push:∀(l:List UInt8) (s:ByteArray),(l.map fun b=>((b.toNat:Nat):Int)).foldl (fun r n=>r.push (UInt8.ofNat n.toNat)) s=⟨s.data++l.toArray⟩
 |[],s=>by simp
 |b :: l,s=>by
  rw[List.map_cons,List.foldl_cons,foldl_push l,Int.toNat_natCast,UInt8.ofNat_toNat]
  congr 1
  apply Array.ext'
  simp[ByteArray.push]
theorem QD{w:World}{g:Gh}{l:List UInt8}{news:List Value}(hl:news.length=l.length)(h:B7 w g 1 (l.map E0) news.toArray):news=l.map fun b=>Value.int .u8 b.toNat:=by
 apply List.ext_getElem?
 intro i
 rw[List.getElem?_map (f:=fun b:UInt8=>Value.int .u8 b.toNat)]
 rcases Nat.lt_or_ge i l.length with hi|hi
 ·obtain⟨_,h2⟩:=h i (E0 l[i]) (by rw[List.getElem?_map,List.getElem?_eq_getElem hi];rfl)
  have h3:=(h2 0 _ rfl).2.BB
  rw[List.getElem?_eq_getElem hi,List.getElem?_eq_getElem (by omega)]
  simp only[Array.getD_eq_getD_getElem?,List.getElem?_toArray,Nat.mul_one,Nat.add_zero,List.getElem?_eq_getElem (show i<news.length by omega),Option.getD_some]at h3
  rw[h3,Option.map_some]
 ·rw[List.getElem?_eq_none hi,List.getElem?_eq_none (by omega)]
  rfl
theorem TM{P:Program}{w:World}{g:Gh}{S:Aa}(hh:Ba P w g S){x:AV}{v:Value}(hr:R w g x v){K:AV→Aa→Prop}(h:aX x S K):
    ∃ l:List UInt8,(Conv.bytesToString v).run P w = .ok (.string ⟨l.toArray⟩) w∧K (.v (.string ⟨l.toArray⟩)) S∧∃ A n c,v = .slice A n c:=by
 obtain⟨l,hl,hK⟩:=h
 obtain⟨es,hs,hb⟩:=Option.bind_eq_some_iff.1 hl
 have he:=GX hb
 subst he
 obtain⟨A,c,rfl,hc,hsrc⟩:=Kv hh hr hs (sz:=1) (fun c hc=>by
  obtain⟨b,_,rfl⟩:=List.mem_map.1 hc
  rfl)
 refine⟨l,?_,hK,_,_,_,rfl⟩
 rw[List.length_map]at hc ⊢
 cases l with
 |nil =>
  cases A with
  |none=>rfl
  |some a =>
   have:=run_bytesToString (P:=P) w a 0 c [] (by simp[loadCells,loadCellsFrom])
   exact this
 |cons b l =>
  obtain⟨ad,news,rfl,hnl,hcell,_,hro⟩:=hsrc (by simp)
  rw[List.length_map,Nat.mul_one]at hnl
  have e:=QD hnl hro
  have hld:=run_loadCells_list (P:=P) w ad news hcell
  rw[hnl]at hld
  have:=run_bytesToString (P:=P) w ad (b :: l).length c ((b :: l).map fun b=>((b.toNat:Nat):Int)) (by rw[hld,e,List.map_map];rfl)
  have e2:ByteArray.empty.data++(b :: l).toArray=(b :: l).toArray:=by
   apply Array.ext'
   simp
  rw[this,foldl_push,e2]
def AfG(e:TypeId)(x y:AV)(S:Aa)(K:AV→Aa→Prop):Prop:=
 match y with
 |.v (.string b)=>Od x=true∧Qf e 1 x (b.data.toList.map E0) S K
 |_=>False
def Vh(P:Program)(e:TypeId):Bool:=
 match Fa P e,RQ P e,zT P e with
 |some 1,some 1,some (.int .u8 0)=>true
 |_,_,_=>false
theorem TR{P:Program}{e:TypeId}(h:Vh P e=true):Fa P e=some 1∧RQ P e=some 1∧zT P e=some (.int .u8 0):=by
 unfold Vh at h
 split at h
 ·rename_i h1 h2 h3
  exact⟨h1,h2,h3⟩
 ·cases h
def TY(P:Program)(t:TypeId)(x y:AV)(S:Aa)(K:AV→Aa→Prop):Prop:=
 match mF P t with
 |some e=>match Vh P e with
  |true=>AfG e x y S K
  |false=>False
 |none=>False
theorem Qw(w:World)(g:Gh)(b:ByteArray):B7 w g 1 (b.data.toList.map E0) (Lib.strCells b).toArray:=by
 intro i c hc
 rw[List.getElem?_map]at hc
 obtain⟨u,hu,rfl⟩:=Option.map_eq_some_iff.1 hc
 refine⟨rfl,fun k x hx=>?_⟩
 match k with
 |0 =>
  cases hx
  refine⟨rfl,?_⟩
  have:(Lib.strCells b)[i]? = some (.int .u8 u.toNat):=by rw[Lib.strCells,List.getElem?_map,hu];rfl
  simp only[Nat.mul_one,Nat.add_zero,Array.getD_eq_getD_getElem?,List.getElem?_toArray,this,Option.getD_some]
  exact .v _
 |k+1=>simp at hx
theorem Lr{P:Program}{w:World}{t u ty e:TypeId}{i:TypeInfo}(ht:P.underlying t=some (.slice e))(hu:P.underlying u=some .string)(hi:P.info? e=some i)(A:Option Addr)(n c:Nat)(hn:n≤c){s:ByteArray}(hs:s.size=0):
    (Builtin.append_ #[t,u] ty #[.slice A n c,.string s]).run P w = .ok (.slice A n c) w:=by
 have hd:s.data = #[]:=Array.eq_empty_of_size_eq_zero hs
 have hx:s.extract 0 0=ByteArray.empty:=by
  apply ByteArray.ext
  simp
 cases A<;>simp[Builtin.append_,run_underlying ht,run_underlying hu,sizeOf,typeInfo,hi,Builtin.lenOf,Builtin.firstCells,hn,hs,storeCells,hd]
theorem Sn{P:Program}{w:World}{g:Gh}{S:Aa}(hh:Ba P w g S){t u ty e:TypeId}(ht:mF P t=some e)(hu:P.underlying u=some .string)(hbt:Vh P e=true)
    {x:AV} {b:ByteArray} {vx:Value} (hx:R w g x vx) {K:AV→Aa→Prop} (hisl:Od x=true) (h:Qf e 1 x (b.data.toList.map E0) S K):
    ∃ w' g' S' v r,(Builtin.append_ #[t,u] ty #[vx,.string b]).run P w = .ok v w'∧Ba P w' g' S'∧Mv w g w' g'∧R w' g' r v∧K r S':=by
 obtain⟨hszT,hb,hz⟩:=TR hbt
 have hsz:=hszT
 unfold Fa at hsz
 obtain⟨i,hi,hsz'⟩:=Option.map_eq_some_iff.1 hsz
 have hb':i.bytes=1:=by unfold RQ at hb;rw[hi]at hb;exact Option.some.inj hb
 have hz':i.zero=some (.int .u8 0):=by unfold zT at hz;rw[hi]at hz;exact hz
 have hzs:(Value.int .u8 0).cells.size=1:=rfl
 have htu:=Gb ht
 have hbl:b.data.toList.length=b.size:=by simp
 generalize hys:b.data.toList.map E0=ys at h
 have hyl:ys.length=b.size:=by rw[←hys,List.length_map,hbl]
 have hnl:(Lib.strCells b).length=ys.length*1:=by rw[Lib.strCells_length,hyl,Nat.mul_one]
 have hnro:∀ w g,B7 w g 1 ys (Lib.strCells b).toArray:=fun w g=>by rw[←hys];exact Qw w g b
 unfold Qf at h
 split at h
 ·obtain⟨A,n,c,rfl,hn⟩:=Oc hx hisl
  exact⟨w,g,S,_,x,Lr htu hu hi A n c hn (by rw[←hyl];rfl),hh,Mv.refl _ _,hx,h⟩
 ·rename_i y0 yr
  generalize hm:(y0 :: yr)=ys at *
  have hmpos:0<ys.length:=by rw[←hm];simp
  split at h
  ·obtain⟨hbytes,hK⟩:=h
   obtain⟨A,rfl⟩:=hx.GH
   rw[Nat.mul_one]at hbytes
   have hcap:=grownCap_ge w ys.length 0 e
   have hnew:=GJ hh hszT (hnro w g) hnl hzs hcap
   have hrun:(Builtin.append_ #[t,u] ty #[.slice A 0 0,.string b]).run P w = .ok (.slice (some ⟨w.heap.size,0,none⟩) ys.length (grownCap w ys.length 0 e)) (w.drew.alloc (.cells ((Lib.strCells b).toArray++Builtin.zeroCells (Value.int .u8 0).cells (grownCap w ys.length 0 e - ys.length)) e)):=by
    rw[hyl]
    cases A with
    |none =>
     have:=Go.run_append_nil_string (P:=P) (w:=w) t u ty e i (.int .u8 0) htu hu hi hz' b (by omega) (by omega) (by rw[hb',Nat.mul_one];omega)
     rw[this]
     congr 4
     apply Array.ext'
     simp[Lib.strCells]
    |some A =>
     have:=Lib.run_append_grow_string (P:=P) (w:=w) t u ty e i (.int .u8 0) htu hu hi hz' A 0 0 [] (by simp) (by simp) b (by omega) (by omega) (growslice_fits (by omega) (by rw[hb'];omega))
     simpa using this
   refine⟨_,_,_,_,_,hrun,hnew.1,hnew.2,?_,hK⟩
   rw[←hh.n]
   exact R.s (g:=g.add w.heap.size (grownCap w ys.length 0 e) 1) g.n 0 ys.length _ ⟨w.heap.size,0,none⟩ (Nat.lt_succ_self _) hcap (by simp) (fun _=>by simp)
  ·rename_i id n
   split at h
   ·rename_i t' es ho
    obtain⟨⟨rfl,hesL,hbytes⟩,hK⟩:=h
    obtain⟨es0,hes0⟩:∃ es0,es0=es.take n:=⟨_,rfl⟩
    rw[←hes0]at hK
    have hesn:es0.length=n:=by rw[hes0,List.length_take];omega
    rw[Nat.mul_one]at hbytes
    obtain⟨hid,A,c,rfl,hnc,hcap,hA⟩:=hx.FX
    have hob:=hh.obj _ _ _ _ ho
    obtain⟨cs,hrow,hcs,hro⟩:=hob.row
    have hszid:g.sz id=1:=by
     obtain⟨i',hi',h2⟩:=hob.info
     rw[hi]at hi'
     cases hi'
     rw[←h2,hsz']
    have hro':B7 w g 1 es0 cs:=by
     rw[←hszid]
     intro q c hc
     rw[hes0,List.getElem?_take]at hc
     split at hc
     ·exact hro q c hc
     ·cases hc
    have hlen:(cs.toList.take (es0.length*1)).length=es0.length*1:=by
     simp only[List.length_take,Array.length_toList,hcs,hszid]
     have:=hob.len
     omega
    have hroall:=Jl (Ml hro') (hnro w g) hlen
    have hlenall:(cs.toList.take (es0.length*1)++Lib.strCells b).length=(es0++ys).length*1:=by
     rw[List.length_append,hlen,hnl,List.length_append,Nat.add_mul]
    by_cases hroom:n+ys.length≤c
    ·have hA':=hA (by omega)
     rw[Nat.zero_mul]at hA'
     subst hA'
     have hfit:n+b.size≤cs.size:=by
      rw[hcs,hszid,←hyl]
      omega
     have hr:=Lib.run_append_room_string (P:=P) (w:=w) t u ty t' i htu hu hi hsz' (g.blk id) n c cs hrow b (by rw[←hyl];exact hroom) hfit
     obtain⟨h1,m1⟩:=M5 hh ho
     have ho':((S.kill id).new (.cells t' es true)).obj g.n=some (.cells t' es true):=by simp[Aa.new,Aa.kill,hh.n]
     obtain⟨h2,m2⟩:=heap_set h1 ho' (es':=es0++ys) (cs':=(cs.toList.take n++Lib.strCells b++cs.toList.drop (n+b.size)).toArray) (by
      rw[Iw,Nn,hszid]
      simp only[List.size_toArray,List.length_append,List.length_take,List.length_drop,Array.length_toList,Lib.strCells_length]
      rw[hcs,hszid]at hfit ⊢
      omega) (by rw[Iw,List.length_append];omega) (by
      have e0:(g.add (g.blk id) (g.cap id) (g.sz id)).sz g.n=1:=by rw[Nn,hszid]
      rw[e0]
      have h3:=Ew (l':=cs.toList.drop (n+b.size)) (hroall.mv m1) (by omega)
      rw[hesn,Nat.mul_one]at h3
      exact h3)
     rw[D6]at h2 m2
     have hst:((S.kill id).new (.cells t' es true)).Dl g.n (.cells t' (es0++ys) true)=(S.kill id).new (.cells t' (es0++ys) true):=by
      simp only[Aa.Dl,Aa.new,Aa.kill,hh.n,Aa.mk.injEq,true_and]
      funext q
      split<;>simp_all
     rw[hst]at h2
     rw[show n+b.size=n+ys.length by omega]at hr h2 m2
     refine⟨_,_,_,_,_,hr,h2,m1.trans m2,?_,hK⟩
     rw[←hh.n]
     exact R.s (g:=g.add (g.blk id) (g.cap id) (g.sz id)) g.n 0 (n+ys.length) c ⟨g.blk id,0,none⟩ (Nat.lt_succ_self _) hroom (by rw[Iw];omega) (fun _=>by simp)
    ·have hold:∀ j v,(cs.toList.take n)[j]? = some v→w.cell? (A.add j)=some v:=by
       intro j v hv
       have hj:=(List.getElem?_eq_some_iff.1 hv).1
       have hpos:0<n:=by
        rcases Nat.eq_zero_or_pos n with h|h
        ·subst h;simp at hj
        ·exact h
       have hA':=hA (by omega)
       subst hA'
       rw[List.getElem?_take]at hv
       split at hv
       ·rw[Nat.zero_mul,Ej,Ee hrow,Nat.zero_add]
        simpa using hv
       ·cases hv
     have hr:=Lib.run_append_grow_string (P:=P) (w:=w) t u ty t' i (.int .u8 0) htu hu hi hz' A n c (cs.toList.take n) (by rw[hsz',←hesn];simpa using hlen) hold b (by omega) (by omega) (growslice_fits (by omega) (by rw[hb',←hyl];omega))
     have hge:=grownCap_ge w (n+ys.length) c t'
     obtain⟨h2,m2⟩:=GJ (hh.kill id) hszT hroall hlenall hzs (cap:=grownCap w (n+ys.length) c t') (by rw[List.length_append];omega)
     have e1:(es0++ys).length=n+ys.length:=by rw[List.length_append,hesn]
     rw[e1,hesn,Nat.mul_one]at h2 m2
     rw[show n+b.size=n+ys.length by omega]at hr
     have e2:(cs.toList.take n++Lib.strCells b).toArray=(cs.toList.take n).toArray++(Lib.strCells b).toArray:=by simp
     rw[e2]at h2 m2
     refine⟨_,_,_,_,_,hr,h2,m2,?_,hK⟩
     rw[←hh.n]
     exact R.s (g:=g.add w.heap.size (grownCap w (n+ys.length) c t') 1) g.n 0 (n+ys.length) _ ⟨w.heap.size,0,none⟩ (Nat.lt_succ_self _) hge (by simp) (fun _=>by simp)
   ·exact h.elim
  ·exact h.elim
theorem Qd{P:Program}{o:Oper}{x y:Operand}{t u:TypeId}(ho:o.op = .call { callee:=.builtin .append,args:=#[x,y],argTypes:=#[t,u] })(hu:P.underlying u=some .string){env:Env}{S:Aa}{K X:AV→Aa→Prop}
    (h:TY P t (ev env x) (ev env y) S K):E7 P o env S K X:=by
 unfold TY at h
 split at h
 case h_2=>exact h.elim
 rename_i e he0
 split at h
 case h_2=>exact h.elim
 rename_i hbt
 unfold AfG at h
 split at h
 case h_2=>exact h.elim
 rename_i b hY
 intro D w g a next Q hh he hnx hx
 have hry:=he.ev y
 rw[hY]at hry
 obtain⟨w',g',S',v,r,hrun,h1,h2,h3,h4⟩:=Sn hh (ty:=o.type) he0 hu hbt (he.ev x) h.1 h.2
 refine A9 ?_ (hnx r S' w' g' v h1 h2 h3 h4)
 simp[execOp,ho,resolve,invoke,builtin,hry.BB,hrun]
def usd(x:AV)(S:Aa)(K:AV→Aa→Prop):Prop:=
 match x with
 |.s id b n=>(b=0∧0<n)∧K (.p id 0 0) S
 |_=>False
theorem VF{P:Program}{o:Oper}{x:Operand}{ts:Array TypeId}(ho:o.op = .call { callee:=.builtin .unsafeSliceData,args:=#[x],argTypes:=ts }){env:Env}{S:Aa}{K X:AV→Aa→Prop}
    (h:usd (ev env x) S K):E7 P o env S K X:=by
 unfold usd at h
 split at h
 ·rename_i id b n hX
  obtain⟨⟨rfl,hn⟩,hK⟩:=h
  refine Bd hK fun D w g a hh he=>?_
  have hr:=he.ev x
  rw[hX]at hr
  obtain⟨hid,A,c,hv,hnc,hcap,hA⟩:=hr.FX
  have hA':=hA (by omega)
  have hrp:=R.p (w:=w) (g:=g) id 0 0 hid
  refine⟨.pointer (some A),?_,by rw[hA'];exact hrp⟩
  have:=Lib.run_unsafeSliceData_row (P:=P) (w:=w) ts o.type A n c (by omega)
  simp[execOp,ho,resolve,invoke,builtin,hv,this]
 ·exact h.elim
def Aa4(e:TypeId)(x n:AV)(S:Aa)(K:AV→Aa→Prop):Prop:=
 match x,n with
 |.p id 0 0,.v (.int .i64 m)=>match S.obj id with
  |some (.cells t es true)=>(t=e∧m=es.length∧m≤9223372036854775807∧0<m)∧BK (bytesOf es) fun l=>K (.v (.string ⟨l.toArray⟩)) (S.kill id)
  |_=>False
 |_,_=>False
def elP(P:Program)(t:TypeId):Option TypeId:=
 match P.underlying t with
 |some (.pointer e)=>some e
 |_=>none
def ust(P:Program)(pt:TypeId)(x n:AV)(S:Aa)(K:AV→Aa→Prop):Prop:=
 match elP P pt with
 |some e=>match Nat.beq (P.cellsOf e) 1 with
  |true=>Aa4 e x n S K
  |false=>False
 |none=>False
theorem WU{P:Program}{w w':World}{g:Gh}{S:Aa}(hh:Ba P w g S){id:Nat}{o:Bw}(ho:S.obj id=some o)(hl:o.live=true)(m:Mv w g w' g)(hs:w'.heap.size=w.heap.size)(hb:∀ b,b≠g.blk id→w'.heap[b]? = w.heap[b]?):Ba P w' g (S.kill id) where
 gl:=hh.gl.mv m
 n:=hh.n
 im b h:=by rw[hs];exact hh.im b h
 ob i o' h:=by
  simp only[Aa.kill]at h
  split at h
  ·cases h
  ·rename_i e
   have hi:=hh.ob _ _ h
   have hid:=hh.ob _ _ ho
   refine hi.mv m (hb _ (fun hq=>?_)) (fun hl=>hi.imY hl)
   cases hlv:o'.live with
   |true=>exact e (hh.sp _ _ _ _ h ho hlv hl hq)
   |false=>exact hid.imY hl (hq ▸ hi.imN hlv)
 sp:=(hh.kill id).sp
theorem VE{P:Program}{o:Oper}{x y:Operand}{pt it:TypeId}(ho:o.op = .call { callee:=.builtin .unsafeString,args:=#[x,y],argTypes:=#[pt,it] }){env:Env}{S:Aa}{K X:AV→Aa→Prop}
    (h:ust P pt (ev env x) (ev env y) S K):E7 P o env S K X:=by
 unfold ust at h
 split at h
 case h_2=>exact h.elim
 rename_i e hpt
 have hp:P.underlying pt=some (.pointer e):=by
  unfold elP at hpt
  split at hpt
  ·rename_i e' he'
   cases hpt
   exact he'
  ·cases hpt
 split at h
 case h_2=>exact h.elim
 rename_i hc
 have hc:P.cellsOf e=1:=Nat.eq_of_beq_eq_true hc
 unfold Aa4 at h
 split at h
 case h_2=>exact h.elim
 rename_i id m hX hY
 split at h
 case h_2=>exact h.elim
 rename_i t es hob
 obtain⟨⟨rfl,rfl,hm,hpos⟩,l,hl,hK⟩:=h
 have hes:=GX hl
 subst hes
 intro D w g a next Q hh he hnx hx
 have hrx:=he.ev x
 have hry:=he.ev y
 rw[hX]at hrx
 rw[hY]at hry
 have hvx:=hrx.DT.2
 have hvy:=hry.BB
 have hid:=hh.obj _ _ _ _ hob
 obtain⟨cs,hrow,hcs,hro⟩:=hid.row
 rw[List.length_map]at hm hpos
 have hsz:g.sz id=1:=by
  have:(l.map E0)[0]? = some (E0 (l[0]'(by omega))):=by rw[List.getElem?_map,List.getElem?_eq_getElem (by omega)];rfl
  have h0:=(hro 0 _ this).1
  exact h0.symm
 have hcap:l.length≤cs.size:=by
  have:=hid.len
  rw[List.length_map]at this
  rw[hcs,hsz,Nat.mul_one]
  exact this
 have hsh:w.shape? (g.blk id)=some (t,cs.size):=by simp[World.shape?,hrow]
 have hcell:∀ j x,l[j]? = some x→w.cell? ((⟨g.blk id,0,none⟩:Addr).add j)=some (.int .u8 x.toNat):=fun j x hj=>by
  obtain⟨_,h2⟩:=hro j (E0 x) (by rw[List.getElem?_map,hj];rfl)
  have h3:=(h2 0 _ rfl).2.BB
  have hjl:=(List.getElem?_eq_some_iff.1 hj).1
  rw[Ej,Ee hrow,Nat.zero_add]
  rw[hsz,Nat.mul_one,Nat.add_zero]at h3
  simp only[Array.getD_eq_getD_getElem?,Array.getElem?_eq_getElem (show j<cs.size by omega),Option.getD_some]at h3
  rw[Array.getElem?_eq_getElem (show j<cs.size by omega),h3]
 have hrun:=Lib.run_unsafeString_row (P:=P) (w:=w) pt it o.type t hp hc (g.blk id) cs.size hsh l (by intro e;subst e;simp at hpos) hcap (by omega) hcell
 have hfz:(w.freeze ⟨g.blk id,0,none⟩ l.length).heap.size=w.heap.size∧∀ b,b≠g.blk id→(w.freeze ⟨g.blk id,0,none⟩ l.length).heap[b]? = w.heap[b]?:=by
  unfold World.freeze
  split
  ·exact⟨rfl,fun b _=>rfl⟩
  ·refine⟨by simp,fun b hb=>?_⟩
   simp only[Array.getElem?_modify]
   rw[if_neg (fun q=>hb q.symm)]
 have hoth:(w.freeze ⟨g.blk id,0,none⟩ l.length).os=w.os∧(w.freeze ⟨g.blk id,0,none⟩ l.length).tape=w.tape∧(w.freeze ⟨g.blk id,0,none⟩ l.length).output=w.output:=by
  unfold World.freeze
  split<;>exact⟨rfl,rfl,rfl⟩
 have mv:Mv w g (w.freeze ⟨g.blk id,0,none⟩ l.length) g:=⟨hoth.1,hoth.2.1,hoth.2.2,by rw[hfz.1];exact Nat.le_refl _,fun b hb=>hfz.2 b (fun e=>hid.imY rfl (e ▸ hb)),fun _ h=>h,Nat.le_refl _,fun _ _=>rfl,fun _ _=>rfl,fun _ _=>rfl⟩
 have hk:=WU hh hob rfl mv hfz.1 hfz.2
 refine A9 (w':=w.freeze ⟨g.blk id,0,none⟩ l.length) (y:=.string ⟨l.toArray⟩) ?_ (hnx _ _ _ g _ hk mv (.v _) hK)
 rw[List.length_map]at hvy
 simp[execOp,ho,resolve,invoke,builtin,hvx,hvy,hrun]
def ptT(P:Program)(t:TypeId):Bool:=
 match elP P t with
 |some e=>(Fa P e).isSome
 |none=>false
def yA(op:BinOp)(x y:AV)(S:Aa)(K:AV→Aa→Prop):Prop:=
 match x,y with
 |.p a b c,.p a' b' c'=>(a=a'∧b=b'∧c=c')∧(match op with
  |.eql=>K (.v (.bool true)) S
  |.neq=>K (.v (.bool false)) S
  |_=>False)
 |_,_=>bin op 3 x y S K
theorem TU{P:Program}{o:Oper}{op:BinOp}{t yt:TypeId}{x y:Operand}(ho:o.op = .binOp op t x y yt)(hp:ptT P t=true){env:Env}{S:Aa}{K X:AV→Aa→Prop}(h:yA op (ev env x) (ev env y) S K):E7 P o env S K X:=by
 unfold ptT at hp
 split at hp
 case h_2=>cases hp
 rename_i e hpt
 obtain⟨n,hn⟩:=Option.isSome_iff_exists.1 hp
 have hu:P.underlying t=some (.pointer e):=by
  unfold elP at hpt
  split at hpt
  ·rename_i e' he'
   cases hpt
   exact he'
  ·cases hpt
 have hk:M0 P t=3:=by unfold M0;rw[hu]
 unfold yA at h
 split at h
 ·rename_i a b c a' b' c' hX hY
  obtain⟨⟨rfl,rfl,rfl⟩,hK⟩:=h
  have key:∀(D:List Deferred) (w:World) (g:Gh) (ac:Act),Ba P w g S→BX D w g env ac→∃ A,ac.eval x = .pointer (some A)∧ac.eval y = .pointer (some A)∧(Op.equal t (.pointer (some A)) (.pointer (some A))).run P w = .ok true w:=by
   intro D w g ac hh hE
   have h1:=hE.ev x
   have h2:=hE.ev y
   rw[hX]at h1
   rw[hY]at h2
   refine⟨_,h1.DT.2,h2.DT.2,?_⟩
   have hs:(sizeOf e).run P w = .ok n w:=C4 hn w
   have hsa:∀ A:Addr,(sameAddr A A).run P w = .ok true w:=fun A=>by simp[sameAddr]
   have h:∀(d:Nat) (A:Addr),(Op.equalIn (d+1) t (.pointer (some A)) (.pointer (some A))).run P w = .ok true w:=fun d A=>by
    by_cases h0:n=0
    ·simp[Op.equalIn,run_underlying hu,hs,h0]
    ·simp[Op.equalIn,run_underlying hu,hs,h0,hsa]
   simp[Op.equal,Op.maxDepth,h 9999]
  cases op with
  |eql =>
   refine Bd hK fun D w g ac hh hE=>?_
   obtain⟨A,h1,h2,h3⟩:=key D w g ac hh hE
   exact⟨_,by simp[execOp,ho,h1,h2,h3,eqGuard,binOp],.v _⟩
  |neq =>
   refine Bd hK fun D w g ac hh hE=>?_
   obtain⟨A,h1,h2,h3⟩:=key D w g ac hh hE
   exact⟨_,by simp[execOp,ho,h1,h2,h3,eqGuard,binOp],.v _⟩
  |_=>exact hK.elim
 ·rw[←hk]at h
  exact Ot ho h
theorem So{P:Program}{f:TypeId→Bool}:∀(d:Nat) (e:TypeId) (c c' off n:Nat),c≤c'→rowAt P f d e c off n=true→rowAt P f d e c' off n=true
 |0,_,_,_,_,_,_,h=>by simp[rowAt]at h
 |d+1,e,c,c',off,n,hc,h=>by
  simp only[rowAt]at h ⊢
  split at h
  ·cases h
  ·rename_i hs
   rw[if_neg hs]
   simp only[Bool.or_eq_true,Bool.and_eq_true,decide_eq_true_eq]at h ⊢
   rcases h with⟨⟨h1,h2⟩,h3⟩|⟨h1,h2⟩
   ·exact .inl ⟨⟨h1,by omega⟩,h3⟩
   ·exact .inr ⟨by omega,h2⟩
theorem Lk{P:Program}:∀(d:Nat) (e:TypeId) (c c' off:Nat) (u:TypeId) (n:Nat),c≤c'→liesAt P d e c off u n=true→liesAt P d e c' off u n=true
 |0,_,_,_,_,_,_,_,h=>by simp[liesAt]at h
 |d+1,e,c,c',off,u,n,hc,h=>by
  simp only[liesAt,Bool.or_eq_true]at h ⊢
  rcases h with h|h
  ·exact .inl (So _ _ _ _ _ _ hc h)
  ·right
   split at h
   ·exact Lk d e c c' off _ _ hc h
   ·cases h
def aF(P:Program)(e u:TypeId):Bool:=
 (Fa P u).isSome && (liesAt P P.depth e 1 0 u 1 && (Nat.blt 0 (P.cellsOf e) && match Fa P e with|some n=>Nat.beq n (P.cellsOf e)|none=>false))
def aV(P:Program)(u:TypeId)(x:AV)(S:Aa)(K:AV→Aa→Prop):Prop:=
 match x with
 |.p id 0 0=>(∃ e c es l,S.obj id=some (.cells e (c :: es) l)∧aF P e u=true)∧K (.p id 0 0) S
 |_=>False
theorem RE{P:Program}{o:Oper}{s d u:TypeId}{x:Operand}(ho:o.op = .convert s d x)(hs:P.underlying s=some .unsafePointer)(hd:P.underlying d=some (.pointer u)){env:Env}{S:Aa}{K X:AV→Aa→Prop}(h:aV P u (ev env x) S K):E7 P o env S K X:=by
 unfold aV at h
 split at h
 case h_2=>exact h.elim
 rename_i id hX
 obtain⟨⟨e,c,es,l,hob,hf⟩,hK⟩:=h
 simp only[aF,Bool.and_eq_true]at hf
 obtain⟨h0,h1,h2,h3⟩:=hf
 obtain⟨nu,hnu⟩:=Option.isSome_iff_exists.1 h0
 refine Bd hK fun D w g a hh hE=>?_
 have hr:=hE.ev x
 rw[hX]at hr
 have hv:=hr.DT.2
 rw[Nat.zero_mul,Nat.add_zero]at hv
 have hid:=hh.obj _ _ _ _ hob
 obtain⟨cs,hrow,hcs,hro⟩:=hid.row
 have hsz:g.sz id=P.cellsOf e:=by
  obtain⟨i,hi,h4⟩:=hid.info
  unfold Fa at h3
  rw[hi]at h3
  simp only[Option.map_some]at h3
  rw[←h4]
  exact Nat.eq_of_beq_eq_true h3
 have hpos:0<P.cellsOf e:=by simpa[Nat.blt_eq]using h2
 have hcap:=hid.len
 rw[List.length_cons]at hcap
 have hcnt:1≤cs.size / P.cellsOf e:=by
  rw[hcs,hsz,Nat.mul_div_cancel _ hpos]
  omega
 have hl:=Lk P.depth e 1 (cs.size / P.cellsOf e) 0 u 1 hcnt h1
 have hsh:w.shape? (g.blk id)=some (e,cs.size):=by simp[World.shape?,hrow]
 have hval:R w g (.p id 0 0) (.pointer (some ⟨g.blk id,0,none⟩)):=by
  have:=R.p (w:=w) (g:=g) id 0 0 hid.lt
  rwa [Nat.zero_mul,Nat.add_zero]at this
 refine⟨.pointer (some ⟨g.blk id,0,none⟩),?_,hval⟩
 have hsu:(sizeOf u).run P w = .ok nu w:=C4 hnu w
 have hrun:(convert s d (.pointer (some ⟨g.blk id,0,none⟩))).run P w = .ok (.pointer (some ⟨g.blk id,0,none⟩)) w:=by
  by_cases hz:nu=0
  ·simp[convert,Conv.unsafePointer,Conv.seenAt,viewAt,variablesAt,run_underlying hs,run_underlying hd,hsh,hsu,hz,hl]
  ·simp[convert,Conv.unsafePointer,Conv.seenAt,viewAt,variablesAt,run_underlying hs,run_underlying hd,hsh,hsu,hz,hl]
 simp[execOp,ho,hv,hrun]
end Go.Ab
set_option linter.unusedVariables false
set_option linter.unusedSimpArgs false
namespace Go.Ab
open Go Go.RowKit
variable {D:List Deferred}
inductive Bh where
 |ret (r:AV)
 |pan (x:AV)
def ER(w:World)(g:Gh):Bh→Ending→Prop
 |.ret r,.returned v=>R w g r v
 |.pan x,.panicked chain=>∃ y,chain = [{ v:=y,recovered:=false }]∧R w g x y
 |_,_=>False
def Fb(w:World)(g:Gh)(args:List AV)(vs:Array Value):Prop:=args.length=vs.size∧∀(k:Nat) (u:AV),args[k]? = some u→R w g u (vs.getD k undef)
def Ad(P:Program)(f:FuncId)(args:List AV)(S:Aa)(Q:Bh→Aa→Prop):Prop:=
 (∀(vs:Array Value) (w:World),(callFunc f vs).run P w = .ok (.enter f vs) w)∧
 ∀(w:World) (g:Gh) (vs:Array Value),Ba P w g S→Fb w g args vs→Calls P f vs w (fun e w'=>∃ r S' g',Ba P w' g' S'∧Mv w g w' g'∧ER w' g' r e∧Q r S')
theorem Ad.mono{P:Program}{f:FuncId}{args:List AV}{S:Aa}{Q Q':Bh→Aa→Prop}(h:Ad P f args S Q)(hq:∀ e S',Q e S'→Q' e S'):Ad P f args S Q':=
 ⟨h.1,fun w g vs hh ha=>(h.2 w g vs hh ha).mono fun e w' ⟨r,S',g',h1,h2,h3,h4⟩=>⟨r,S',g',h1,h2,h3,hq _ _ h4⟩⟩
def Uf(P:Program)(f:FuncId)(args:List AV)(S:Aa)(Q:Bh→Aa→Prop):Prop:=
 ∀(w:World) (g:Gh) (vs:Array Value),Ba P w g S→Fb w g args vs→∃ v w' r S' g',(callFunc f vs).run P w = .ok (.value v) w'∧Ba P w' g' S'∧Mv w g w' g'∧R w' g' r v∧Q (.ret r) S'
def jT(P:Program)(f:FuncId)(args:List AV)(S:Aa)(Q:Bh→Aa→Prop):Prop:=Ad P f args S Q∨Uf P f args S Q
def Bg(P:Program)(fv:AV)(args:List AV)(S:Aa)(K X:AV→Aa→Prop):Prop:=
 match fv with
 |.f (.func f) fs cs=>jT P f (fs++args++cs) S (fun e S'=>match e with|.ret r=>K r S'|.pan x=>X x S')
 |_=>False
def Ah(P:Program)(f:FuncId)(args:List AV)(S:Aa)(Q:Bh→Aa→Prop)(K:AV→Aa→Prop):Prop:=
 jT P f args S (fun e S'=>match e with|.ret r=>K r S'|.pan x=>Q (.pan x) S')
theorem FA{w:World}{g:Gh}{xs ys:List AV}{vs ws:Array Value}(h:Fb w g xs vs)(k:Fb w g ys ws):Fb w g (xs++ys) (vs++ws):=by
 refine⟨by simp[h.1,k.1],fun q u hu=>?_⟩
 simp only[Array.getD_eq_getD_getElem?,Array.getElem?_append]
 by_cases hq:q<xs.length
 ·rw[List.getElem?_append_left hq]at hu
  rw[if_pos (by rw[←h.1];exact hq)]
  have:=h.2 _ _ hu
  simpa[Array.getD_eq_getD_getElem?]using this
 ·rw[List.getElem?_append_right (by omega)]at hu
  rw[if_neg (by rw[←h.1];exact hq),←h.1]
  have:=k.2 _ _ hu
  simpa[Array.getD_eq_getD_getElem?]using this
theorem RN{P:Program}{o:Oper}{f:Operand}{args:Array Operand}{ts:Array TypeId}(ho:o.op = .call { callee:=.value f,args:=args,argTypes:=ts }){env:Env}{S:Aa}{K X:AV→Aa→Prop}
    (h:Bg P (ev env f) (args.toList.map (ev env)) S K X):E7 P o env S K X:=by
 unfold Bg at h
 split at h
 ·rename_i fid fs cs hf
  intro D w g a next Q hh he hnx hx
  have hrf:=he.ev f
  rw[hf]at hrf
  generalize hv:a.eval f=v at hrf
  cases hrf with
  |f fn fs0 cs0 fs' cs' hl1 hl2 hF hC =>
   have ha:Fb w g (fs++args.toList.map (ev env)++cs) ((fs'++args.map a.eval)++cs'):=
    FA (FA ⟨hl1,hF⟩ (H4 he args)) ⟨hl2,hC⟩
   rcases h with h|h
   case inr =>
    obtain⟨v1,w',r,S',g',h0,h1,h2,h3,h4⟩:=h w g _ hh ha
    refine A9 (w':=w') (y:=v1) ?_ (hnx r S' w' g' v1 h1 h2 h3 h4)
    simp only[execOp,ho,resolve,hv,Deferred.ofValue,Sem.run_bind,Sem.run_pure,Result.andThen_ok,invoke,h0]
   have hrun:(execOp a.eval o).run P w = .ok (.enter fid ((fs'++args.map a.eval)++cs')) w:=by
    simp only[execOp,ho,resolve,hv,Deferred.ofValue,Sem.run_bind,Sem.run_pure,Result.andThen_ok,invoke,h.1]
   unfold Oper.wp
   rw[hrun,Oper.upon_enter]
   refine(h.2 w g _ hh ha).mono ?_
   rintro e w' ⟨r,S',g',h1,h2,h3,h4⟩
   cases r with
   |ret r =>
    cases e with
    |returned v=>exact hnx r S' w' g' v h1 h2 h3 h4
    |panicked chain=>exact h3.elim
    |outgrown=>exact h3.elim
   |pan x =>
    cases e with
    |returned v=>exact h3.elim
    |panicked chain =>
     obtain⟨y,rfl,hr⟩:=h3
     exact hx x S' w' g' y h1 h2 hr h4
    |outgrown=>exact h3.elim
 ·exact h.elim
theorem Xh{P:Program}{o:Oper}{x y:Operand}{ts:Array TypeId}(ho:o.op = .call { callee:=.builtin .append,args:=#[x,y],argTypes:=ts }){env:Env}{S:Aa}{K X:AV→Aa→Prop}
    (h:app P ts (ev env x) (ev env y) S K):E7 P o env S K X:=by
 unfold app at h
 split at h
 case h_2=>exact h.elim
 rename_i t t' hts
 split at h
 case h_2=>exact h.elim
 rename_i e he0
 split at h
 case h_2=>exact h.elim
 rename_i sz b z hsz hb hz
 split at h
 case h_2=>exact h.elim
 rename_i hq
 simp only[Bool.and_eq_true,decide_eq_true_eq]at hq
 obtain⟨rfl,hb0,hzs⟩:=hq
 intro D w g a next Q hh he hnx hx
 obtain⟨w',g',S',v,u,hrun,h1,h2,h3,h4⟩:=kD hh (ty:=o.type) he0 hsz hb hz hb0 hzs (he.ev x) (he.ev y) h
 refine A9 ?_ (hnx u S' w' g' v h1 h2 h3 h4)
 have hts':ts = #[t,t]:=by
  apply Array.ext'
  exact hts
 subst hts'
 simp[execOp,ho,resolve,invoke,builtin,hrun]
theorem WR{P:Program}{o:Oper}{x:Operand}{t:TypeId}(ho:o.op = .call { callee:=.builtin .len,args:=#[x],argTypes:=#[t] }){env:Env}{S:Aa}{K X:AV→Aa→Prop}
    (h:len P t (ev env x) S K):E7 P o env S K X:=by
 intro D w g a next Q hh he hnx hx
 obtain⟨n,hrun,hK⟩:=j9 (he.ev x) h o.type
 refine A9 (w':=w) ?_ (hnx _ S w g _ hh (Mv.refl _ _) (.v _) hK)
 simp[execOp,ho,resolve,invoke,builtin,hrun]
def xJ(P:Program)(t:TypeId)(x:AV)(S:Aa)(K:AV→Aa→Prop):Prop:=
 match P.underlying t with
 |some (.map _ _)=>Tz x S K
 |_=>len P t x S K
theorem TA{P:Program}{o:Oper}{x:Operand}{t:TypeId}(ho:o.op = .call { callee:=.builtin .len,args:=#[x],argTypes:=#[t] }){env:Env}{S:Aa}{K X:AV→Aa→Prop}
    (h:xJ P t (ev env x) S K):E7 P o env S K X:=by
 unfold xJ at h
 split at h
 ·rename_i kt e hu
  intro D w g a next Q hh he hnx hx
  obtain⟨n,hrun,hK⟩:=XK hh hu (he.ev x) h o.type
  refine A9 (w':=w) ?_ (hnx _ S w g _ hh (Mv.refl _ _) (.v _) hK)
  simp[execOp,ho,resolve,invoke,builtin,hrun]
 ·exact WR ho h
def VT(mx:Bool)(x y:AV)(S:Aa)(K:AV→Aa→Prop):Prop:=
 match x,y with
 |.v (.int k a),.v (.int _ b)=>match mx with
  |true=>K (.v (.int k (if b > a then b else a))) S
  |false=>K (.v (.int k (if b<a then b else a))) S
 |_,_=>False
theorem NW{P:Program}{o:Oper}{x y:Operand}{ts:Array TypeId}{mx:Bool}(ho:o.op = .call { callee:=.builtin (if mx then .max else .min),args:=#[x,y],argTypes:=ts }){env:Env}{S:Aa}{K X:AV→Aa→Prop}
    (h:VT mx (ev env x) (ev env y) S K):E7 P o env S K X:=by
 unfold VT at h
 split at h
 ·rename_i k a k' b hx hy
  intro D w g ac next Q hh he hnx hxx
  have h1:=he.ev x
  have h2:=he.ev y
  rw[hx]at h1
  rw[hy]at h2
  have e1:=h1.BB
  have e2:=h2.BB
  cases mx with
  |true =>
   refine A9 (w':=w) (y:=.int k (if b > a then b else a)) ?_ (hnx _ S w g _ hh (Mv.refl _ _) (.v _) h)
   simp[execOp,ho,resolve,invoke,builtin,Builtin.max_,Builtin.max2,e1,e2]
  |false =>
   refine A9 (w':=w) (y:=.int k (if b<a then b else a)) ?_ (hnx _ S w g _ hh (Mv.refl _ _) (.v _) h)
   simp[execOp,ho,resolve,invoke,builtin,Builtin.min_,Builtin.min2,e1,e2]
 ·exact h.elim
def Cq(k:IntKind)(x:AV)(S:Aa)(K:AV→Aa→Prop):Prop:=
 match x with
 |.v (.int _ n)=>K (.v (.int k (k.wrap n))) S
 |_=>False
def s6(x:AV)(S:Aa)(K:AV→Aa→Prop):Prop:=
 match x with
 |.v (.string b)=>K (.v (.string b)) S
 |_=>False
def aU(x:AV)(S:Aa)(K:AV→Aa→Prop):Prop:=∃ u,Sq S x=some u∧K x S
def conv(P:Program)(src dst:TypeId)(x:AV)(S:Aa)(K:AV→Aa→Prop):Prop:=
 match P.underlying src,P.underlying dst with
 |some _,some (.int k)=>Cq k x S K
 |some (.slice e),some .string=>match P.underlying e with
  |some (.int .u8)=>aX x S K
  |_=>False
 |some .unsafePointer,some (.pointer u)=>aV P u x S K
 |some _,some .string=>s6 x S K
 |some (.pointer t),some .unsafePointer=>match(P.info? t).map (fun i=>decide (i.size=0))with
  |some false=>aU x S K
  |_=>False
 |_,_=>False
theorem TL{P:Program}{o:Oper}{src dst:TypeId}{x:Operand}(ho:o.op = .convert src dst x){env:Env}{S:Aa}{K X:AV→Aa→Prop}(h:conv P src dst (ev env x) S K):E7 P o env S K X:=by
 unfold conv at h
 split at h
 ·rename_i d k hs hd
  unfold Cq at h
  split at h
  ·rename_i k' n hX
   refine Bd h fun D w g a hh he=>⟨_,?_,.v _⟩
   have h1:=he.ev x
   rw[hX]at h1
   simp[execOp,ho,h1.BB,convert,run_underlying hs,run_underlying hd,Conv.intToInt]
  ·exact h.elim
 ·rename_i e hs hd
  split at h
  ·rename_i he8
   intro D w g a next Q hh he hn hx
   obtain⟨l,hrun,hK,A,n,c,hv⟩:=TM hh (he.ev x) h
   refine A9 (w':=w) ?_ (hn _ S w g _ hh (Mv.refl _ _) (.v _) hK)
   rw[hv]at hrun
   simp[execOp,ho,hv,convert,run_underlying hs,run_underlying hd,run_underlying he8,hrun]
  ·exact h.elim
 ·rename_i u hs hd
  exact RE ho hs hd h
 ·rename_i d _ hs hd
  unfold s6 at h
  split at h
  ·rename_i b hX
   refine Bd h fun D w g a hh he=>⟨_,?_,.v _⟩
   have h1:=he.ev x
   rw[hX]at h1
   simp[execOp,ho,h1.BB,convert,run_underlying hs,run_underlying hd]
  ·exact h.elim
 ·rename_i t hs hd
  split at h
  ·rename_i hz
   obtain⟨u,hu,hK⟩:=h
   refine Bd hK fun D w g a hh he=>?_
   unfold Sq at hu
   obtain⟨⟨c,j⟩,hp,hc⟩:=Option.bind_eq_some_iff.1 hu
   obtain⟨ad,hy,hcell⟩:=Fj hh (he.ev x) hp
   obtain⟨z,hzc,_⟩:=hcell 0 u (by simpa using hc)
   have hz':w.cell? ad=some z:=by simpa[Addr.add]using hzc
   have hr:=he.ev x
   refine⟨.pointer (some ad),?_,hy ▸ hr⟩
   simp[execOp,ho,hy,run_convert_to_unsafe hs hd hz hz']
  ·exact h.elim
 ·exact h.elim
def AI(x:AV)(S:Aa)(K:AV→Aa→Prop):Prop:=
 match x with
 |.p _ _ _|.q _ _|.f (.func _) _ _=>K x S
 |_=>False
theorem OU{P:Program}{o:Oper}{x:Operand}(ho:o.op = .nilCheck x){env:Env}{S:Aa}{K X:AV→Aa→Prop}(h:AI (ev env x) S K):E7 P o env S K X:=by
 unfold AI at h
 split at h
 ·rename_i hX
  refine Bd h fun D w g a hh he=>⟨a.eval x,?_,he.ev x⟩
  have h1:=he.ev x
  rw[hX]at h1
  simp[execOp,ho,h1.DT.2]
 ·rename_i hX
  refine Bd h fun D w g a hh he=>⟨a.eval x,?_,he.ev x⟩
  have h1:=he.ev x
  rw[hX]at h1
  generalize hv:a.eval x=v at h1
  cases h1 with
  |q c j ad vs him hm h2 hR=>simp[execOp,ho,hv]
 ·rename_i hX
  refine Bd h fun D w g a hh he=>⟨a.eval x,?_,he.ev x⟩
  have h1:=he.ev x
  rw[hX]at h1
  generalize hv:a.eval x=v at h1
  cases h1 with
  |f fn fs cs fs' cs' hf hc hF hC=>simp[execOp,ho,hv]
 ·exact h.elim
def TD(P:Program)(t:TypeId):Option IntKind:=
 match sQ P t with
 |some (.p k)=>match P.eqGuardType P.depth t with
  |false=>some k
  |true=>none
 |_=>none
def Xf(k:IntKind)(op:BinOp)(x y:AV)(S:Aa)(K:AV→Aa→Prop):Prop:=
 BK (Hx (.p k) x) fun a=>BK (Hx (.p k) y) fun b=>match op with
  |.eql=>K (.v (.bool (decide (a=b)))) S
  |.neq=>K (.v (.bool (!decide (a=b)))) S
  |_=>False
theorem TV{P:Program}{o:Oper}{op:BinOp}{t yt:TypeId}{x y:Operand}{k:IntKind}(ho:o.op = .binOp op t x y yt)(hp:TD P t=some k){env:Env}{S:Aa}{K X:AV→Aa→Prop}
    (h:Xf k op (ev env x) (ev env y) S K):E7 P o env S K X:=by
 unfold TD at hp
 split at hp
 case h_2=>cases hp
 rename_i k' hkk
 split at hp
 case h_2=>cases hp
 rename_i hgt
 cases hp
 obtain⟨a,ha,b,hb,hK⟩:=h
 rcases JA hkk with⟨_,h,_⟩|⟨h,_⟩|⟨k2,e,hk2,hu,he,hs⟩
 ·cases h
 ·cases h
 cases hk2
 have key:∀(D:List Deferred) (w:World) (g:Gh) (ac:Act),Ba P w g S→BX D w g env ac→(eqGuard op t x y (ac.eval x) (ac.eval y)).run P w = .ok () w∧(Op.equal t (ac.eval x) (ac.eval y)).run P w = .ok (decide (a=b)) w∧∃ c d:Array Value,ac.eval x = .agg c∧ac.eval y = .agg d:=by
  intro D w g ac hh hE
  obtain⟨h1,h2⟩:=GF (hE.ev x) ha
  obtain⟨h3,h4⟩:=GF (hE.ev y) hb
  have hq:=NS (w:=w) hu he hs a b h2 h4
  rw[h1,h3]
  cases a<;>simp[Key.fits]at h2
  cases b<;>simp[Key.fits]at h4
  refine⟨?_,hq,_,_,rfl,rfl⟩
  cases op<;>simp[eqGuard,Key.val,hgt,Result.andThen]
 cases op with
 |eql =>
  refine Bd hK fun D w g ac hh hE=>?_
  obtain⟨h1,h2,c,d,h3,h4⟩:=key D w g ac hh hE
  refine⟨_,?_,.v _⟩
  rw[h3,h4]at h1 h2
  simp[execOp,ho,h3,h4,h1,h2,binOp,Result.andThen]
 |neq =>
  refine Bd hK fun D w g ac hh hE=>?_
  obtain⟨h1,h2,c,d,h3,h4⟩:=key D w g ac hh hE
  refine⟨_,?_,.v _⟩
  rw[h3,h4]at h1 h2
  simp[execOp,ho,h3,h4,h1,h2,binOp,Result.andThen]
 |_=>exact hK.elim
def s7(P:Program)(b:Builtin)(xs:List AV)(ts:Array TypeId)(S:Aa)(K:AV→Aa→Prop):Prop:=
 match b,xs,ts.toList with
 |.len,[x],[t]=>xJ P t x S K
 |.max,[x,y],_=>VT true x y S K
 |.min,[x,y],_=>VT false x y S K
 |.append,[x,y],[t,t']=>match P.underlying t' with
  |some .string=>TY P t x y S K
  |_=>app P ts x y S K
 |.copy,[x,y],_=>cpy P ts x y S K
 |.unsafeSliceData,[x],_=>usd x S K
 |.unsafeString,[x,y],[pt,_]=>ust P pt x y S K
 |_,_,_=>False
def Cz(P:Program)(op:Op)(env:Env)(S:Aa)(K X:AV→Aa→Prop):Prop:=
 match op with
 |.move x|.assign x=>K (ev env x) S
 |.pick c x y=>pick (ev env c) (ev env x) (ev env y) S K
 |.alloc t=>alloc P t S K
 |.box t x=>box P t (ev env x) S K
 |.build t parts=>build P t (parts.toList.map fun(i,x)=>(i,ev env x)) S K
 |.buildSlice t n parts=>bsl P t n (parts.toList.map fun(i,x)=>(i,ev env x)) S K
 |.load t x=>ld P t (ev env x) S K
 |.store t x y=>st P t (ev env x) (ev env y) S K
 |.binOp op t x y _=>match TD P t with
  |some k=>Xf k op (ev env x) (ev env y) S K
  |none=>match skT P t with
   |some ks=>eqS ks op (ev env x) (ev env y) S K
   |none=>match OT (M0 P t) y with
    |true=>Yc op (M0 P t) (ev env x) S K
    |false=>match ptT P t with|true=>yA op (ev env x) (ev env y) S K|false=>bin op (M0 P t) (ev env x) (ev env y) S K
 |.makeInterface t x=>mkI P t (ev env x) S K
 |.typeAssert x _ t c=>tas P t c (ev env x) S K
 |.panic x=>XW (ev env x) S X
 |.unOp op _ x=>un op (ev env x) S K
 |.makeFunc fn fs cs=>YH fn (fs.toList.map (ev env)) (cs.toList.map (ev env)) S K
 |.makeSlice t l c=>YL P t (ev env l) (ev env c) S K
 |.slice t x lo hi mx=>slice P t (ev env x) (lo.map (ev env)) (hi.map (ev env)) (mx.map (ev env)) S K
 |.fieldAddr s x f=>fieldAddr P s (ev env x) f S K
 |.field s x f=>field P s (ev env x) f S K
 |.indexAddr t x i=>indexAddr P t (ev env x) (ev env i) S K
 |.index t x i=>index P t (ev env x) (ev env i) S K
 |.extract x i=>AZ (ev env x) i S K
 |.convert s d x=>conv P s d (ev env x) S K
 |.nilCheck x=>AI (ev env x) S K
 |.lookup t x k c=>PL P t (ev env x) (ev env k) c S K
 |.mapUpdate t m k v=>LC P t (ev env m) (ev env k) (ev env v) S K
 |.insert t m k v=>LC P t (ev env m) (ev env k) (ev env v) S K
 |.makeMap t r=>YM P t r S K
 |.range t x=>Sr P t (ev env x) S K
 |.next x str=>MB str (ev env x) S K
 |.entry x=>M8 (ev env x) S K
 |.call c=>match c.callee with
  |.value f=>Bg P (ev env f) (c.args.toList.map (ev env)) S K X
  |.builtin b=>s7 P b (c.args.toList.map (ev env)) c.argTypes S K
  |_=>False
 |_=>False
theorem Hw{α β:Type}{f:α→β}{a:Array α}{x y:β}(h:a.toList.map f = [x,y]):∃ p q,a = #[p,q]∧f p=x∧f q=y:=by
 obtain⟨l⟩:=a
 simp only at h
 match l,h with
 |[p,q],h=>exact⟨p,q,rfl,by simpa using h⟩
theorem Rn{α β:Type}{f:α→β}{a:Array α}{x:β}(h:a.toList.map f = [x]):∃ p,a = #[p]∧f p=x:=by
 obtain⟨l⟩:=a
 simp only at h
 match l,h with
 |[p],h=>exact⟨p,rfl,by simpa using h⟩
theorem CL{P:Program}{o:Oper}{env:Env}{S:Aa}{K X:AV→Aa→Prop}(h:Cz P o.op env S K X):E7 P o env S K X:=by
 generalize hop:o.op=op at h
 unfold Cz at h
 split at h
 ·exact MJ (.inl hop) h
 ·exact MJ (.inr hop) h
 ·exact Ss hop h
 ·exact RY hop h
 ·exact Xd hop h
 ·exact RR hop h
 ·exact Xc hop h
 ·exact Z2 hop h
 ·exact XB hop h
 ·split at h
  ·rename_i hp
   exact TV hop hp h
  ·split at h
   ·rename_i hks
    exact W2 hop hks h
   ·split at h
    ·rename_i hf
     exact VR hop hf h
    ·split at h
     ·rename_i hpt
      exact TU hop hpt h
     ·exact Ot hop h
 ·exact VV hop h
 ·exact VG hop h
 ·exact Sv hop h
 ·exact Xy hop h
 ·exact O0 hop h
 ·exact Rj hop h
 ·exact Qx hop h
 ·exact Lv hop h
 ·exact Rz hop h
 ·exact Lu hop h
 ·exact Rs hop h
 ·exact TJ hop h
 ·exact TL hop h
 ·exact OU hop h
 ·exact PK hop h
 ·exact IC (.inl hop) h
 ·exact IC (.inr hop) h
 ·exact Rk hop h
 ·exact OM hop h
 ·exact QP hop h
 ·exact PV hop h
 ·rename_i c
  split at h
  ·rename_i f hc
   exact RN (f:=f) (args:=c.args) (ts:=c.argTypes) (by rw[hop,←hc]) h
  ·rename_i b hc
   unfold s7 at h
   split at h
   ·rename_i x t hx ht
    obtain⟨p,hp,rfl⟩:=Rn hx
    have ht':c.argTypes = #[t]:=Array.ext' ht
    exact TA (x:=p) (t:=t) (by rw[hop,←hp,←ht',←hc]) h
   ·rename_i x y ts hx
    obtain⟨p,q,hp,rfl,rfl⟩:=Hw hx
    exact NW (mx:=true) (x:=p) (y:=q) (ts:=c.argTypes) (by rw[hop,←hp,if_pos rfl,←hc]) h
   ·rename_i x y ts hx
    obtain⟨p,q,hp,rfl,rfl⟩:=Hw hx
    exact NW (mx:=false) (x:=p) (y:=q) (ts:=c.argTypes) (by rw[hop,←hp,if_neg (by simp),←hc]) h
   ·rename_i x y t t' hx ht
    obtain⟨p,q,hp,rfl,rfl⟩:=Hw hx
    have ht':c.argTypes = #[t,t']:=Array.ext' ht
    split at h
    ·rename_i hu
     exact Qd (x:=p) (y:=q) (t:=t) (u:=t') (by rw[hop,←hp,←ht',←hc]) hu h
    ·exact Xh (x:=p) (y:=q) (ts:=c.argTypes) (by rw[hop,←hp,←hc]) h
   ·rename_i x y ts hx
    obtain⟨p,q,hp,rfl,rfl⟩:=Hw hx
    exact W8 (x:=p) (y:=q) (ts:=c.argTypes) (by rw[hop,←hp,←hc]) h
   ·rename_i x ts hx
    obtain⟨p,hp,rfl⟩:=Rn hx
    exact VF (x:=p) (ts:=c.argTypes) (by rw[hop,←hp,←hc]) h
   ·rename_i x y pt it hx ht
    obtain⟨p,q,hp,rfl,rfl⟩:=Hw hx
    have ht':c.argTypes = #[pt,it]:=Array.ext' ht
    exact VE (x:=p) (y:=q) (pt:=pt) (it:=it) (by rw[hop,←hp,←ht',←hc]) h
   ·exact h.elim
  ·exact h.elim
 ·exact h.elim
def gd(b:Bool)(A B:Prop):Prop:=match b with|true=>A|false=>B
theorem Dc{b:Bool}{A B:Prop}(h:gd b A B):(b=true∧A)∨(b=false∧B):=by cases b<;>simp_all [gd]
@[simp] theorem Bf(A B:Prop):gd true A B=A:=rfl
@[simp] theorem A2(A B:Prop):gd false A B=B:=rfl
def Ck(ops:Array Oper)(env:Env)(o:Oper):Option Bool:=
 match o.guard with
 |none=>some true
 |some (j,want) =>
  match(ops[j]?).bind (·.dst)with
  |none=>none
  |some d =>
   match Nat.blt d env.n with
   |false=>some false
   |true=>match env.f d with
    |.v (.bool b)=>some (b == want)
    |.v (.tuple _)=>some false
    |_=>none
theorem Xe{a b:Nat}(h:Nat.blt a b=false):b≤a:=by
 rcases Nat.lt_or_ge a b with h'|h'
 ·have:Nat.blt a b=true:=by simpa[Nat.blt_eq]using h'
  rw[this]at h;cases h
 ·exact h'
theorem B3{w:World}{g:Gh}{env:Env}{a:Act}(he:BX D w g env a){ops:Array Oper}{o:Oper}{t:Bool}(h:Ck ops env o=some t):Region.wanted o (yielded ops a.tmps)=t:=by
 unfold Ck at h
 unfold Region.wanted
 split at h
 ·rename_i hg
  cases h
  rw[hg]
 ·rename_i j want hg
  split at h
  ·cases h
  ·rename_i d hd
   split at h
   ·rename_i hb
    cases h
    rw[hg]
    unfold yielded
    dsimp only
    rw[hd]
    have hlt:a.tmps.size≤d:=by rw[←he.size];exact Xe hb
    simp only[Option.bind_some,Array.getElem?_eq_none hlt]
    rfl
   ·rename_i hb
    have hlt:d<a.tmps.size:=by rw[←he.size];simpa[Nat.blt_eq]using hb
    have hr:=he.rel d
    rw[Array.getD_eq_getD_getElem?,Array.getElem?_eq_getElem hlt]at hr
    simp only[Option.getD_some]at hr
    rw[hg]
    unfold yielded
    dsimp only
    rw[hd]
    split at h
    ·rename_i b hb
     cases h
     rw[hb]at hr
     have:=hr.BB
     simp only[Option.bind_some,Array.getElem?_eq_getElem hlt,this]
     cases b<;>cases want<;>rfl
    ·rename_i vs hb
     cases h
     rw[hb]at hr
     have:=hr.BB
     simp only[Option.bind_some,Array.getElem?_eq_getElem hlt,this]
     rfl
    ·cases h
def KC(x:AV)(K:Bool→Prop):Prop:=match x with|.v (.bool b)=>K b|_=>False
def CA(sk:Nat→Bool)(d:Option Tmp)(b:Bool):Nat→Bool:=
 match d with
 |none=>sk
 |some d=>fun i=>match Nat.beq i d with|true=>b|false=>sk i
def Sk(sk:Nat→Bool)(env:Env):Prop:=∀ d,sk d=true→d<env.n→env.f d = .v undef
theorem Sk.nil(env:Env):Sk (fun _=>false) env:=fun d h=>by cases h
theorem eQ{a b:Nat}(h:a≠b):Nat.beq a b=false:=by
 cases hb:Nat.beq a b with
 |false=>rfl
 |true=>exact absurd (Nat.eq_of_beq_eq_true hb) h
theorem Sk.add{sk:Nat→Bool}{env:Env}(h:Sk sk env)(d:Option Tmp):Sk (CA sk d true) (Bt env d (.v undef)):=by
 cases d with
 |none=>exact h
 |some d =>
  intro e he hn
  by_cases hq:e=d
  ·subst hq
   exact env.Gv _ hn
  ·rw[show(Bt env (some d) (.v undef)).f e=env.f e from env.Eg _ hq]
   simp only[CA,eQ hq]at he
   exact h e he hn
theorem Sk.del{sk:Nat→Bool}{env:Env}(h:Sk sk env)(d:Option Tmp)(v:AV):Sk (CA sk d false) (Bt env d v):=by
 cases d with
 |none=>exact h
 |some d =>
  intro e he hn
  by_cases hq:e=d
  ·subst hq
   have:Nat.beq e e=true:=Nat.beq_refl e
   simp[CA,this]at he
  ·rw[show(Bt env (some d) v).f e=env.f e from env.Eg _ hq]
   simp only[CA,eQ hq]at he
   exact h e he hn
abbrev gu(sk:Nat→Bool)(ops:Array Oper)(o:Oper)(env:Env)(run skip:Env→Prop):Prop:=
 match o.guard with
 |none=>run env
 |some (j,want) =>
  match(ops[j]?).bind (·.dst)with
  |none=>False
  |some d=>match sk d with
   |true=>skip env
   |false=>KC (env.f d) fun b=>match want with
    |true=>gd b (run (env.put d (.v (.bool true)))) (skip (env.put d (.v (.bool false))))
    |false=>gd b (skip (env.put d (.v (.bool true)))) (run (env.put d (.v (.bool false))))
theorem XE{env:Env}{d:Nat}{x:AV}(h:env.f d=x)(hx:x≠.j):env.put d x=env:=by
 refine Env.ext rfl fun i=>?_
 by_cases e:i=d
 ·subst e
  rcases Nat.lt_or_ge i env.n with hi|hi
  ·rw[env.Gv _ hi,h]
  ·exact absurd ((env.out i hi).symm.trans h).symm hx
 ·exact env.Eg _ e
theorem JF{sk:Nat→Bool}{ops:Array Oper}{o:Oper}{env:Env}{run skip:Env→Prop}(hsk:Sk sk env)(h:gu sk ops o env run skip):(Ck ops env o=some true∧run env)∨(Ck ops env o=some false∧skip env):=by
 unfold gu at h
 unfold Ck
 split at h
 ·rename_i hg
  exact .inl ⟨rfl,h⟩
 ·rename_i j want hg
  split at h
  ·exact h.elim
  ·rename_i d hd
   split at h
   ·rename_i hc
    have hb:=hsk d hc
    try rw[hd]
    try dsimp only
    refine .inr ⟨?_,h⟩
    cases hbl:Nat.blt d env.n with
    |false=>rfl
    |true =>
     have hlt:d<env.n:=by simpa[Nat.blt_eq]using hbl
     simp only[hb hlt]
     rfl
   ·unfold KC at h
    split at h
    ·rename_i b hb
     have hbl:Nat.blt d env.n=true:=by
      rcases Nat.lt_or_ge d env.n with hi|hi
      ·simpa[Nat.blt_eq]using hi
      ·rw[env.out d hi]at hb;cases hb
     try rw[hd]
     try dsimp only
     try rw[hbl]
     try dsimp only
     try rw[hb]
     try dsimp only
     have e1:env.put d (.v (.bool b))=env:=XE hb (by simp)
     cases want with
     |true =>
      rcases Dc h with⟨rfl,h'⟩|⟨rfl,h'⟩
      ·rw[e1]at h';exact .inl ⟨rfl,h'⟩
      ·rw[e1]at h';exact .inr ⟨rfl,h'⟩
     |false =>
      rcases Dc h with⟨rfl,h'⟩|⟨rfl,h'⟩
      ·rw[e1]at h';exact .inr ⟨rfl,h'⟩
      ·rw[e1]at h';exact .inl ⟨rfl,h'⟩
    ·exact h.elim
def Qp(P:Program)(ops:Array Oper):List Oper→(Nat→Bool)→Env→Aa→(Env→Aa→Prop)→(AV→Env→Aa→Prop)→Prop
 |[],_,env,S,K,_=>K env S
 |o :: rest,sk,env,S,K,X =>
  gu sk ops o env (fun env=>Cz P o.op env S (fun v S'=>Qp P ops rest (CA sk o.dst false) (Bt env o.dst v) S' K X) (fun u S'=>X u env S')) (fun env=>Qp P ops rest (CA sk o.dst true) (Bt env o.dst (.v undef)) S K X)
inductive AX where
 |normal
 |exit (id:Nat)
 |goto (l:Nat)
 |ret
 |pan (x:AV)
def XR(w:World)(g:Gh):AX→Exit→Prop
 |.normal,.normal=>True
 |.exit id,.exit id'=>id=id'
 |.goto l,.goto l'=>l=l'
 |.ret,.ret=>True
 |.pan x,.panic chain=>∃ y,chain = [{ v:=y,recovered:=false }]∧R w g x y
 |_,_=>False
def LB(P:Program)(D:List Deferred)(w:World)(g:Gh)(Q:AX→Env→Aa→Prop)(e:Exit)(a':Act)(w':World):Prop:=
 ∃ x env' S' g',Ba P w' g' S'∧BX D w' g' env' a'∧Mv w g w' g'∧XR w' g' x e∧Q x env' S'
theorem He{P:Program}{ops:Array Oper}{Q:AX→Env→Aa→Prop}{w0:World}{g0:Gh}:∀(l:List Oper) (sk:Nat→Bool) (env:Env) (S:Aa) (w:World) (g:Gh) (a:Act),Sk sk env→Ba P w g S→BX D w g env a→Mv w0 g0 w g→
    Qp P ops l sk env S (Q .normal) (fun u env' S'=>Q (.pan u) env' S')→wpList P ops (LB P D w0 g0 Q) l a w
 |[],_,env,S,w,g,a,hs,hh,he,m,h=>⟨.normal,env,S,g,hh,he,m,trivial,h⟩
 |o :: rest,sk,env,S,w,g,a,hs,hh,he,m,h=>by
  simp only[Qp]at h
  unfold wpList
  rcases JF hs h with⟨ht,h'⟩|⟨ht,h'⟩
  ·have hw:=B3 he ht
   rw[if_pos hw]
   refine .inl (CL h' D w g a _ _ hh he (fun v S' w' g' y h1 h2 h3 h4=>?_) (fun u S' w' g' y h1 h2 h3 h4=>?_))
   ·exact He rest _ _ S' w' g' _ (hs.del o.dst v) h1 ((he.mv h2).put o.dst h3) (m.trans h2) h4
   ·exact⟨.pan u,env,S',g',h1,he.mv h2,m.trans h2,⟨y,rfl,h3⟩,h4⟩
  ·have hw:=B3 he ht
   rw[if_neg (by rw[hw];simp)]
   exact He rest _ _ S w g _ (hs.add o.dst) hh (he.put o.dst (.v _)) m h'
def zU(P:Program)(c:Code)(env:Env)(S:Aa)(Q:AX→Env→Aa→Prop):Prop:=
 ∀(D:List Deferred) (w:World) (g:Gh) (a:Act),Ba P w g S→BX D w g env a→c.wp P (LB P D w g Q) a w
theorem zU.mono{P:Program}{c:Code}{env:Env}{S:Aa}{Q Q':AX→Env→Aa→Prop}(h:zU P c env S Q)(hq:∀ x env S,Q x env S→Q' x env S):zU P c env S Q':=
 fun D w g a hh he=>wp_mono (h D w g a hh he) fun e a' w' ⟨x,env',S',g',h1,h2,h3,h4,h5⟩=>⟨x,env',S',g',h1,h2,h3,h4,hq _ _ _ h5⟩
end Go.Ab
set_option linter.unusedVariables false
set_option linter.unusedSimpArgs false
namespace Go.Ab
open Go Go.RowKit
variable {D:List Deferred}
theorem aN{env env':Env}{x:Operand}(h:∀ t,x = .tmp t→env.f t=env'.f t):ev env x=ev env' x:=by
 cases x with
 |tmp t=>exact h t rfl
 |_=>rfl
theorem GA{env env':Env}{xs:Array Operand}(h:∀ x,x∈xs→ev env x=ev env' x):xs.toList.map (ev env)=xs.toList.map (ev env'):=
 List.map_congr_left fun x hx=>h x (by simpa using hx)
theorem G4{env env':Env}{xs:Array (Nat × Operand)}(h:∀ x,x∈xs→ev env x.2=ev env' x.2):(xs.toList.map fun(i,x)=>(i,ev env x))=xs.toList.map fun(i,x)=>(i,ev env' x):=
 List.map_congr_left fun x hx=>by
  have:=h x (by simpa using hx)
  obtain⟨i,y⟩:=x
  simp only at this ⊢
  rw[this]
theorem FG{env env':Env}{o:Option Operand}(h:∀ x,o=some x→ev env x=ev env' x):o.map (ev env)=o.map (ev env'):=by
 cases o with
 |none=>rfl
 |some x=>simp[h x rfl]
theorem IX{P:Program}{op:Op}{env env':Env}{S:Aa}{K X:AV→Aa→Prop}(h:∀ x,x∈op.operands→ev env x=ev env' x):Cz P op env S K X=Cz P op env' S K X:=by
 unfold Cz
 cases op<;>simp only[Op.operands]at h<;>try rfl
 case move x=>simp only[h x (by simp)]
 case assign x=>simp only[h x (by simp)]
 case pick c x y=>simp only[h c (by simp),h x (by simp),h y (by simp)]
 case box t x=>simp only[h x (by simp)]
 case build t ps=>simp only[G4 (xs:=ps) (fun x hx=>h x.2 (by simp;exact⟨x.1,hx⟩))]
 case buildSlice t n ps=>simp only[G4 (xs:=ps) (fun x hx=>h x.2 (by simp;exact⟨x.1,hx⟩))]
 case load t x=>simp only[h x (by simp)]
 case store t x y=>simp only[h x (by simp),h y (by simp)]
 case nilCheck x=>simp only[h x (by simp)]
 case makeInterface t x=>simp only[h x (by simp)]
 case typeAssert x t a c=>simp only[h x (by simp)]
 case panic x=>simp only[h x (by simp)]
 case binOp o t x y yt=>simp only[h x (by simp),h y (by simp)]
 case unOp o t x=>simp only[h x (by simp)]
 case convert s d x=>simp only[h x (by simp)]
 case makeFunc fn fs cs=>simp only[GA (xs:=fs) (fun x hx=>h x (by simp[hx])),GA (xs:=cs) (fun x hx=>h x (by simp[hx]))]
 case makeSlice t l c=>simp only[h l (by simp),h c (by simp)]
 case slice t x lo hi mx=>simp only[h x (by simp),FG (o:=lo) (fun y hy=>h y (by simp[hy])),FG (o:=hi) (fun y hy=>h y (by simp[hy])),FG (o:=mx) (fun y hy=>h y (by simp[hy]))]
 case fieldAddr s x f=>simp only[h x (by simp)]
 case field s x f=>simp only[h x (by simp)]
 case indexAddr t x i=>simp only[h x (by simp),h i (by simp)]
 case index t x i=>simp only[h x (by simp),h i (by simp)]
 case extract x i=>simp only[h x (by simp)]
 case lookup t x k c=>simp only[h x (by simp),h k (by simp)]
 case mapUpdate t m k v=>simp only[h m (by simp),h k (by simp),h v (by simp)]
 case insert t m k v=>simp only[h m (by simp),h k (by simp),h v (by simp)]
 case range t x=>simp only[h x (by simp)]
 case next x str=>simp only[h x (by simp)]
 case entry x=>simp only[h x (by simp)]
 case call c =>
  obtain⟨callee,args,ts⟩:=c
  have ha:args.toList.map (ev env)=args.toList.map (ev env'):=GA (xs:=args) (fun x hx=>h x (by cases callee<;>simp[Call.operands,hx]))
  cases callee with
  |value f=>simp only[ha,h f (by simp[Call.operands])]
  |builtin b=>simp only[ha]
  |invoke r m=>rfl
theorem Of{env:Env}{d:Option Tmp}{v:AV}{t:Tmp}(h:d≠some t):(Bt env d v).f t=env.f t:=by
 cases d with
 |none=>rfl
 |some d=>exact env.Eg v fun e=>h (by rw[e])
theorem Mf(env:Env)(d:Option Tmp)(v:AV):(Bt env d v).n=env.n:=by cases d<;>rfl
theorem H0{env:Env}{x y:Option Tmp}(v u:AV)(h:∀ d,x=some d→y≠some d):Bt (Bt env x v) y u=Bt (Bt env y u) x v:=by
 cases x with
 |none=>rfl
 |some a =>
  cases y with
  |none=>rfl
  |some b =>
   have hab:a≠b:=fun e=>h a rfl (by rw[e])
   refine Env.ext rfl fun i=>?_
   show((env.put a v).put b u).f i=((env.put b u).put a v).f i
   by_cases hb:i=b
   ·subst hb
    rw[Env.Eg _ _ (fun e=>hab e.symm)]
    rcases Nat.lt_or_ge i env.n with hi|hi
    ·rw[Env.Gv _ _ (show i<(env.put a v).n from hi),Env.Gv _ _ hi]
    ·rw[Env.out _ i (show(((env.put a v).put i u)).n≤i from hi),Env.out _ i (show((env.put i u)).n≤i from hi)]
   ·rw[Env.Eg _ _ hb]
    by_cases ha:i=a
    ·subst ha
     rcases Nat.lt_or_ge i env.n with hi|hi
     ·rw[Env.Gv _ _ hi,Env.Gv _ _ (show i<(env.put b u).n from hi)]
     ·rw[Env.out _ i (show((env.put i v)).n≤i from hi),Env.out _ i (show(((env.put b u).put i v)).n≤i from hi)]
    ·rw[Env.Eg _ _ ha,Env.Eg _ _ ha,Env.Eg _ _ hb]
def Yd(P:Program)(ops:Array Oper)(S:Aa)(o:Oper)(v:AV)(env:Env):Prop:=
 ∃ t,Ck ops env o=some t∧gd t (Cz P o.op env S (fun u S'=>u=v∧S'=S) (fun _ _=>False)) (v = .v undef)
theorem EO{ops:Array Oper}{o:Oper}{env:Env}{d:Option Tmp}{v:AV}(h:∀ t,d=some t→t∉o.looksAt ops):∀ x,x∈o.op.operands→ev (Bt env d v) x=ev env x:=by
 intro x hx
 refine aN fun t ht=>Of fun hd=>h t hd ?_
 subst ht
 exact List.mem_append_left _ (List.mem_filterMap.2 ⟨.tmp t,by simpa using hx,rfl⟩)
theorem IW{ops:Array Oper}{o:Oper}{env:Env}{d:Option Tmp}{v:AV}(h:∀ t,d=some t→t∉o.looksAt ops):Ck ops (Bt env d v) o=Ck ops env o:=by
 unfold Ck
 split
 ·rfl
 ·rename_i j want hg
  split
  ·rfl
  ·rename_i t ht
   have:d≠some t:=fun hd=>h t hd (by simp[Oper.looksAt,hg,ht])
   rw[Mf,Of this]
theorem Yd.Bt{P:Program}{ops:Array Oper}{S:Aa}{o:Oper}{v:AV}{env:Env}{d:Option Tmp}{u:AV}(h:∀ t,d=some t→t∉o.looksAt ops):Yd P ops S o v (Ab.Bt env d u)↔Yd P ops S o v env:=by
 unfold Yd
 rw[IW h,IX (EO h)]
def Ua(P:Program)(ops:Array Oper)(S:Aa)(K:Env→Prop):Nat→Array Bool→Env→Prop
 |0,listed,env=>Region.ready .any ops listed = []∧K env
 |n+1,listed,env=>(Region.ready .any ops listed = []→K env)∧∀ i,i∈Region.ready .any ops listed→∃ o v,ops[i]? = some o∧Yd P ops S o v env∧Ua P ops S K n (listed.setIfInBounds i true) (Bt env o.dst v)
theorem Jd{P:Program}{ops:Array Oper}{S:Aa}{K:Env→Prop}{i:Nat}{oi:Oper}{v:AV}(hi:ops[i]? = some oi):∀(n:Nat) (listed:Array Bool) (env:Env),
    (∀ j oj,ops[j]? = some oj→j≠i→listed.getD j true=false→(∀ e∈oj.after,Region.binds .any e=true→e.on≠i)→oi.apart ops oj=true)→
    i∈Region.ready .any ops listed→Yd P ops S oi v env→Ua P ops S K n (listed.setIfInBounds i true) (Bt env oi.dst v)→Ua P ops S K (n+1) listed env:=by
 intro n
 induction n with
 |zero =>
  intro listed env _ hr hy H
  refine⟨fun h=>(by rw[h]at hr;cases hr),fun j hj=>?_⟩
  by_cases hji:j=i
  ·subst hji;exact⟨oi,v,hi,hy,H⟩
  ·have:=ready_mono hj hji
   rw[H.1]at this
   cases this
 |succ n ih =>
  intro listed env hfree hr hy H
  refine⟨fun h=>(by rw[h]at hr;cases hr),fun j hj=>?_⟩
  by_cases hji:j=i
  ·subst hji;exact⟨oi,v,hi,hy,H⟩
  ·obtain⟨oj,u,hoj,hyj,Hj⟩:=H.2 j (ready_mono hj hji)
   obtain⟨hjun,oj',hoj',hall⟩:=mem_ready.1 hj
   rw[hoj]at hoj'
   cases hoj'
   have hnot:∀ e∈oj.after,Region.binds .any e=true→e.on≠i:=fun e he hb heq=>by
    have h1:=hall e he hb
    have h0:=(mem_ready.1 hr).1
    rw[heq]at h1
    rcases Nat.lt_or_ge i listed.size with h'|h'
    ·simp[h']at h0 h1;rw[h0]at h1;cases h1
    ·simp[Array.getElem?_eq_none h']at h1
   obtain⟨h1,h2,h3⟩:=Oper.apart_spec (hfree j oj hoj hji hjun hnot)
   refine⟨oj,u,hoj,(Yd.Bt h1).1 hyj,ih _ _ (fun k ok hk hki hun hno=>?_) (ready_mono hr (Ne.symm hji)) ((Yd.Bt h3).2 hy) ?_⟩
   ·refine hfree k ok hk hki ?_ hno
    by_cases hjk:j=k
    ·subst hjk;exact hjun
    ·rw[getD_set_ne true hjk]at hun;exact hun
   ·rw[Array.setIfInBounds_comm _ _ hji,←H0 v u h2]
    exact Hj
def sO(op:Op)(env:Env):Option AV:=
 match op with
 |.move x|.assign x=>some (ev env x)
 |_=>none
def rY(P:Program)(ops:Array Oper)(S:Aa):List Oper→(Nat→Bool)→Env→(Env→Prop)→Prop
 |[],_,env,K=>K env
 |o :: rest,sk,env,K =>
  gu sk ops o env (fun env=>match sO o.op env with
   |some v=>rY P ops S rest (CA sk o.dst false) (Bt env o.dst v) K
   |none=>∃ v,Cz P o.op env S (fun u S'=>u=v∧S'=S) (fun _ _=>False)∧rY P ops S rest (CA sk o.dst false) (Bt env o.dst v) K) (fun env=>rY P ops S rest (CA sk o.dst true) (Bt env o.dst (.v undef)) K)
theorem KF{P:Program}{op:Op}{env:Env}{v:AV}(h:sO op env=some v){S:Aa}:Cz P op env S (fun u S'=>u=v∧S'=S) (fun _ _=>False):=by
 unfold sO at h
 split at h
 ·cases h;exact⟨rfl,rfl⟩
 ·cases h;exact⟨rfl,rfl⟩
 ·cases h
theorem R4{P:Program}{ops:Array Oper}{S:Aa}{K:Env→Prop}:∀(l:List Oper) (sk:Nat→Bool) (k:Nat) (listed:Array Bool) (env:Env),Sk sk env→(∀ j:Nat,l[j]? = ops[k+j]?)→
    Region.lexFrom .any ops l.length k listed=true→rY P ops S l sk env K→Ua P ops S K l.length listed env
 |[],_,_,_,_,_,_,hB,h=>⟨by simpa[Region.lexFrom]using hB,h⟩
 |o :: l,sk,k,listed,env,hs,hl,hB,h=>by
  have h0:ops[k]? = some o:=by simpa using(hl 0).symm
  simp only[List.length_cons,Region.lexFrom,Bool.and_eq_true]at hB
  obtain⟨⟨hr,hf⟩,hB'⟩:=hB
  have hrest:=fun sk' env' (hs':Sk sk' env')=>R4 (P:=P) (S:=S) (K:=K) l sk' (k+1) (listed.setIfInBounds k true) env' hs' (fun j=>by have:=hl (j+1);simpa[Nat.add_assoc,Nat.add_comm 1 j]using this) hB'
  simp only[rY]at h
  rcases JF hs h with⟨ht,h'⟩|⟨ht,h2⟩
  ·have h'':∃ v,Cz P o.op env S (fun u S'=>u=v∧S'=S) (fun _ _=>False)∧rY P ops S l (CA sk o.dst false) (Bt env o.dst v) K:=by
     split at h'
     ·rename_i v hv
      exact⟨v,KF hv,h'⟩
     ·exact h'
   obtain⟨v,h1,h2⟩:=h''
   exact Jd h0 l.length listed env (Region.free_spec h0 hf) (by simpa using hr) ⟨true,ht,h1⟩ (hrest _ _ (hs.del o.dst v) h2)
  ·exact Jd h0 l.length listed env (Region.free_spec h0 hf) (by simpa using hr) ⟨false,ht,rfl⟩ (hrest _ _ (hs.add o.dst) h2)
theorem Md{P:Program}{ops:Array Oper}{S:Aa}{Q:AX→Env→Aa→Prop}{w0:World}{g0:Gh}:∀(n:Nat) (listed:Array Bool) (env:Env) (w:World) (g:Gh) (a:Act),Ba P w g S→BX D w g env a→Mv w0 g0 w g→
    Ua P ops S (fun env'=>Q .normal env' S) n listed env→wpAny P .any ops (LB P D w0 g0 Q) n listed a w
 |0,_,env,w,g,a,hh,he,m,h=>⟨h.1,.normal,env,S,g,hh,he,m,trivial,h.2⟩
 |n+1,listed,env,w,g,a,hh,he,m,h=>by
  refine⟨fun h0=>⟨.normal,env,S,g,hh,he,m,trivial,h.1 h0⟩,fun i hi=>?_⟩
  obtain⟨o,v,ho,⟨t,ht,hy⟩,hn⟩:=h.2 i hi
  have hw:=B3 he ht
  unfold wpOp
  simp only[ho]
  rcases Dc hy with⟨rfl,hy'⟩|⟨rfl,hy'⟩
  ·rw[if_pos hw]
   refine .inl (CL hy' D w g a _ _ hh he (fun u S' w' g' y h1 h2 h3 h4=>?_) (fun u S' w' g' y h1 h2 h3 h4=>h4.elim))
   obtain⟨rfl,rfl⟩:=h4
   exact Md n _ _ w' g' _ h1 ((he.mv h2).put o.dst h3) (m.trans h2) hn
  ·rw[if_neg (by rw[hw];simp)]
   subst hy'
   exact Md n _ _ w g _ hh (he.put o.dst (.v _)) m hn
def U9(P:Program)(id:Nat)(ops:Array Oper)(env:Env)(S:Aa)(K:AX→Env→Aa→Prop):Prop:=zU P (.region id ops true) env S K
theorem TK{P:Program}(hm:P.follows .mixedOrders=true){id:Nat}{ops:Array Oper}(hB:Region.lexB .any ops=true){env:Env}{S:Aa}{K:AX→Env→Aa→Prop}
    (h:rY P ops S ops.toList (fun _=>false) env (fun env'=>K .normal env' S)):U9 P id ops env S K:=by
 intro D w g a hh he
 simp only[Region.lexB,Bool.and_eq_true]at hB
 refine wp_region_any hm ?_
 have h1:=R4 (P:=P) (S:=S) ops.toList (fun _=>false) 0 (Array.replicate ops.size false) env (Sk.nil env) (by simp) (by simpa using hB.2) h
 have h2:=Md (w0:=w) (g0:=g) ops.toList.length (Array.replicate ops.size false) env w.drew g a hh.drew (he.mv (D3 w g)) (D3 w g) h1
 simpa using h2
end Go.Ab

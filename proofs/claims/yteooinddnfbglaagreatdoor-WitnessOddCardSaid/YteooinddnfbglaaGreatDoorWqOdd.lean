/- Witness -/
import Derived.Test.YteooinddnfbglaaGreatDoorTie
import Derived.Test.YteooinddnfbglaaGreatDoorCards
import Derived.OpenShut
import Derived.ChangeOld
import Derived.LaidLaws
import Derived.Lib.LaidTab
import Derived.Stop.LaidErr
import Derived.SevenTiedAt
import Derived.Test.YteooinddnfbglaaGreatDoorWqOddJ
import Derived.Test.YteooinddnfbglaaGreatDoorWqT6
set_option linter.unusedVariables false
set_option linter.unusedSimpArgs false
namespace Go.Proofs.YteooinddnfbglaaGreatDoor.G
open Go Go.Ab
open Go.ChangeShapes Go.WideShapes Go.ChangeAt Go.RowKit

/-- The wrap, the shape and the listed variables kept. -/
theorem handed_shaped{H:Type}{enc:TypeId × Value→H}{a:Assume}{C:Checked}{os:Os}{f:FuncId}{fn:Func}{s:ChangeSpec}{conds:List PathCond}{apart fresh handsOn again:Bool}{X:World→Array Value→Prop}
    (hX:∀(w w':World) (args:Array Value),w.heap=w'.heap→X w args→X w' args)
    (own:ownKnob C.prog.godebug=none) (started:os.Started) (noInit:C.prog.inits.idxOf? f=none) (hfn:C.prog.funcs[f]? = some fn)
    (witness:∃(w:World) (tape:Tape) (i:Input),w.os=os∧(w.forCall tape i).Shaped C.prog∧i.vars = []∧Input.okWide C.prog (w.forCall tape i) .any w.heap.size f i∧
     ((s.pre enc C.prog fn conds apart (w.forCall tape i).memory i.args∧X (w.forCall tape i).memory i.args)∧sizedMet enc C.prog fn (OpenSpec.ofChange s) apart (w.forCall tape i).memory i.args)∧a.holds C.prog (lone (Frame.enter C.prog f i.args .normal) [] (w.forCall tape i)))
    (contract:∀(W:World) (base:Nat) (args:Array Value) (ds gs:List (DataW H)) (before:List MemPlace),
     (∀(j:Nat) t v,fn.params[j]? = some t→args[j]? = some v→Value.okWide C.prog W .any base t v)→
     DataW.Whole enc C.prog fn.params.toList s.vars apart W args.toList ds gs before→
     conds.all (PathCond.test C.prog ⟨fn.params.toList,ds,s.plain.varTypes C.prog,gs⟩)=true→
     (DataW.weightsEach C.prog (fn.params.toList++s.plain.varTypes C.prog) (ds++gs)).all (·≤reachBytes)=true→X W args→W.ShapedOpen C.prog→
     a.holds C.prog (lone (Frame.enter C.prog f args .normal) [] W)→
     Calls C.prog f args W fun e W'=>∃ v,e = .returned v∧s.post enc C.prog fn apart fresh handsOn again W args v W'):
    ReturnsInHanded a C os f .any (fun w args=>(s.pre enc C.prog fn conds apart w args∧X w args)∧sizedMet enc C.prog fn (OpenSpec.ofChange s) apart w args) (s.post enc C.prog fn apart fresh handsOn again):=by
 refine returnsInHanded_of_calls own started noInit witness ?_
 intro w tape i _ hsh _ hok hpre hholds
 obtain⟨_,_,_,fn',hfn',_,_,_,_,hval⟩:=hok
 have e:fn'=fn:=Option.some.inj (hfn'.symm.trans hfn)
 subst e
 obtain⟨⟨⟨ds,gs,before,hw,hc⟩,hx⟩,hz⟩:=hpre
 have hw':=DataW.Whole.of_heap (w':=w.forCall tape i) (by rfl) hw
 refine(contract (w.forCall tape i) w.heap.size i.args ds gs before hval hw' hc (hz.weights hw) (hX _ _ _ (by rfl) hx) hsh hholds).mono fun e W' ⟨v,he,hp⟩=>?_
 subst he
 exact ChangeSpec.post_blind hp
theorem own:ownKnob Tryz.prog.godebug=none:=by kernel_rfl
theorem laidOut:laidOutB Tryz.prog=true:=by kernel_rfl
theorem argsN{w:World}{g:Gh}{a0:AV}{y0:Value}(h0:R w g a0 y0){a1:AV}{y1:Value}(h1:R w g a1 y1){a2:AV}{y2:Value}(h2:R w g a2 y2){a3:AV}{y3:Value}(h3:R w g a3 y3):∀(k:Nat) (u:AV),[a0,a1,a2,a3][k]? = some u→R w g u (#[y0,y1,y2,y3].getD k undef)
 |0,_,h=>by cases h;exact h0
 |1,_,h=>by cases h;exact h1
 |2,_,h=>by cases h;exact h2
 |3,_,h=>by cases h;exact h3
 |k+4,_,h=>by simp at h
/-- What the row lists of strconv's variables. -/
theorem gl_of{W:World}(hS:W.ShapedOpen Tryz.prog)(hL:laidMet Tryz.prog Rows.witnessOddRow.laid W):Gl Tryz.prog W (g0 W):=by
 have hT : laidMet Tryz.prog (("internal/strconv.uint64pow10", Lib.tabData .u64 Lib.pow10Tab) :: []) W := hL.tail.tail
 have hv2:=Lib.tabIs_of_head (g:=0) (t:=226) (e:=208) (n:=20) (by kernel_rfl) (by kernel_rfl) Tryz.underlying226 Tryz.underlying208 (by kernel_rfl) (by kernel_rfl) hT
 intro n b hn hm
 have key:∀ cs,W.var? Tryz.prog n=some cs→(g0 W).im b:=fun cs h=>by
  unfold World.var? at h
  rw[hn]at h
  show b<W.heap.size
  rcases Nat.lt_or_ge b W.heap.size with hb|hb
  ·exact hb
  ·have e:W.heap[b]? = none:=Array.getElem?_eq_none hb
   simp[e]at h
 have no:∀ s:String,Tryz.prog.globalNamed s=none→n=s→False:=fun s h e=>by
  rw[e,h]at hn
  cases hn
 simp only[sS,List.mem_cons,List.not_mem_nil,or_false]at hm
 rcases hm with h|h|rfl|h
 ·exact(no _ (by kernel_rfl) h).elim
 ·exact(no _ (by kernel_rfl) h).elim
 ·refine⟨key _ hv2,_,hv2,fun h=>absurd h (by decide),fun _=>?_,fun h=>absurd h (by decide)⟩
  rw[Lib.pow10Tab,List.map_map]
  rfl
 ·exact(no _ (by kernel_rfl) h).elim
def putC(cs:Array Value):Obj→Obj
 |.cells _ t frozen=>.cells cs t frozen
 |o=>o
noncomputable def laidWorld (os:Os):World:=
 let w0:=World.holding Tryz.prog os ⟨#[],#[],[]⟩
 { w0 with heap:=(((w0.heap.modify 1 (putC #[.int .u8 0,.int .u8 1,.int .u8 28,.int .u8 2,.int .u8 29,.int .u8 14,.int .u8 24,.int .u8 3,.int .u8 30,.int .u8 22,.int .u8 20,.int .u8 15,.int .u8 25,.int .u8 17,.int .u8 4,.int .u8 8,.int .u8 31,.int .u8 27,.int .u8 13,.int .u8 23,.int .u8 21,.int .u8 19,.int .u8 16,.int .u8 7,.int .u8 26,.int .u8 12,.int .u8 18,.int .u8 6,.int .u8 11,.int .u8 5,.int .u8 10,.int .u8 9])).modify 2 (putC #[.int .u8 0,.int .u8 1,.int .u8 56,.int .u8 2,.int .u8 57,.int .u8 49,.int .u8 28,.int .u8 3,.int .u8 61,.int .u8 58,.int .u8 42,.int .u8 50,.int .u8 38,.int .u8 29,.int .u8 17,.int .u8 4,.int .u8 62,.int .u8 47,.int .u8 59,.int .u8 36,.int .u8 45,.int .u8 43,.int .u8 51,.int .u8 22,.int .u8 53,.int .u8 39,.int .u8 33,.int .u8 30,.int .u8 24,.int .u8 18,.int .u8 12,.int .u8 5,.int .u8 63,.int .u8 55,.int .u8 48,.int .u8 27,.int .u8 60,.int .u8 41,.int .u8 37,.int .u8 16,.int .u8 46,.int .u8 35,.int .u8 44,.int .u8 21,.int .u8 52,.int .u8 32,.int .u8 23,.int .u8 11,.int .u8 54,.int .u8 26,.int .u8 40,.int .u8 15,.int .u8 34,.int .u8 20,.int .u8 31,.int .u8 10,.int .u8 25,.int .u8 14,.int .u8 19,.int .u8 9,.int .u8 13,.int .u8 8,.int .u8 7,.int .u8 6])).modify 0 (putC #[.int .u64 1,.int .u64 10,.int .u64 100,.int .u64 1000,.int .u64 10000,.int .u64 100000,.int .u64 1000000,.int .u64 10000000,.int .u64 100000000,.int .u64 1000000000,.int .u64 10000000000,.int .u64 100000000000,.int .u64 1000000000000,.int .u64 10000000000000,.int .u64 100000000000000,.int .u64 1000000000000000,.int .u64 10000000000000000,.int .u64 100000000000000000,.int .u64 1000000000000000000,.int .u64 10000000000000000000])) }
theorem laidWorld_met(os:Os)(args:Array Value):laidMet Tryz.prog Rows.witnessOddRow.laid ((laidWorld os).forCall (fun _ _=>0) ⟨#[],args,[]⟩).memory:=laidMet_of_run' 8 (by kernel_rfl) (by kernel_rfl)
set_option maxRecDepth 100000 in
theorem lifted(os:Os)(started:os.Started)(H:Type)(enc:TypeId × Value→H):
    ReturnsInHanded {} Tryz.checked os 3 .any (fun w args=>(Rows.witnessOddSpec.pre enc Tryz.prog Tryz.f3 Rows.witnessOddRow.domain false w args∧laidMet Tryz.prog Rows.witnessOddRow.laid w)∧sizedMet enc Tryz.prog Tryz.f3 (OpenSpec.ofChange Rows.witnessOddSpec) false w args) (Rows.witnessOddSpec.post enc Tryz.prog Tryz.f3 false true false false):=by
 refine handed_shaped (C:=Tryz.checked) (X:=fun w _=>laidMet Tryz.prog Rows.witnessOddRow.laid w) (fun _ _ _ hh h=>h.of_heap hh) own started (by kernel_rfl) Tryz.func3
  (ChangeSpec.witness_at (enc:=enc) (C:=Tryz.checked) (os:=os) (X:=fun w _=>laidMet Tryz.prog Rows.witnessOddRow.laid w) false (laidWorld os) #[.slice none 0 0,.slice none 0 0,.int .u8 0,.int .i64 0] 8 rfl (by kernel_rfl) (by kernel_rfl) (by kernel_rfl) (by kernel_rfl) (by kernel_rfl) (laidWorld_met os _)) ?_
 intro W base args ds gs before hval0 hW hcnd hsz0 hL hSh _
 have hval:∀(j:Nat) t v,Tryz.f3.params[j]? = some t→args[j]? = some v→Value.okWide Tryz.prog W .any base t v:=hval0
 have hW':=hW
 obtain⟨p,q,hA0,hV,rfl,hfz,hnd⟩:=hW
 have hA:DataW.TrodAll enc Tryz.prog W 0 (fun _=>true) true Tryz.f3.params.toList args.toList ds p:=hA0
 rw[Tryz.params3]at hA hval
 obtain⟨v0,vs0,d0,ds0,p0,q0,hargs,rfl,rfl,h0,r0⟩:=trodAll_cons hA
 obtain⟨v1,vs1,d1,ds1,p1,q1,rfl,rfl,rfl,h1,r1⟩:=trodAll_cons r0
 obtain⟨v2,vs2,d2,ds2,p2,q2,rfl,rfl,rfl,h2,r2⟩:=trodAll_cons r1
 obtain⟨v3,vs3,d3,ds3,p3,q3,rfl,rfl,rfl,h3,r3⟩:=trodAll_cons r2
 obtain⟨rfl,rfl,rfl⟩:=trodAll_nil r3
 obtain rfl:args = #[v0,v1,v2,v3]:=by cases args;simp_all
 obtain⟨rfl,rfl⟩:=trodVars_none hV
 have lt0:∀ x∈p0,x.block<W.heap.size:=by obtain⟨m,hm⟩:=h0;exact DataW.trod_lt m _ _ _ hm
 have lt1:∀ x∈p1,x.block<W.heap.size:=by obtain⟨m,hm⟩:=h1;exact DataW.trod_lt m _ _ _ hm
 have lt2:∀ x∈p2,x.block<W.heap.size:=by obtain⟨m,hm⟩:=h2;exact DataW.trod_lt m _ _ _ hm
 have lt3:∀ x∈p3,x.block<W.heap.size:=by obtain⟨m,hm⟩:=h3;exact DataW.trod_lt m _ _ _ hm
 obtain⟨a0,l0,c0,rfl⟩:=okWide_slice Tryz.underlying22 (hval 0 22 v0 rfl rfl)
 obtain⟨a1,l1,c1,rfl⟩:=okWide_slice Tryz.underlying23 (hval 1 23 v1 rfl rfl)
 obtain⟨c2,rfl⟩:=okWide_int Tryz.underlying5 (hval 2 5 v2 rfl rfl)
 obtain⟨c3,rfl⟩:=okWide_int Tryz.underlying3 (hval 3 3 v3 rfl rfl)
 obtain⟨x0,q0,hr0⟩:=Gx AgQ rfl h0
 obtain⟨x1,q1,hr1⟩:=Gx AgR rfl h1
 obtain⟨x2,q2,hr2⟩:=Gx opU rfl h2
 obtain⟨x3,q3,hr3⟩:=Gx opI rfl h3
 clear hA0 hval0
 refine(Ad.law (AgT (l:=x0) (m:=x1) (how:=x2) (n:=x3) (fun a h=>vZ (q0.2 a h)) (fun a h=>Aa5 (q1.2 a h)) (xM q3)) (gl_of hSh hL) (by rfl) (argsN hr0 hr1 hr2 hr3)).mono fun e W' ⟨he,bel⟩=>?_
 subst he
 exact⟨_,rfl,_,_,_,[],_,[],hW',trodAll_mk1 (shut_bool Tryz.underlying4 _),(trodAll_cons_mk (Below.trod laidOut (by kernel_rfl) (of_decide_eq_true (by kernel_rfl)) h0 bel lt0) (trodAll_cons_mk (Below.trod laidOut (by kernel_rfl) (of_decide_eq_true (by kernel_rfl)) h1 bel lt1) (trodAll_cons_mk (Below.trod laidOut (by kernel_rfl) (of_decide_eq_true (by kernel_rfl)) h2 bel lt2) (trodAll_cons_mk (Below.trod laidOut (by kernel_rfl) (of_decide_eq_true (by kernel_rfl)) h3 bel lt3) trodAll_mk0)))),rfl,bel.frame _,fun h=>by cases h⟩

theorem over:Rows.witnessOddRow.holds Tryz.pinned (OpenSpec.ofChange Rows.witnessOddSpec):=
 OpenClaim.holds_of_wide 3 Tryz.f3 rfl rfl rfl rfl rfl rfl rfl ⟨rfl,rfl,rfl,rfl,rfl⟩ rfl rfl rfl rfl rfl (by kernel_rfl) Tryz.func3 joined_witnessOdd
  (of_decide_eq_true (by kernel_rfl)) (by unfold Func.isWrapper;rw[if_neg (of_decide_eq_false (by kernel_rfl))];exact⟨rfl,rfl⟩)
  (fun os started H enc _=>lifted os started H enc)
set_option maxHeartbeats 1000000000 in
theorem card:Rows.WitnessOddCardSaid:=
 Claim7.holds_tied_plain_at .later [] [.data, .data, .data] true (true, "5169d83b206ea91ad5860175dac9a0c8dd3e8874131dfede1463aab18c9c2c01") false
  over (fun _ h=>by cases h) (by as_aux_lemma=>kernel_rfl) (fun _ h=>by cases h) witnessOdd_row_tie rfl ⟨rfl,rfl⟩ (by as_aux_lemma=>kernel_rfl) rfl
  (fun f fn hf hfn=>by
   obtain rfl:f=3:=Option.some.inj ((show Tryz.prog.funcNamed Rows.witnessOddRow.func=some 3 by as_aux_lemma=>kernel_rfl).symm.trans hf) |>.symm
   obtain rfl:fn=Tryz.f3:=(Option.some.inj (Tryz.func3.symm.trans hfn)).symm
   exact⟨by as_aux_lemma=>kernel_rfl,fun j t ht=>by
    rw[Tryz.params3]at ht
    match j,ht with
    |0,ht=>cases ht;exact(show Tryz.prog.wantsStandIn 22=false by as_aux_lemma=>kernel_rfl)
    |1,ht=>cases ht;exact(show Tryz.prog.wantsStandIn 23=false by as_aux_lemma=>kernel_rfl)
    |2,ht=>cases ht;exact(show Tryz.prog.wantsStandIn 5=false by as_aux_lemma=>kernel_rfl)
    |3,ht=>cases ht;exact(show Tryz.prog.wantsStandIn 3=false by as_aux_lemma=>kernel_rfl)
    |j+4,ht=>simp at ht⟩)
  (by as_aux_lemma=>kernel_rfl)
end Go.Proofs.YteooinddnfbglaaGreatDoor.G
namespace Go.Proofs.YteooinddnfbglaaGreatDoor
theorem witnessOdd_proved:Rows.WitnessOddCardSaid:=G.card
end Go.Proofs.YteooinddnfbglaaGreatDoor

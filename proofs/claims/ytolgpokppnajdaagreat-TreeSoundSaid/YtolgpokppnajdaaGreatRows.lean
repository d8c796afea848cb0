/-
  NARROWER THAN 'FOR EVERY INPUT', by the rows' own cells (each row's printed sentence says how): TreePush: loops · TreeAny: loops · TreeSound: loops.
  DERIVED. THE GIVEN ROWS OF THIS SEAT. 13 by the template 'for every input the law returns true; each argument reads behind the call as it read before'; 0 by the template 'total and deterministic' (their statements: YtolgpokppnajdaaGreatTotals.lean).
  GIVEN WITH THE SEED: the statements are not yours to turn. If you find one false, say at which input.
  Laid BY PROGRAM, IN A SANDBOX (cutbox-rows.mjs): the forced cells as the released guide's own fill.sh prints them over the translation a8219fc36eb7daf3… (all of the seat's roots in one cut). By AI agents, Wed Nov 11 2026. No macro, syntax, notation, axiom, sorry.
-/
import Derived.Test.YtolgpokppnajdaaGreatChecked
import GoSem.Claim
import GoSem.ClaimJoined
import GoSem.ClaimMapViews
import Derived.JoinedTies
import Derived.KernelRfl
namespace Go.Proofs.YtolgpokppnajdaaGreat
/- THE CELL 'sum', in the pinned program and in every row, IS THE sha256 OF THE DUMP (.gsa) THAT YtolgpokppnajdaaGreatProg.lean LOADS. Nothing in Lean hashes anything: it is a label: what it is worth is what the hold of that sum in a sandbox is worth. -/
noncomputable def Tryz.pinned : Pinned := { name := "ytolgpokppnajdaagreat", sum := "a8219fc36eb7daf3afba991e491cf8b3da79c82f3f25e0f4aff7cc7b276ab4dd", checked := Tryz.checked }
namespace Rows
def none {H : Type} : Left H := { results := [], args := [] }

/-- 'parterrelaw20.TreePush': WHATEVER THE INPUT: true; the input reads as it did. -/
def treePushSpec : ChangeSpec := { name := "treePush", fn := fun _ => fun
  | [d1, d2, d3] => { results := [.lit (.bool true)], args := [d1, d2, d3] }
  | _ => none }
def treePushRow : OpenClaim := { program := "ytolgpokppnajdaagreat", sum := "a8219fc36eb7daf3afba991e491cf8b3da79c82f3f25e0f4aff7cc7b276ab4dd", func := "parterre/parterrelaw20.TreePush", spec := "treePush", inPlace := ["sync/atomic.LoadUint32", "(*internal/sync.Mutex).Lock", "internal/race.Disable", "sync/atomic.CompareAndSwapInt32", "internal/race.Enable", "internal/race.Acquire", "(*internal/sync.Mutex).lockSlow", "internal/sync.runtime_canSpin", "internal/sync.runtime_doSpin", "internal/sync.throw", "internal/sync.runtime_nanotime", "internal/sync.runtime_SemacquireMutex", "sync/atomic.AddInt32", "(*internal/sync.Mutex).Unlock", "internal/race.ReleaseMerge", "(*internal/sync.Mutex).unlockSlow", "internal/sync.fatal", "internal/sync.runtime_Semrelease", "sync/atomic.StoreUint32"], unfollowed := true, recurses := true, loops := true, plainKeys := false, apart := false }
def TreePushSaid : Prop := treePushRow.holds Tryz.pinned (OpenSpec.ofChange treePushSpec)

/-- ITS FALSE NEIGHBOUR: 'it returns false'. Refute it at one input. -/
def treePushWrong : ChangeSpec := { name := "treePush", fn := fun _ => fun
  | [d1, d2, d3] => { results := [.lit (.bool false)], args := [d1, d2, d3] }
  | _ => none }
def TreePushWrongFalsely : Prop := treePushRow.holds Tryz.pinned (OpenSpec.ofChange treePushWrong)

/-- 'parterrelaw20.TreeAny': WHATEVER THE INPUT: true; the input reads as it did. -/
def treeAnySpec : ChangeSpec := { name := "treeAny", fn := fun _ => fun
  | [d1, d2, d3] => { results := [.lit (.bool true)], args := [d1, d2, d3] }
  | _ => none }
def treeAnyRow : OpenClaim := { program := "ytolgpokppnajdaagreat", sum := "a8219fc36eb7daf3afba991e491cf8b3da79c82f3f25e0f4aff7cc7b276ab4dd", func := "parterre/parterrelaw20.TreeAny", spec := "treeAny", inPlace := ["sync/atomic.LoadUint32", "(*internal/sync.Mutex).Lock", "internal/race.Disable", "sync/atomic.CompareAndSwapInt32", "internal/race.Enable", "internal/race.Acquire", "(*internal/sync.Mutex).lockSlow", "internal/sync.runtime_canSpin", "internal/sync.runtime_doSpin", "internal/sync.throw", "internal/sync.runtime_nanotime", "internal/sync.runtime_SemacquireMutex", "sync/atomic.AddInt32", "(*internal/sync.Mutex).Unlock", "internal/race.ReleaseMerge", "(*internal/sync.Mutex).unlockSlow", "internal/sync.fatal", "internal/sync.runtime_Semrelease", "sync/atomic.StoreUint32"], unfollowed := true, recurses := true, loops := true, plainKeys := false, apart := false }
def TreeAnySaid : Prop := treeAnyRow.holds Tryz.pinned (OpenSpec.ofChange treeAnySpec)

/-- ITS FALSE NEIGHBOUR: 'it returns false'. Refute it at one input. -/
def treeAnyWrong : ChangeSpec := { name := "treeAny", fn := fun _ => fun
  | [d1, d2, d3] => { results := [.lit (.bool false)], args := [d1, d2, d3] }
  | _ => none }
def TreeAnyWrongFalsely : Prop := treeAnyRow.holds Tryz.pinned (OpenSpec.ofChange treeAnyWrong)

/-- 'parterrelaw20.TreeGrown': WHATEVER THE INPUT: true; the input reads as it did. -/
def treeGrownSpec : ChangeSpec := { name := "treeGrown", fn := fun _ => fun
  | [d1, d2, d3, d4, d5] => { results := [.lit (.bool true)], args := [d1, d2, d3, d4, d5] }
  | _ => none }
def treeGrownRow : OpenClaim := { program := "ytolgpokppnajdaagreat", sum := "a8219fc36eb7daf3afba991e491cf8b3da79c82f3f25e0f4aff7cc7b276ab4dd", func := "parterre/parterrelaw20.TreeGrown", spec := "treeGrown", inPlace := ["sync/atomic.LoadUint32", "(*internal/sync.Mutex).Lock", "internal/race.Disable", "sync/atomic.CompareAndSwapInt32", "internal/race.Enable", "internal/race.Acquire", "(*internal/sync.Mutex).lockSlow", "internal/sync.runtime_canSpin", "internal/sync.runtime_doSpin", "internal/sync.throw", "internal/sync.runtime_nanotime", "internal/sync.runtime_SemacquireMutex", "sync/atomic.AddInt32", "(*internal/sync.Mutex).Unlock", "internal/race.ReleaseMerge", "(*internal/sync.Mutex).unlockSlow", "internal/sync.fatal", "internal/sync.runtime_Semrelease", "sync/atomic.StoreUint32"], unfollowed := true, recurses := true, plainKeys := false, apart := false }
def TreeGrownSaid : Prop := treeGrownRow.holds Tryz.pinned (OpenSpec.ofChange treeGrownSpec)

/-- ITS FALSE NEIGHBOUR: 'it returns false'. Refute it at one input. -/
def treeGrownWrong : ChangeSpec := { name := "treeGrown", fn := fun _ => fun
  | [d1, d2, d3, d4, d5] => { results := [.lit (.bool false)], args := [d1, d2, d3, d4, d5] }
  | _ => none }
def TreeGrownWrongFalsely : Prop := treeGrownRow.holds Tryz.pinned (OpenSpec.ofChange treeGrownWrong)

/-- 'parterrelaw20.TreeSound': WHATEVER THE INPUT: true; the input reads as it did. -/
def treeSoundSpec : ChangeSpec := { name := "treeSound", fn := fun _ => fun
  | [d1, d2, d3, d4, d5] => { results := [.lit (.bool true)], args := [d1, d2, d3, d4, d5] }
  | _ => none }
def treeSoundRow : OpenClaim := { program := "ytolgpokppnajdaagreat", sum := "a8219fc36eb7daf3afba991e491cf8b3da79c82f3f25e0f4aff7cc7b276ab4dd", func := "parterre/parterrelaw20.TreeSound", spec := "treeSound", inPlace := ["sync/atomic.LoadUint32", "(*internal/sync.Mutex).Lock", "internal/race.Disable", "sync/atomic.CompareAndSwapInt32", "internal/race.Enable", "internal/race.Acquire", "(*internal/sync.Mutex).lockSlow", "internal/sync.runtime_canSpin", "internal/sync.runtime_doSpin", "internal/sync.throw", "internal/sync.runtime_nanotime", "internal/sync.runtime_SemacquireMutex", "sync/atomic.AddInt32", "(*internal/sync.Mutex).Unlock", "internal/race.ReleaseMerge", "(*internal/sync.Mutex).unlockSlow", "internal/sync.fatal", "internal/sync.runtime_Semrelease", "sync/atomic.StoreUint32"], unfollowed := true, recurses := true, loops := true, plainKeys := false, apart := false }
def TreeSoundSaid : Prop := treeSoundRow.holds Tryz.pinned (OpenSpec.ofChange treeSoundSpec)

/-- ITS FALSE NEIGHBOUR: 'it returns false'. Refute it at one input. -/
def treeSoundWrong : ChangeSpec := { name := "treeSound", fn := fun _ => fun
  | [d1, d2, d3, d4, d5] => { results := [.lit (.bool false)], args := [d1, d2, d3, d4, d5] }
  | _ => none }
def TreeSoundWrongFalsely : Prop := treeSoundRow.holds Tryz.pinned (OpenSpec.ofChange treeSoundWrong)

/-- 'parterrelaw20.TreeTruth': WHATEVER THE INPUT: true; the input reads as it did. -/
def treeTruthSpec : ChangeSpec := { name := "treeTruth", fn := fun _ => fun
  | [d1, d2] => { results := [.lit (.bool true)], args := [d1, d2] }
  | _ => none }
def treeTruthRow : OpenClaim := { program := "ytolgpokppnajdaagreat", sum := "a8219fc36eb7daf3afba991e491cf8b3da79c82f3f25e0f4aff7cc7b276ab4dd", func := "parterre/parterrelaw20.TreeTruth", spec := "treeTruth", inPlace := ["sync/atomic.LoadUint32", "(*internal/sync.Mutex).Lock", "internal/race.Disable", "sync/atomic.CompareAndSwapInt32", "internal/race.Enable", "internal/race.Acquire", "(*internal/sync.Mutex).lockSlow", "internal/sync.runtime_canSpin", "internal/sync.runtime_doSpin", "internal/sync.throw", "internal/sync.runtime_nanotime", "internal/sync.runtime_SemacquireMutex", "sync/atomic.AddInt32", "(*internal/sync.Mutex).Unlock", "internal/race.ReleaseMerge", "(*internal/sync.Mutex).unlockSlow", "internal/sync.fatal", "internal/sync.runtime_Semrelease", "sync/atomic.StoreUint32"], unfollowed := true, recurses := true, plainKeys := false, apart := false }
def TreeTruthSaid : Prop := treeTruthRow.holds Tryz.pinned (OpenSpec.ofChange treeTruthSpec)

/-- ITS FALSE NEIGHBOUR: 'it returns false'. Refute it at one input. -/
def treeTruthWrong : ChangeSpec := { name := "treeTruth", fn := fun _ => fun
  | [d1, d2] => { results := [.lit (.bool false)], args := [d1, d2] }
  | _ => none }
def TreeTruthWrongFalsely : Prop := treeTruthRow.holds Tryz.pinned (OpenSpec.ofChange treeTruthWrong)

/-- 'parterrelaw20.TreeLoops': WHATEVER THE INPUT: true; the input reads as it did. -/
def treeLoopsSpec : ChangeSpec := { name := "treeLoops", fn := fun _ => fun
  | [d1, d2, d3, d4] => { results := [.lit (.bool true)], args := [d1, d2, d3, d4] }
  | _ => none }
def treeLoopsRow : OpenClaim := { program := "ytolgpokppnajdaagreat", sum := "a8219fc36eb7daf3afba991e491cf8b3da79c82f3f25e0f4aff7cc7b276ab4dd", func := "parterre/parterrelaw20.TreeLoops", spec := "treeLoops", inPlace := ["sync/atomic.LoadUint32", "(*internal/sync.Mutex).Lock", "internal/race.Disable", "sync/atomic.CompareAndSwapInt32", "internal/race.Enable", "internal/race.Acquire", "(*internal/sync.Mutex).lockSlow", "internal/sync.runtime_canSpin", "internal/sync.runtime_doSpin", "internal/sync.throw", "internal/sync.runtime_nanotime", "internal/sync.runtime_SemacquireMutex", "sync/atomic.AddInt32", "(*internal/sync.Mutex).Unlock", "internal/race.ReleaseMerge", "(*internal/sync.Mutex).unlockSlow", "internal/sync.fatal", "internal/sync.runtime_Semrelease", "sync/atomic.StoreUint32"], unfollowed := true, recurses := true, plainKeys := false, apart := false }
def TreeLoopsSaid : Prop := treeLoopsRow.holds Tryz.pinned (OpenSpec.ofChange treeLoopsSpec)

/-- ITS FALSE NEIGHBOUR: 'it returns false'. Refute it at one input. -/
def treeLoopsWrong : ChangeSpec := { name := "treeLoops", fn := fun _ => fun
  | [d1, d2, d3, d4] => { results := [.lit (.bool false)], args := [d1, d2, d3, d4] }
  | _ => none }
def TreeLoopsWrongFalsely : Prop := treeLoopsRow.holds Tryz.pinned (OpenSpec.ofChange treeLoopsWrong)

/-- 'parterrelaw13.TruthMade': WHATEVER THE INPUT: true; the input reads as it did. -/
def truthMadeSpec : ChangeSpec := { name := "truthMade", fn := fun _ => fun
  | [d1, d2] => { results := [.lit (.bool true)], args := [d1, d2] }
  | _ => none }
def truthMadeRow : OpenClaim := { program := "ytolgpokppnajdaagreat", sum := "a8219fc36eb7daf3afba991e491cf8b3da79c82f3f25e0f4aff7cc7b276ab4dd", func := "parterre/parterrelaw13.TruthMade", spec := "truthMade", inPlace := ["sync/atomic.LoadUint32", "(*internal/sync.Mutex).Lock", "internal/race.Disable", "sync/atomic.CompareAndSwapInt32", "internal/race.Enable", "internal/race.Acquire", "(*internal/sync.Mutex).lockSlow", "internal/sync.runtime_canSpin", "internal/sync.runtime_doSpin", "internal/sync.throw", "internal/sync.runtime_nanotime", "internal/sync.runtime_SemacquireMutex", "sync/atomic.AddInt32", "(*internal/sync.Mutex).Unlock", "internal/race.ReleaseMerge", "(*internal/sync.Mutex).unlockSlow", "internal/sync.fatal", "internal/sync.runtime_Semrelease", "sync/atomic.StoreUint32"], unfollowed := true, recurses := true, plainKeys := false, apart := false }
def TruthMadeSaid : Prop := truthMadeRow.holds Tryz.pinned (OpenSpec.ofChange truthMadeSpec)

/-- ITS FALSE NEIGHBOUR: 'it returns false'. Refute it at one input. -/
def truthMadeWrong : ChangeSpec := { name := "truthMade", fn := fun _ => fun
  | [d1, d2] => { results := [.lit (.bool false)], args := [d1, d2] }
  | _ => none }
def TruthMadeWrongFalsely : Prop := truthMadeRow.holds Tryz.pinned (OpenSpec.ofChange truthMadeWrong)

/-- 'parterrelaw13.TruthOdd': WHATEVER THE INPUT: true; the input reads as it did. -/
def truthOddSpec : ChangeSpec := { name := "truthOdd", fn := fun _ => fun
  | [d1, d2, d3, d4] => { results := [.lit (.bool true)], args := [d1, d2, d3, d4] }
  | _ => none }
def truthOddRow : OpenClaim := { program := "ytolgpokppnajdaagreat", sum := "a8219fc36eb7daf3afba991e491cf8b3da79c82f3f25e0f4aff7cc7b276ab4dd", func := "parterre/parterrelaw13.TruthOdd", spec := "truthOdd", inPlace := ["sync/atomic.LoadUint32", "(*internal/sync.Mutex).Lock", "internal/race.Disable", "sync/atomic.CompareAndSwapInt32", "internal/race.Enable", "internal/race.Acquire", "(*internal/sync.Mutex).lockSlow", "internal/sync.runtime_canSpin", "internal/sync.runtime_doSpin", "internal/sync.throw", "internal/sync.runtime_nanotime", "internal/sync.runtime_SemacquireMutex", "sync/atomic.AddInt32", "(*internal/sync.Mutex).Unlock", "internal/race.ReleaseMerge", "(*internal/sync.Mutex).unlockSlow", "internal/sync.fatal", "internal/sync.runtime_Semrelease", "sync/atomic.StoreUint32"], unfollowed := true, recurses := true, plainKeys := false, apart := false }
def TruthOddSaid : Prop := truthOddRow.holds Tryz.pinned (OpenSpec.ofChange truthOddSpec)

/-- ITS FALSE NEIGHBOUR: 'it returns false'. Refute it at one input. -/
def truthOddWrong : ChangeSpec := { name := "truthOdd", fn := fun _ => fun
  | [d1, d2, d3, d4] => { results := [.lit (.bool false)], args := [d1, d2, d3, d4] }
  | _ => none }
def TruthOddWrongFalsely : Prop := truthOddRow.holds Tryz.pinned (OpenSpec.ofChange truthOddWrong)

/-- 'parterrelaw13.TruthUntil': WHATEVER THE INPUT: true; the input reads as it did. -/
def truthUntilSpec : ChangeSpec := { name := "truthUntil", fn := fun _ => fun
  | [d1, d2, d3] => { results := [.lit (.bool true)], args := [d1, d2, d3] }
  | _ => none }
def truthUntilRow : OpenClaim := { program := "ytolgpokppnajdaagreat", sum := "a8219fc36eb7daf3afba991e491cf8b3da79c82f3f25e0f4aff7cc7b276ab4dd", func := "parterre/parterrelaw13.TruthUntil", spec := "truthUntil", inPlace := ["sync/atomic.LoadUint32", "(*internal/sync.Mutex).Lock", "internal/race.Disable", "sync/atomic.CompareAndSwapInt32", "internal/race.Enable", "internal/race.Acquire", "(*internal/sync.Mutex).lockSlow", "internal/sync.runtime_canSpin", "internal/sync.runtime_doSpin", "internal/sync.throw", "internal/sync.runtime_nanotime", "internal/sync.runtime_SemacquireMutex", "sync/atomic.AddInt32", "(*internal/sync.Mutex).Unlock", "internal/race.ReleaseMerge", "(*internal/sync.Mutex).unlockSlow", "internal/sync.fatal", "internal/sync.runtime_Semrelease", "sync/atomic.StoreUint32"], unfollowed := true, recurses := true, plainKeys := false, apart := false }
def TruthUntilSaid : Prop := truthUntilRow.holds Tryz.pinned (OpenSpec.ofChange truthUntilSpec)

/-- ITS FALSE NEIGHBOUR: 'it returns false'. Refute it at one input. -/
def truthUntilWrong : ChangeSpec := { name := "truthUntil", fn := fun _ => fun
  | [d1, d2, d3] => { results := [.lit (.bool false)], args := [d1, d2, d3] }
  | _ => none }
def TruthUntilWrongFalsely : Prop := truthUntilRow.holds Tryz.pinned (OpenSpec.ofChange truthUntilWrong)

/-- 'parterrelaw13.TruthTurned': WHATEVER THE INPUT: true; the input reads as it did. -/
def truthTurnedSpec : ChangeSpec := { name := "truthTurned", fn := fun _ => fun
  | [d1, d2, d3] => { results := [.lit (.bool true)], args := [d1, d2, d3] }
  | _ => none }
def truthTurnedRow : OpenClaim := { program := "ytolgpokppnajdaagreat", sum := "a8219fc36eb7daf3afba991e491cf8b3da79c82f3f25e0f4aff7cc7b276ab4dd", func := "parterre/parterrelaw13.TruthTurned", spec := "truthTurned", inPlace := ["sync/atomic.LoadUint32", "(*internal/sync.Mutex).Lock", "internal/race.Disable", "sync/atomic.CompareAndSwapInt32", "internal/race.Enable", "internal/race.Acquire", "(*internal/sync.Mutex).lockSlow", "internal/sync.runtime_canSpin", "internal/sync.runtime_doSpin", "internal/sync.throw", "internal/sync.runtime_nanotime", "internal/sync.runtime_SemacquireMutex", "sync/atomic.AddInt32", "(*internal/sync.Mutex).Unlock", "internal/race.ReleaseMerge", "(*internal/sync.Mutex).unlockSlow", "internal/sync.fatal", "internal/sync.runtime_Semrelease", "sync/atomic.StoreUint32"], unfollowed := true, recurses := true, plainKeys := false, apart := false }
def TruthTurnedSaid : Prop := truthTurnedRow.holds Tryz.pinned (OpenSpec.ofChange truthTurnedSpec)

/-- ITS FALSE NEIGHBOUR: 'it returns false'. Refute it at one input. -/
def truthTurnedWrong : ChangeSpec := { name := "truthTurned", fn := fun _ => fun
  | [d1, d2, d3] => { results := [.lit (.bool false)], args := [d1, d2, d3] }
  | _ => none }
def TruthTurnedWrongFalsely : Prop := truthTurnedRow.holds Tryz.pinned (OpenSpec.ofChange truthTurnedWrong)

/-- 'parterrelaw13.TruthSteps': WHATEVER THE INPUT: true; the input reads as it did. -/
def truthStepsSpec : ChangeSpec := { name := "truthSteps", fn := fun _ => fun
  | [d1, d2, d3] => { results := [.lit (.bool true)], args := [d1, d2, d3] }
  | _ => none }
def truthStepsRow : OpenClaim := { program := "ytolgpokppnajdaagreat", sum := "a8219fc36eb7daf3afba991e491cf8b3da79c82f3f25e0f4aff7cc7b276ab4dd", func := "parterre/parterrelaw13.TruthSteps", spec := "truthSteps", inPlace := ["sync/atomic.LoadUint32", "(*internal/sync.Mutex).Lock", "internal/race.Disable", "sync/atomic.CompareAndSwapInt32", "internal/race.Enable", "internal/race.Acquire", "(*internal/sync.Mutex).lockSlow", "internal/sync.runtime_canSpin", "internal/sync.runtime_doSpin", "internal/sync.throw", "internal/sync.runtime_nanotime", "internal/sync.runtime_SemacquireMutex", "sync/atomic.AddInt32", "(*internal/sync.Mutex).Unlock", "internal/race.ReleaseMerge", "(*internal/sync.Mutex).unlockSlow", "internal/sync.fatal", "internal/sync.runtime_Semrelease", "sync/atomic.StoreUint32"], unfollowed := true, recurses := true, plainKeys := false, apart := false }
def TruthStepsSaid : Prop := truthStepsRow.holds Tryz.pinned (OpenSpec.ofChange truthStepsSpec)

/-- ITS FALSE NEIGHBOUR: 'it returns false'. Refute it at one input. -/
def truthStepsWrong : ChangeSpec := { name := "truthSteps", fn := fun _ => fun
  | [d1, d2, d3] => { results := [.lit (.bool false)], args := [d1, d2, d3] }
  | _ => none }
def TruthStepsWrongFalsely : Prop := truthStepsRow.holds Tryz.pinned (OpenSpec.ofChange truthStepsWrong)

/-- 'parterrelaw13.TruthKinds': WHATEVER THE INPUT: true; the input reads as it did. -/
def truthKindsSpec : ChangeSpec := { name := "truthKinds", fn := fun _ => fun
  | [d1, d2, d3, d4] => { results := [.lit (.bool true)], args := [d1, d2, d3, d4] }
  | _ => none }
def truthKindsRow : OpenClaim := { program := "ytolgpokppnajdaagreat", sum := "a8219fc36eb7daf3afba991e491cf8b3da79c82f3f25e0f4aff7cc7b276ab4dd", func := "parterre/parterrelaw13.TruthKinds", spec := "truthKinds", inPlace := ["sync/atomic.LoadUint32", "(*internal/sync.Mutex).Lock", "internal/race.Disable", "sync/atomic.CompareAndSwapInt32", "internal/race.Enable", "internal/race.Acquire", "(*internal/sync.Mutex).lockSlow", "internal/sync.runtime_canSpin", "internal/sync.runtime_doSpin", "internal/sync.throw", "internal/sync.runtime_nanotime", "internal/sync.runtime_SemacquireMutex", "sync/atomic.AddInt32", "(*internal/sync.Mutex).Unlock", "internal/race.ReleaseMerge", "(*internal/sync.Mutex).unlockSlow", "internal/sync.fatal", "internal/sync.runtime_Semrelease", "sync/atomic.StoreUint32"], unfollowed := true, recurses := true, plainKeys := false, apart := false }
def TruthKindsSaid : Prop := truthKindsRow.holds Tryz.pinned (OpenSpec.ofChange truthKindsSpec)

/-- ITS FALSE NEIGHBOUR: 'it returns false'. Refute it at one input. -/
def truthKindsWrong : ChangeSpec := { name := "truthKinds", fn := fun _ => fun
  | [d1, d2, d3, d4] => { results := [.lit (.bool false)], args := [d1, d2, d3, d4] }
  | _ => none }
def TruthKindsWrongFalsely : Prop := truthKindsRow.holds Tryz.pinned (OpenSpec.ofChange truthKindsWrong)

/-- 'parterrelaw13.TruthMore': WHATEVER THE INPUT: true; the input reads as it did. -/
def truthMoreSpec : ChangeSpec := { name := "truthMore", fn := fun _ => fun
  | [d1, d2] => { results := [.lit (.bool true)], args := [d1, d2] }
  | _ => none }
def truthMoreRow : OpenClaim := { program := "ytolgpokppnajdaagreat", sum := "a8219fc36eb7daf3afba991e491cf8b3da79c82f3f25e0f4aff7cc7b276ab4dd", func := "parterre/parterrelaw13.TruthMore", spec := "truthMore", inPlace := ["sync/atomic.LoadUint32", "(*internal/sync.Mutex).Lock", "internal/race.Disable", "sync/atomic.CompareAndSwapInt32", "internal/race.Enable", "internal/race.Acquire", "(*internal/sync.Mutex).lockSlow", "internal/sync.runtime_canSpin", "internal/sync.runtime_doSpin", "internal/sync.throw", "internal/sync.runtime_nanotime", "internal/sync.runtime_SemacquireMutex", "sync/atomic.AddInt32", "(*internal/sync.Mutex).Unlock", "internal/race.ReleaseMerge", "(*internal/sync.Mutex).unlockSlow", "internal/sync.fatal", "internal/sync.runtime_Semrelease", "sync/atomic.StoreUint32"], unfollowed := true, recurses := true, plainKeys := false, apart := false }
def TruthMoreSaid : Prop := truthMoreRow.holds Tryz.pinned (OpenSpec.ofChange truthMoreSpec)

/-- ITS FALSE NEIGHBOUR: 'it returns false'. Refute it at one input. -/
def truthMoreWrong : ChangeSpec := { name := "truthMore", fn := fun _ => fun
  | [d1, d2] => { results := [.lit (.bool false)], args := [d1, d2] }
  | _ => none }
def TruthMoreWrongFalsely : Prop := truthMoreRow.holds Tryz.pinned (OpenSpec.ofChange truthMoreWrong)

/- THE SECOND FORM. 'bulk': how many values and letters a reading holds, each counted each time it is reached (what is shared counts as often as it is met; a slice's spare places count too). A statement '..UptoSaid' is the law's where the arguments, and the package variables that the reading takes, are together of bulk at most 1048576: NARROWER than '..Said'. Prove '..Said' where nothing that the law and all that it calls make is longer than what came in: it says more and counts as full. Else prove '..UptoSaid'. A law counts once. -/
mutual
def uptoBulk {H : Type} : DataW H → Nat
  | .lit (.string bytes) => bytes.length + 1
  | .lit _ => 1
  | .nil => 1
  | .ptr d => uptoBulk d + 1
  | .slice elems spare => uptoBulkAll elems + uptoBulkAll spare + 1
  | .agg parts => uptoBulkAll parts + 1
  | .iface _ d => uptoBulk d + 1
  | .map entries => uptoBulkEntries entries + 1
  | .held _ => 1
def uptoBulkAll {H : Type} : List (DataW H) → Nat
  | [] => 0
  | d :: r => uptoBulk d + uptoBulkAll r
def uptoBulkEntries {H : Type} : List (Lit × DataW H) → Nat
  | [] => 0
  | x :: r => uptoBulkEntry x + uptoBulkEntries r
def uptoBulkEntry {H : Type} : Lit × DataW H → Nat
  | (.string bytes, d) => bytes.length + uptoBulk d + 1
  | (_, d) => uptoBulk d + 1
 end
def uptoSmall : (H : Type) → List (DataW H) → Bool := fun _ ds => decide (uptoBulkAll ds ≤ 1048576)
def OpenSpec.upto (s : _root_.Go.ChangeSpec) : _root_.Go.OpenSpec := { _root_.Go.OpenSpec.ofChange s with cond := some uptoSmall }

/-- 'parterrelaw20.TreePush', WHERE WHAT IT READS IS OF BULK AT MOST 1048576: true; the input reads as it did. -/
def treePushUptoRow : OpenClaim := { program := "ytolgpokppnajdaagreat", sum := "a8219fc36eb7daf3afba991e491cf8b3da79c82f3f25e0f4aff7cc7b276ab4dd", func := "parterre/parterrelaw20.TreePush", spec := "treePush", inPlace := ["sync/atomic.LoadUint32", "(*internal/sync.Mutex).Lock", "internal/race.Disable", "sync/atomic.CompareAndSwapInt32", "internal/race.Enable", "internal/race.Acquire", "(*internal/sync.Mutex).lockSlow", "internal/sync.runtime_canSpin", "internal/sync.runtime_doSpin", "internal/sync.throw", "internal/sync.runtime_nanotime", "internal/sync.runtime_SemacquireMutex", "sync/atomic.AddInt32", "(*internal/sync.Mutex).Unlock", "internal/race.ReleaseMerge", "(*internal/sync.Mutex).unlockSlow", "internal/sync.fatal", "internal/sync.runtime_Semrelease", "sync/atomic.StoreUint32"], unfollowed := true, recurses := true, loops := true, plainKeys := false, apart := false, narrowed := true }
def TreePushUptoSaid : Prop := treePushUptoRow.holds Tryz.pinned (OpenSpec.upto treePushSpec)

/-- 'parterrelaw20.TreeAny', WHERE WHAT IT READS IS OF BULK AT MOST 1048576: true; the input reads as it did. -/
def treeAnyUptoRow : OpenClaim := { program := "ytolgpokppnajdaagreat", sum := "a8219fc36eb7daf3afba991e491cf8b3da79c82f3f25e0f4aff7cc7b276ab4dd", func := "parterre/parterrelaw20.TreeAny", spec := "treeAny", inPlace := ["sync/atomic.LoadUint32", "(*internal/sync.Mutex).Lock", "internal/race.Disable", "sync/atomic.CompareAndSwapInt32", "internal/race.Enable", "internal/race.Acquire", "(*internal/sync.Mutex).lockSlow", "internal/sync.runtime_canSpin", "internal/sync.runtime_doSpin", "internal/sync.throw", "internal/sync.runtime_nanotime", "internal/sync.runtime_SemacquireMutex", "sync/atomic.AddInt32", "(*internal/sync.Mutex).Unlock", "internal/race.ReleaseMerge", "(*internal/sync.Mutex).unlockSlow", "internal/sync.fatal", "internal/sync.runtime_Semrelease", "sync/atomic.StoreUint32"], unfollowed := true, recurses := true, loops := true, plainKeys := false, apart := false, narrowed := true }
def TreeAnyUptoSaid : Prop := treeAnyUptoRow.holds Tryz.pinned (OpenSpec.upto treeAnySpec)

/-- 'parterrelaw20.TreeGrown', WHERE WHAT IT READS IS OF BULK AT MOST 1048576: true; the input reads as it did. -/
def treeGrownUptoRow : OpenClaim := { program := "ytolgpokppnajdaagreat", sum := "a8219fc36eb7daf3afba991e491cf8b3da79c82f3f25e0f4aff7cc7b276ab4dd", func := "parterre/parterrelaw20.TreeGrown", spec := "treeGrown", inPlace := ["sync/atomic.LoadUint32", "(*internal/sync.Mutex).Lock", "internal/race.Disable", "sync/atomic.CompareAndSwapInt32", "internal/race.Enable", "internal/race.Acquire", "(*internal/sync.Mutex).lockSlow", "internal/sync.runtime_canSpin", "internal/sync.runtime_doSpin", "internal/sync.throw", "internal/sync.runtime_nanotime", "internal/sync.runtime_SemacquireMutex", "sync/atomic.AddInt32", "(*internal/sync.Mutex).Unlock", "internal/race.ReleaseMerge", "(*internal/sync.Mutex).unlockSlow", "internal/sync.fatal", "internal/sync.runtime_Semrelease", "sync/atomic.StoreUint32"], unfollowed := true, recurses := true, plainKeys := false, apart := false, narrowed := true }
def TreeGrownUptoSaid : Prop := treeGrownUptoRow.holds Tryz.pinned (OpenSpec.upto treeGrownSpec)

/-- 'parterrelaw20.TreeSound', WHERE WHAT IT READS IS OF BULK AT MOST 1048576: true; the input reads as it did. -/
def treeSoundUptoRow : OpenClaim := { program := "ytolgpokppnajdaagreat", sum := "a8219fc36eb7daf3afba991e491cf8b3da79c82f3f25e0f4aff7cc7b276ab4dd", func := "parterre/parterrelaw20.TreeSound", spec := "treeSound", inPlace := ["sync/atomic.LoadUint32", "(*internal/sync.Mutex).Lock", "internal/race.Disable", "sync/atomic.CompareAndSwapInt32", "internal/race.Enable", "internal/race.Acquire", "(*internal/sync.Mutex).lockSlow", "internal/sync.runtime_canSpin", "internal/sync.runtime_doSpin", "internal/sync.throw", "internal/sync.runtime_nanotime", "internal/sync.runtime_SemacquireMutex", "sync/atomic.AddInt32", "(*internal/sync.Mutex).Unlock", "internal/race.ReleaseMerge", "(*internal/sync.Mutex).unlockSlow", "internal/sync.fatal", "internal/sync.runtime_Semrelease", "sync/atomic.StoreUint32"], unfollowed := true, recurses := true, loops := true, plainKeys := false, apart := false, narrowed := true }
def TreeSoundUptoSaid : Prop := treeSoundUptoRow.holds Tryz.pinned (OpenSpec.upto treeSoundSpec)

/-- 'parterrelaw20.TreeTruth', WHERE WHAT IT READS IS OF BULK AT MOST 1048576: true; the input reads as it did. -/
def treeTruthUptoRow : OpenClaim := { program := "ytolgpokppnajdaagreat", sum := "a8219fc36eb7daf3afba991e491cf8b3da79c82f3f25e0f4aff7cc7b276ab4dd", func := "parterre/parterrelaw20.TreeTruth", spec := "treeTruth", inPlace := ["sync/atomic.LoadUint32", "(*internal/sync.Mutex).Lock", "internal/race.Disable", "sync/atomic.CompareAndSwapInt32", "internal/race.Enable", "internal/race.Acquire", "(*internal/sync.Mutex).lockSlow", "internal/sync.runtime_canSpin", "internal/sync.runtime_doSpin", "internal/sync.throw", "internal/sync.runtime_nanotime", "internal/sync.runtime_SemacquireMutex", "sync/atomic.AddInt32", "(*internal/sync.Mutex).Unlock", "internal/race.ReleaseMerge", "(*internal/sync.Mutex).unlockSlow", "internal/sync.fatal", "internal/sync.runtime_Semrelease", "sync/atomic.StoreUint32"], unfollowed := true, recurses := true, plainKeys := false, apart := false, narrowed := true }
def TreeTruthUptoSaid : Prop := treeTruthUptoRow.holds Tryz.pinned (OpenSpec.upto treeTruthSpec)

/-- 'parterrelaw20.TreeLoops', WHERE WHAT IT READS IS OF BULK AT MOST 1048576: true; the input reads as it did. -/
def treeLoopsUptoRow : OpenClaim := { program := "ytolgpokppnajdaagreat", sum := "a8219fc36eb7daf3afba991e491cf8b3da79c82f3f25e0f4aff7cc7b276ab4dd", func := "parterre/parterrelaw20.TreeLoops", spec := "treeLoops", inPlace := ["sync/atomic.LoadUint32", "(*internal/sync.Mutex).Lock", "internal/race.Disable", "sync/atomic.CompareAndSwapInt32", "internal/race.Enable", "internal/race.Acquire", "(*internal/sync.Mutex).lockSlow", "internal/sync.runtime_canSpin", "internal/sync.runtime_doSpin", "internal/sync.throw", "internal/sync.runtime_nanotime", "internal/sync.runtime_SemacquireMutex", "sync/atomic.AddInt32", "(*internal/sync.Mutex).Unlock", "internal/race.ReleaseMerge", "(*internal/sync.Mutex).unlockSlow", "internal/sync.fatal", "internal/sync.runtime_Semrelease", "sync/atomic.StoreUint32"], unfollowed := true, recurses := true, plainKeys := false, apart := false, narrowed := true }
def TreeLoopsUptoSaid : Prop := treeLoopsUptoRow.holds Tryz.pinned (OpenSpec.upto treeLoopsSpec)

/-- 'parterrelaw13.TruthMade', WHERE WHAT IT READS IS OF BULK AT MOST 1048576: true; the input reads as it did. -/
def truthMadeUptoRow : OpenClaim := { program := "ytolgpokppnajdaagreat", sum := "a8219fc36eb7daf3afba991e491cf8b3da79c82f3f25e0f4aff7cc7b276ab4dd", func := "parterre/parterrelaw13.TruthMade", spec := "truthMade", inPlace := ["sync/atomic.LoadUint32", "(*internal/sync.Mutex).Lock", "internal/race.Disable", "sync/atomic.CompareAndSwapInt32", "internal/race.Enable", "internal/race.Acquire", "(*internal/sync.Mutex).lockSlow", "internal/sync.runtime_canSpin", "internal/sync.runtime_doSpin", "internal/sync.throw", "internal/sync.runtime_nanotime", "internal/sync.runtime_SemacquireMutex", "sync/atomic.AddInt32", "(*internal/sync.Mutex).Unlock", "internal/race.ReleaseMerge", "(*internal/sync.Mutex).unlockSlow", "internal/sync.fatal", "internal/sync.runtime_Semrelease", "sync/atomic.StoreUint32"], unfollowed := true, recurses := true, plainKeys := false, apart := false, narrowed := true }
def TruthMadeUptoSaid : Prop := truthMadeUptoRow.holds Tryz.pinned (OpenSpec.upto truthMadeSpec)

/-- 'parterrelaw13.TruthOdd', WHERE WHAT IT READS IS OF BULK AT MOST 1048576: true; the input reads as it did. -/
def truthOddUptoRow : OpenClaim := { program := "ytolgpokppnajdaagreat", sum := "a8219fc36eb7daf3afba991e491cf8b3da79c82f3f25e0f4aff7cc7b276ab4dd", func := "parterre/parterrelaw13.TruthOdd", spec := "truthOdd", inPlace := ["sync/atomic.LoadUint32", "(*internal/sync.Mutex).Lock", "internal/race.Disable", "sync/atomic.CompareAndSwapInt32", "internal/race.Enable", "internal/race.Acquire", "(*internal/sync.Mutex).lockSlow", "internal/sync.runtime_canSpin", "internal/sync.runtime_doSpin", "internal/sync.throw", "internal/sync.runtime_nanotime", "internal/sync.runtime_SemacquireMutex", "sync/atomic.AddInt32", "(*internal/sync.Mutex).Unlock", "internal/race.ReleaseMerge", "(*internal/sync.Mutex).unlockSlow", "internal/sync.fatal", "internal/sync.runtime_Semrelease", "sync/atomic.StoreUint32"], unfollowed := true, recurses := true, plainKeys := false, apart := false, narrowed := true }
def TruthOddUptoSaid : Prop := truthOddUptoRow.holds Tryz.pinned (OpenSpec.upto truthOddSpec)

/-- 'parterrelaw13.TruthUntil', WHERE WHAT IT READS IS OF BULK AT MOST 1048576: true; the input reads as it did. -/
def truthUntilUptoRow : OpenClaim := { program := "ytolgpokppnajdaagreat", sum := "a8219fc36eb7daf3afba991e491cf8b3da79c82f3f25e0f4aff7cc7b276ab4dd", func := "parterre/parterrelaw13.TruthUntil", spec := "truthUntil", inPlace := ["sync/atomic.LoadUint32", "(*internal/sync.Mutex).Lock", "internal/race.Disable", "sync/atomic.CompareAndSwapInt32", "internal/race.Enable", "internal/race.Acquire", "(*internal/sync.Mutex).lockSlow", "internal/sync.runtime_canSpin", "internal/sync.runtime_doSpin", "internal/sync.throw", "internal/sync.runtime_nanotime", "internal/sync.runtime_SemacquireMutex", "sync/atomic.AddInt32", "(*internal/sync.Mutex).Unlock", "internal/race.ReleaseMerge", "(*internal/sync.Mutex).unlockSlow", "internal/sync.fatal", "internal/sync.runtime_Semrelease", "sync/atomic.StoreUint32"], unfollowed := true, recurses := true, plainKeys := false, apart := false, narrowed := true }
def TruthUntilUptoSaid : Prop := truthUntilUptoRow.holds Tryz.pinned (OpenSpec.upto truthUntilSpec)

/-- 'parterrelaw13.TruthTurned', WHERE WHAT IT READS IS OF BULK AT MOST 1048576: true; the input reads as it did. -/
def truthTurnedUptoRow : OpenClaim := { program := "ytolgpokppnajdaagreat", sum := "a8219fc36eb7daf3afba991e491cf8b3da79c82f3f25e0f4aff7cc7b276ab4dd", func := "parterre/parterrelaw13.TruthTurned", spec := "truthTurned", inPlace := ["sync/atomic.LoadUint32", "(*internal/sync.Mutex).Lock", "internal/race.Disable", "sync/atomic.CompareAndSwapInt32", "internal/race.Enable", "internal/race.Acquire", "(*internal/sync.Mutex).lockSlow", "internal/sync.runtime_canSpin", "internal/sync.runtime_doSpin", "internal/sync.throw", "internal/sync.runtime_nanotime", "internal/sync.runtime_SemacquireMutex", "sync/atomic.AddInt32", "(*internal/sync.Mutex).Unlock", "internal/race.ReleaseMerge", "(*internal/sync.Mutex).unlockSlow", "internal/sync.fatal", "internal/sync.runtime_Semrelease", "sync/atomic.StoreUint32"], unfollowed := true, recurses := true, plainKeys := false, apart := false, narrowed := true }
def TruthTurnedUptoSaid : Prop := truthTurnedUptoRow.holds Tryz.pinned (OpenSpec.upto truthTurnedSpec)

/-- 'parterrelaw13.TruthSteps', WHERE WHAT IT READS IS OF BULK AT MOST 1048576: true; the input reads as it did. -/
def truthStepsUptoRow : OpenClaim := { program := "ytolgpokppnajdaagreat", sum := "a8219fc36eb7daf3afba991e491cf8b3da79c82f3f25e0f4aff7cc7b276ab4dd", func := "parterre/parterrelaw13.TruthSteps", spec := "truthSteps", inPlace := ["sync/atomic.LoadUint32", "(*internal/sync.Mutex).Lock", "internal/race.Disable", "sync/atomic.CompareAndSwapInt32", "internal/race.Enable", "internal/race.Acquire", "(*internal/sync.Mutex).lockSlow", "internal/sync.runtime_canSpin", "internal/sync.runtime_doSpin", "internal/sync.throw", "internal/sync.runtime_nanotime", "internal/sync.runtime_SemacquireMutex", "sync/atomic.AddInt32", "(*internal/sync.Mutex).Unlock", "internal/race.ReleaseMerge", "(*internal/sync.Mutex).unlockSlow", "internal/sync.fatal", "internal/sync.runtime_Semrelease", "sync/atomic.StoreUint32"], unfollowed := true, recurses := true, plainKeys := false, apart := false, narrowed := true }
def TruthStepsUptoSaid : Prop := truthStepsUptoRow.holds Tryz.pinned (OpenSpec.upto truthStepsSpec)

/-- 'parterrelaw13.TruthKinds', WHERE WHAT IT READS IS OF BULK AT MOST 1048576: true; the input reads as it did. -/
def truthKindsUptoRow : OpenClaim := { program := "ytolgpokppnajdaagreat", sum := "a8219fc36eb7daf3afba991e491cf8b3da79c82f3f25e0f4aff7cc7b276ab4dd", func := "parterre/parterrelaw13.TruthKinds", spec := "truthKinds", inPlace := ["sync/atomic.LoadUint32", "(*internal/sync.Mutex).Lock", "internal/race.Disable", "sync/atomic.CompareAndSwapInt32", "internal/race.Enable", "internal/race.Acquire", "(*internal/sync.Mutex).lockSlow", "internal/sync.runtime_canSpin", "internal/sync.runtime_doSpin", "internal/sync.throw", "internal/sync.runtime_nanotime", "internal/sync.runtime_SemacquireMutex", "sync/atomic.AddInt32", "(*internal/sync.Mutex).Unlock", "internal/race.ReleaseMerge", "(*internal/sync.Mutex).unlockSlow", "internal/sync.fatal", "internal/sync.runtime_Semrelease", "sync/atomic.StoreUint32"], unfollowed := true, recurses := true, plainKeys := false, apart := false, narrowed := true }
def TruthKindsUptoSaid : Prop := truthKindsUptoRow.holds Tryz.pinned (OpenSpec.upto truthKindsSpec)

/-- 'parterrelaw13.TruthMore', WHERE WHAT IT READS IS OF BULK AT MOST 1048576: true; the input reads as it did. -/
def truthMoreUptoRow : OpenClaim := { program := "ytolgpokppnajdaagreat", sum := "a8219fc36eb7daf3afba991e491cf8b3da79c82f3f25e0f4aff7cc7b276ab4dd", func := "parterre/parterrelaw13.TruthMore", spec := "truthMore", inPlace := ["sync/atomic.LoadUint32", "(*internal/sync.Mutex).Lock", "internal/race.Disable", "sync/atomic.CompareAndSwapInt32", "internal/race.Enable", "internal/race.Acquire", "(*internal/sync.Mutex).lockSlow", "internal/sync.runtime_canSpin", "internal/sync.runtime_doSpin", "internal/sync.throw", "internal/sync.runtime_nanotime", "internal/sync.runtime_SemacquireMutex", "sync/atomic.AddInt32", "(*internal/sync.Mutex).Unlock", "internal/race.ReleaseMerge", "(*internal/sync.Mutex).unlockSlow", "internal/sync.fatal", "internal/sync.runtime_Semrelease", "sync/atomic.StoreUint32"], unfollowed := true, recurses := true, plainKeys := false, apart := false, narrowed := true }
def TruthMoreUptoSaid : Prop := truthMoreUptoRow.holds Tryz.pinned (OpenSpec.upto truthMoreSpec)

end Rows
end Go.Proofs.YtolgpokppnajdaaGreat

/- Witness -/
import Derived.Test.YteooinddnfbglaaGreatDoorTie
import Derived.Test.YteooinddnfbglaaGreatDoorCards
import Derived.OpenShut
import Derived.ChangeOld
import Derived.JoinedOf
import Derived.KernelRfl
namespace Go.Proofs.YteooinddnfbglaaGreatDoor.G
open Go
theorem and2_witnessOdd{a b:Bool}(h:a=true)(k:b=true):(a && b)=true:=by rw[h,k];rfl
set_option maxHeartbeats 1000000000 in
theorem joined_witnessOdd:joinedFacts Tryz.pinned.checked.prog 3 Tryz.f3 Rows.witnessOddSpec Rows.witnessOddRow=true:=by
 unfold joinedFacts
 repeat' (with_reducible refine and2_witnessOdd ?_ ?_)
 all_goals (as_aux_lemma=>kernel_rfl)
end Go.Proofs.YteooinddnfbglaaGreatDoor.G

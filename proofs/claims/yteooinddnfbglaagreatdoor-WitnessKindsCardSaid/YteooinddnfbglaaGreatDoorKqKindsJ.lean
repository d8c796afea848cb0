/- Witness -/
import Derived.Test.YteooinddnfbglaaGreatDoorTie
import Derived.Test.YteooinddnfbglaaGreatDoorCards
import Derived.OpenShut
import Derived.ChangeOld
import Derived.JoinedOf
import Derived.KernelRfl
namespace Go.Proofs.YteooinddnfbglaaGreatDoor.G
open Go
theorem and2_witnessKinds{a b:Bool}(h:a=true)(k:b=true):(a && b)=true:=by rw[h,k];rfl
set_option maxHeartbeats 1000000000 in
theorem joined_witnessKinds:joinedFacts Tryz.pinned.checked.prog 4 Tryz.f4 Rows.witnessKindsSpec Rows.witnessKindsRow=true:=by
 unfold joinedFacts
 repeat' (with_reducible refine and2_witnessKinds ?_ ?_)
 all_goals (as_aux_lemma=>kernel_rfl)
end Go.Proofs.YteooinddnfbglaaGreatDoor.G

/- Witness -/
import Derived.Test.YteooinddnfbglaaGreatDoorTie
import Derived.Test.YteooinddnfbglaaGreatDoorCards
import Derived.OpenShut
import Derived.ChangeOld
import Derived.JoinedOf
import Derived.KernelRfl
namespace Go.Proofs.YteooinddnfbglaaGreatDoor.G
open Go
theorem and2_witnessEither{a b:Bool}(h:a=true)(k:b=true):(a && b)=true:=by rw[h,k];rfl
set_option maxHeartbeats 1000000000 in
theorem joined_witnessEither:joinedFacts Tryz.pinned.checked.prog 5 Tryz.f5 Rows.witnessEitherSpec Rows.witnessEitherRow=true:=by
 unfold joinedFacts
 repeat' (with_reducible refine and2_witnessEither ?_ ?_)
 all_goals (as_aux_lemma=>kernel_rfl)
end Go.Proofs.YteooinddnfbglaaGreatDoor.G

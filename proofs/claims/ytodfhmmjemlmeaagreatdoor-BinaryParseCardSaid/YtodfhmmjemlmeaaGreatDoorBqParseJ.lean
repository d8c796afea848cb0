/- Binary -/
import Derived.Test.YtodfhmmjemlmeaaGreatDoorTie
import Derived.Test.YtodfhmmjemlmeaaGreatDoorCards
import Derived.OpenShut
import Derived.ChangeOld
import Derived.JoinedOf
import Derived.KernelRfl
namespace Go.Proofs.YtodfhmmjemlmeaaGreatDoor.G
open Go
theorem and2_binaryParse {a b : Bool} (h : a = true) (k : b = true) : (a && b) = true := by rw [h, k]; rfl
set_option maxHeartbeats 1000000000 in
theorem joined_binaryParse : joinedFacts Tryz.pinned.checked.prog 11 Tryz.f11 Rows.binaryParseSpec Rows.binaryParseRow = true := by
  unfold joinedFacts
  repeat' (with_reducible refine and2_binaryParse ?_ ?_)
  all_goals (as_aux_lemma => kernel_rfl)
end Go.Proofs.YtodfhmmjemlmeaaGreatDoor.G

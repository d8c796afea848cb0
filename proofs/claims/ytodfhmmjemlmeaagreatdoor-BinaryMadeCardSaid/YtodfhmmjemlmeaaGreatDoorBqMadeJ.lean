/- Binary -/
import Derived.Test.YtodfhmmjemlmeaaGreatDoorTie
import Derived.Test.YtodfhmmjemlmeaaGreatDoorCards
import Derived.OpenShut
import Derived.ChangeOld
import Derived.JoinedOf
import Derived.KernelRfl
namespace Go.Proofs.YtodfhmmjemlmeaaGreatDoor.G
open Go
theorem and2_binaryMade {a b : Bool} (h : a = true) (k : b = true) : (a && b) = true := by rw [h, k]; rfl
set_option maxHeartbeats 1000000000 in
theorem joined_binaryMade : joinedFacts Tryz.pinned.checked.prog 12 Tryz.f12 Rows.binaryMadeSpec Rows.binaryMadeRow = true := by
  unfold joinedFacts
  repeat' (with_reducible refine and2_binaryMade ?_ ?_)
  all_goals (as_aux_lemma => kernel_rfl)
end Go.Proofs.YtodfhmmjemlmeaaGreatDoor.G

/- THE WALK BY RECKONING, 22: what the law's 'same' gives, by the kernel. No condition. -/
import Derived.Test.YtlpjmjielpdhiaaGreatDoorG2
set_option maxRecDepth 100000
namespace Go.Proofs.YtlpjmjielpdhiaaGreatDoor
namespace Ex
open Go Go.RowKit
def trueOk : Option (AV × St) → Bool
  | some (v, _) => v.same (.prim (.bool true))
  | none => false
theorem same_chk : trueOk (exCall Tryz.prog [189] 100 11 30 4 .nil ⟨Tr.mk 11, 0⟩) = true := by kernel_rfl
end Ex
end Go.Proofs.YtlpjmjielpdhiaaGreatDoor

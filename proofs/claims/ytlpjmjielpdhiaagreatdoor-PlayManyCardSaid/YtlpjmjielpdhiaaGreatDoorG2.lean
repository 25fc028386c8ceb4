/- THE WALK BY RECKONING, 21: what the program's closed calls give, by the kernel. No condition. -/
import Derived.Test.YtlpjmjielpdhiaaGreatDoorG1
import Derived.Test.YtlpjmjielpdhiaaGreatDoorRows
set_option maxRecDepth 100000
namespace Go.Proofs.YtlpjmjielpdhiaaGreatDoor
namespace Ex
open Go Go.RowKit

theorem mixed : Tryz.prog.follows .mixedOrders = true := by kernel_rfl
theorem ids_ok : IdsOk Tryz.prog [189] := by
  intro f hf x w
  have : f = 189 := by simpa using hf
  subst this
  show (callFunc 189 #[x]).run Tryz.prog w = .ok (.value x) w
  kernel_rfl

/-- a session that holds nothing -/
def hpS : Tr Blk := ((((((Tr.mk 5).set 4 (some (.cells 3 1 (.cons (.prim (.int .i64 0)) .nil) 1 true))).set 5 (some (.cells 61 3 (.cons (.ptr 3 0) (.cons (.sl 4 0 1 (.ex 1)) (.cons (.prim (.slice none 0 0)) .nil))) 0 true))).set 0
  (some (.map [(.prim (.int .i64 0), .ptr 2 0, 0)] 1))).set 1 (some (.cells 120 6 (.cons (.prim (.int .i64 0)) (.cons (.prim (.pointer none)) (.cons (.prim (.pointer none)) (.cons (.prim (.pointer none)) (.cons (.prim (.pointer none)) (.cons (.prim (.pointer none)) .nil)))))) 0 true))).set 2
  (some (.cells 82 5 (.cons (.ptr 1 0) (.cons (.str []) (.cons (.str []) (.cons (.str []) (.cons (.prim (.slice none 0 0)) .nil))))) 0 true))).set 3 (some (.cells 85 2 (.cons (.mp 0) (.cons (.prim (.int .i64 1)) .nil)) 0 true))
def cmdA : AV := .cons (.prim (.int .i64 5)) (.cons (.prim (.int .i64 0)) (.cons (.str []) (.cons (.str []) (.cons (.str []) (.cons (.prim (.slice none 0 0)) (.cons (.prim (.slice none 0 0)) (.cons (.prim (.slice none 0 0)) (.cons (.str []) .nil))))))))
def cmdL : List Value := [.int .i64 5, .int .i64 0, .string ⟨#[]⟩, .string ⟨#[]⟩, .string ⟨#[]⟩, .slice none 0 0, .slice none 0 0, .slice none 0 0, .string ⟨#[]⟩]

def newOk : Option (AV × St) → Bool
  | some (v, s) => v.same (.ptr 5 0) && s.hp.same Blk.same hpS && Nat.beq s.nx 6
  | none => false
theorem new_chk : newOk (exCall Tryz.prog [189] 100 5 30 7 (.cons (.prim (.int .i64 1)) .nil) ⟨Tr.mk 5, 0⟩) = true := by kernel_rfl
def askOk : Option (AV × St) → Bool
  | some (v, _) => v.same (.ifc 54 (.agg cmdA))
  | none => false
theorem ask_chk : askOk (exCall Tryz.prog [189] 100 5 30 8 (.cons (.agg cmdA) .nil) ⟨Tr.mk 5, 0⟩) = true := by kernel_rfl
def ansA : AV := .agg (.cons (.prim (.int .i64 0)) (.cons (.prim (.int .i64 0)) (.cons (.prim (.int .i64 0)) (.cons (.prim (.int .i64 0)) (.cons (.prim (.int .i64 0)) (.cons (.prim (.int .i64 0)) (.cons (.prim (.int .i64 0)) (.cons (.prim (.int .i64 0))
  (.cons (.prim (.slice none 0 0)) (.cons (.prim (.slice none 0 0)) (.cons (.prim (.int .i64 0)) (.cons (.prim (.int .i64 0)) (.cons (.prim (.int .i64 0)) (.cons (.prim (.int .i64 0)) (.cons (.prim (.int .i64 0)) (.cons (.prim (.slice none 0 0)) (.cons (.str []) .nil)))))))))))))))))
def doOk : Option (AV × St) → Bool
  | some (v, s) => v.same ansA && held hpS s.hp [0, 1, 2, 3, 4, 5]
  | none => false
theorem do_chk : doOk (exCall Tryz.prog [189] 100 5 30 10 (.cons (.agg cmdA) (.cons (.ptr 5 0) .nil)) ⟨hpS, 6⟩) = true := by kernel_rfl
theorem tightS : hpS.all Blk.tight = true := by kernel_rfl
end Ex
end Go.Proofs.YtlpjmjielpdhiaaGreatDoor

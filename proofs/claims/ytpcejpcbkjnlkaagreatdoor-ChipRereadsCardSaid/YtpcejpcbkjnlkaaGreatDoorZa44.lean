/- stands returns true, from every world. Printed by gen_stands.py. -/
import Derived.Test.YtpcejpcbkjnlkaaGreatDoorZa39
import Derived.Test.YtpcejpcbkjnlkaaGreatDoorZa40
import Derived.Test.YtpcejpcbkjnlkaaGreatDoorZa16
import Derived.Test.YtpcejpcbkjnlkaaGreatDoorZa43
set_option linter.unusedVariables false
namespace Go.Proofs.YtpcejpcbkjnlkaaGreatDoor.AE
open Go.RowKit
set_option maxRecDepth 1000000
theorem idle_ok : IdleOk Tryz.prog idleF := fun f hf p w => by
  obtain rfl : f = 365 := Nat.eq_of_beq_eq_true hf
  exact shape_idle p w
theorem sums0_ok : CallsOk Tryz.prog 0 sums0 :=
  orCall_ok (toldSeq_ok fun w a l k b A C hb hc => seq_any w a l k b A C hb hc) (toldLaid_ok fun w b s => laid_any w b s)
theorem sums1_ok : CallsOk Tryz.prog 0 sums1 := orCall_ok (Memo.ok (callN_ok (lf := 1000) names_ok mixed idle_ok sums0_ok 20) m1_true) sums0_ok
theorem sums2_ok : CallsOk Tryz.prog 0 sums2 := orCall_ok (Memo.ok (callN_ok (lf := 1000) names_ok mixed idle_ok sums1_ok 20) m2_true) sums1_ok
theorem sums3_ok : CallsOk Tryz.prog 0 sums3 := orCall_ok (Memo.ok (callN_ok (lf := 1000) names_ok mixed idle_ok sums2_ok 20) m3_true) sums2_ok
theorem sums4_ok : CallsOk Tryz.prog 0 sums4 := orCall_ok (Memo.ok (callN_ok (lf := 1000) names_ok mixed idle_ok sums3_ok 20) m4_true) sums3_ok
theorem stands_any (w : World) : Calls Tryz.prog 12 #[] w fun e w' => e = .returned (.bool true) ∧ Below w.heap.size w w' := by
  obtain ⟨H', c', R, W, h⟩ := isTrue_ok stands_true
  exact call_closed (lf := 1000) names_ok mixed idle_ok sums4_ok h rfl rfl w
#print axioms stands_any
end Go.Proofs.YtpcejpcbkjnlkaaGreatDoor.AE

/- stands by computing: the whole. Printed by gen_stands.py. stands by computing: weftworks/graph.Eval. Printed by gen_stands.py. stands by computing: weftworks/opt.Default. Printed by gen_stands.py. stands by computing: weftworks/loops.Lower. Printed by gen_stands.py. stands by computing: weftworks/chip.Generate. Printed by gen_stands.py. -/
import Derived.Test.YtpcejpcbkjnlkaaGreatDoorZa42
import Derived.KernelRfl
set_option linter.unusedVariables false
namespace Go.Proofs.YtpcejpcbkjnlkaaGreatDoor.AE
open Go.RowKit
set_option maxRecDepth 1000000
theorem stands_true : isTrue (callN Tryz.prog idleF 0 1000 sums4 20 12 [] .nil 0) = true := by kernel_rfl
end Go.Proofs.YtpcejpcbkjnlkaaGreatDoor.AE

namespace Go.Proofs.YtpcejpcbkjnlkaaGreatDoor.AE
open Go.RowKit
set_option maxRecDepth 1000000
theorem m1_true : m1.check (callN Tryz.prog idleF 0 1000 sums0 20 m1.f m1.args m1.heap m1.c) = true := by kernel_rfl
end Go.Proofs.YtpcejpcbkjnlkaaGreatDoor.AE

namespace Go.Proofs.YtpcejpcbkjnlkaaGreatDoor.AE
open Go.RowKit
set_option maxRecDepth 1000000
theorem m2_true : m2.check (callN Tryz.prog idleF 0 1000 sums1 20 m2.f m2.args m2.heap m2.c) = true := by kernel_rfl
end Go.Proofs.YtpcejpcbkjnlkaaGreatDoor.AE

namespace Go.Proofs.YtpcejpcbkjnlkaaGreatDoor.AE
open Go.RowKit
set_option maxRecDepth 1000000
theorem m3_true : m3.check (callN Tryz.prog idleF 0 1000 sums2 20 m3.f m3.args m3.heap m3.c) = true := by kernel_rfl
end Go.Proofs.YtpcejpcbkjnlkaaGreatDoor.AE

namespace Go.Proofs.YtpcejpcbkjnlkaaGreatDoor.AE
open Go.RowKit
set_option maxRecDepth 1000000
theorem m4_true : m4.check (callN Tryz.prog idleF 0 1000 sums3 20 m4.f m4.args m4.heap m4.c) = true := by kernel_rfl
end Go.Proofs.YtpcejpcbkjnlkaaGreatDoor.AE

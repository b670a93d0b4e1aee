/- ChipRereads: no body of the program starts a goroutine. -/
import Derived.Test.YtpcejpcbkjnlkaaGreatDoorRows
import GoSem.ClaimGoes
import Derived.KernelRfl
namespace Go.Proofs.YtpcejpcbkjnlkaaGreatDoor.chipRereads
theorem all_stay : (Tryz.prog.funcs.toList.all fun fn => !fn.goes) = true := by kernel_rfl
theorem stays (P : Program) (h : (P.funcs.toList.all fun fn => !fn.goes) = true) (f : FuncId) : P.goes f = false := by
  have hm : ∀ fn ∈ P.funcs.toList, fn.goes = false := fun fn hf => by
    have := List.all_eq_true.1 h fn hf
    simpa using this
  unfold Program.goes
  rw [Bool.or_eq_false_iff]
  constructor
  · rw [List.any_eq_false]
    intro g _
    cases hg : P.funcs[g]? with
    | none => simp
    | some fn =>
      have hin : fn ∈ P.funcs.toList := by
        have := Array.mem_of_getElem? hg
        simpa using this
      simp [hm fn hin]
  · rw [Bool.and_eq_false_iff]
    right
    rw [← Array.any_toList, List.any_eq_false]
    intro fn hf
    simp [hm fn hf]
theorem goes_no : false = Rows.chipRereadsRow.goesBy Tryz.pinned.checked.prog := by
  have hf : Tryz.pinned.checked.prog.goes = fun _ => false := funext fun f => stays Tryz.prog all_stay f
  unfold OpenClaim.goesBy Program.goesAt Program.goesFrom
  rw [hf, show Rows.chipRereadsRow.start = Start.entering from rfl]
  cases Tryz.pinned.checked.prog.funcNamed Rows.chipRereadsRow.func <;> rfl
end Go.Proofs.YtpcejpcbkjnlkaaGreatDoor.chipRereads

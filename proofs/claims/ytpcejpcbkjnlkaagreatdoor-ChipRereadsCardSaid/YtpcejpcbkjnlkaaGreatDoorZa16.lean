/- Computing with open numbers: what a closed call gives. -/
import Derived.Test.YtpcejpcbkjnlkaaGreatDoorZa7
import Derived.Test.YtpcejpcbkjnlkaaGreatDoorZa15
import Derived.KernelRfl
set_option linter.unusedVariables false
namespace Go.Proofs.YtpcejpcbkjnlkaaGreatDoor
open Go.RowKit
def Frm.cells (f : Frm) : Array Value := #[.string ⟨f.word.toArray⟩, .bool f.k, .int .i64 f.d, .int .i64 f.a, .int .i64 f.b, .int .i64 f.c, .int .i64 f.n, .int .i64 f.m, .bool f.p]
theorem args_range {k : Int} (h : 0 < argsF k) : 4 ≤ k ∧ k ≤ 15 := by
  unfold argsF at h
  split at h
  · omega
  split at h
  · omega
  split at h
  · omega
  · omega
end Go.Proofs.YtpcejpcbkjnlkaaGreatDoor
namespace Go.Proofs.YtpcejpcbkjnlkaaGreatDoor.AE
open Go.RowKit
set_option maxRecDepth 1000000
def idle0 : FuncId → Bool := fun _ => false
theorem idle0_ok : IdleOk Tryz.prog idle0 := fun f hf => by cases hf
def noGo (l : List Func) : Bool := l.all fun fn => !(fn.body.isSome && fn.name == "runtime.NumGoroutine")
theorem names_ok : NamesOk Tryz.prog := by
  have h : noGo Tryz.prog.funcs.toList = true := by kernel_rfl
  intro f fn hf hb
  have hm : fn ∈ Tryz.prog.funcs.toList := by
    have := Array.mem_of_getElem? hf
    simpa using this
  have := List.all_eq_true.1 h fn hm
  simp only [hb, Bool.true_and, Bool.not_eq_true'] at this
  exact this
theorem mixed : Tryz.prog.follows .mixedOrders = true := by kernel_rfl
theorem valOf {r : Option Out} {v : Value} (h : r.map (·.v) = some v) : ∃ H' c' R W, r = some ⟨v, H', c', R, W⟩ := by
  cases r with
  | none => cases h
  | some o => injection h with h; subst h; exact ⟨_, _, _, _, rfl⟩
end Go.Proofs.YtpcejpcbkjnlkaaGreatDoor.AE

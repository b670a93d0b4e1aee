/-
  No cell of these rows narrows 'for every input' (looked for: loops, veiled, ifaces, maps, wideKeys, modest, calm, conditions, laid).
  DERIVED. THE GIVEN ROWS OF THIS SEAT. 2 by the template 'for every input the law returns true; each argument reads behind the call as it read before'; 0 by the template 'total and deterministic' (their statements: YtedkfehdfmimoaaGreatTotals.lean).
  GIVEN WITH THE SEED: the statements are not yours to turn. If you find one false, say at which input.
  Laid BY PROGRAM, IN A SANDBOX (cutbox-rows.mjs): the forced cells as the released guide's own fill.sh prints them over the translation a15e890c78c67f20… (all of the seat's roots in one cut). By AI agents, Wed Nov 11 2026. No macro, syntax, notation, axiom, sorry.
-/
import Derived.Test.YtedkfehdfmimoaaGreatChecked
import GoSem.Claim
import GoSem.ClaimJoined
import GoSem.ClaimMapViews
import Derived.JoinedTies
import Derived.KernelRfl
namespace Go.Proofs.YtedkfehdfmimoaaGreat
/- THE CELL 'sum', in the pinned program and in every row, IS THE sha256 OF THE DUMP (.gsa) THAT YtedkfehdfmimoaaGreatProg.lean LOADS. Nothing in Lean hashes anything: it is a label: what it is worth is what the hold of that sum in a sandbox is worth. -/
noncomputable def Tryz.pinned : Pinned := { name := "ytedkfehdfmimoaagreat", sum := "a15e890c78c67f2089c96698f9d763a1b0792fca220a9a39072fbb51b19d4825", checked := Tryz.checked }
namespace Rows
def none {H : Type} : Left H := { results := [], args := [] }

/-- 'weftkeep2.ServeAlone': WHATEVER THE INPUT: true; the input reads as it did. -/
def serveAloneSpec : ChangeSpec := { name := "serveAlone", fn := fun _ => fun
  | [d] => { results := [.lit (.bool true)], args := [d] }
  | _ => none }
def serveAloneRow : OpenClaim := { program := "ytedkfehdfmimoaagreat", sum := "a15e890c78c67f2089c96698f9d763a1b0792fca220a9a39072fbb51b19d4825", func := "weftworks/weftkeep2.ServeAlone", spec := "serveAlone", unfollowed := true, recurses := true, apart := false }
def ServeAloneSaid : Prop := serveAloneRow.holds Tryz.pinned (OpenSpec.ofChange serveAloneSpec)

/-- ITS FALSE NEIGHBOUR: 'it returns false'. Refute it at one input. -/
def serveAloneWrong : ChangeSpec := { name := "serveAlone", fn := fun _ => fun
  | [d] => { results := [.lit (.bool false)], args := [d] }
  | _ => none }
def ServeAloneWrongFalsely : Prop := serveAloneRow.holds Tryz.pinned (OpenSpec.ofChange serveAloneWrong)

/-- 'weftkeep2.ServeCrashes': WHATEVER THE INPUT: true; the input reads as it did. -/
def serveCrashesSpec : ChangeSpec := { name := "serveCrashes", fn := fun _ => fun
  | [d] => { results := [.lit (.bool true)], args := [d] }
  | _ => none }
def serveCrashesRow : OpenClaim := { program := "ytedkfehdfmimoaagreat", sum := "a15e890c78c67f2089c96698f9d763a1b0792fca220a9a39072fbb51b19d4825", func := "weftworks/weftkeep2.ServeCrashes", spec := "serveCrashes", unfollowed := true, recurses := true, apart := false }
def ServeCrashesSaid : Prop := serveCrashesRow.holds Tryz.pinned (OpenSpec.ofChange serveCrashesSpec)

/-- ITS FALSE NEIGHBOUR: 'it returns false'. Refute it at one input. -/
def serveCrashesWrong : ChangeSpec := { name := "serveCrashes", fn := fun _ => fun
  | [d] => { results := [.lit (.bool false)], args := [d] }
  | _ => none }
def ServeCrashesWrongFalsely : Prop := serveCrashesRow.holds Tryz.pinned (OpenSpec.ofChange serveCrashesWrong)

/- THE SECOND FORM. 'bulk': how many values and letters a reading holds, each counted each time it is reached (what is shared counts as often as it is met; a slice's spare places count too). A statement '..UptoSaid' is the law's where the arguments, and the package variables that the reading takes, are together of bulk at most 1048576: NARROWER than '..Said'. Prove '..Said' where nothing that the law and all that it calls make is longer than what came in: it says more and counts as full. Else prove '..UptoSaid'. A law counts once. -/
mutual
def uptoBulk {H : Type} : DataW H → Nat
  | .lit (.string bytes) => bytes.length + 1
  | .lit _ => 1
  | .nil => 1
  | .ptr d => uptoBulk d + 1
  | .slice elems spare => uptoBulkAll elems + uptoBulkAll spare + 1
  | .agg parts => uptoBulkAll parts + 1
  | .iface _ d => uptoBulk d + 1
  | .map entries => uptoBulkEntries entries + 1
  | .held _ => 1
def uptoBulkAll {H : Type} : List (DataW H) → Nat
  | [] => 0
  | d :: r => uptoBulk d + uptoBulkAll r
def uptoBulkEntries {H : Type} : List (Lit × DataW H) → Nat
  | [] => 0
  | x :: r => uptoBulkEntry x + uptoBulkEntries r
def uptoBulkEntry {H : Type} : Lit × DataW H → Nat
  | (.string bytes, d) => bytes.length + uptoBulk d + 1
  | (_, d) => uptoBulk d + 1
 end
def uptoSmall : (H : Type) → List (DataW H) → Bool := fun _ ds => decide (uptoBulkAll ds ≤ 1048576)
def OpenSpec.upto (s : _root_.Go.ChangeSpec) : _root_.Go.OpenSpec := { _root_.Go.OpenSpec.ofChange s with cond := some uptoSmall }

/-- 'weftkeep2.ServeAlone', WHERE WHAT IT READS IS OF BULK AT MOST 1048576: true; the input reads as it did. -/
def serveAloneUptoRow : OpenClaim := { program := "ytedkfehdfmimoaagreat", sum := "a15e890c78c67f2089c96698f9d763a1b0792fca220a9a39072fbb51b19d4825", func := "weftworks/weftkeep2.ServeAlone", spec := "serveAlone", unfollowed := true, recurses := true, apart := false, narrowed := true }
def ServeAloneUptoSaid : Prop := serveAloneUptoRow.holds Tryz.pinned (OpenSpec.upto serveAloneSpec)

/-- 'weftkeep2.ServeCrashes', WHERE WHAT IT READS IS OF BULK AT MOST 1048576: true; the input reads as it did. -/
def serveCrashesUptoRow : OpenClaim := { program := "ytedkfehdfmimoaagreat", sum := "a15e890c78c67f2089c96698f9d763a1b0792fca220a9a39072fbb51b19d4825", func := "weftworks/weftkeep2.ServeCrashes", spec := "serveCrashes", unfollowed := true, recurses := true, apart := false, narrowed := true }
def ServeCrashesUptoSaid : Prop := serveCrashesUptoRow.holds Tryz.pinned (OpenSpec.upto serveCrashesSpec)

end Rows
end Go.Proofs.YtedkfehdfmimoaaGreat

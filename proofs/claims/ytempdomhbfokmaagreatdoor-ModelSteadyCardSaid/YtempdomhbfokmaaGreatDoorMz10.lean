/- num.Draw. -/
import Derived.Test.YtempdomhbfokmaaGreatDoorRows
import Derived.Test.YtempdomhbfokmaaGreatDoorMz1
import Derived.Test.YtempdomhbfokmaaGreatDoorMz2
import Derived.Laws.Closers25b
namespace Go.Proofs.YtempdomhbfokmaaGreatDoor
open Go.RowKit

def drawZ (seed k : Int) : Int := IntKind.u64.wrap (IntKind.u64.wrap seed + IntKind.u64.wrap (IntKind.u64.wrap (IntKind.u64.wrap k + 1) * 11400714819323198485))
def drawM (z d m : Int) : Int := IntKind.u64.wrap (bits BinOp.xor IntKind.u64 z (z / d) * m)
def drawF (seed k : Int) : Int :=
  let z := drawM (drawM (drawZ seed k) 1073741824 13787848793156543929) 134217728 10723151780598845931
  wrap64 (bits BinOp.xor IntKind.u64 z (z / 2147483648) / 4294967296)
theorem drawF_range (seed k : Int) : 0 ≤ drawF seed k ∧ drawF seed k < 4294967296 := by
  unfold drawF
  generalize drawM (drawM (drawZ seed k) 1073741824 13787848793156543929) 134217728 10723151780598845931 = z
  have h0 := bits_lo_u64 .xor z (z / 2147483648)
  have h1 := bits_hi_u64 .xor z (z / 2147483648)
  dsimp only
  generalize bits BinOp.xor IntKind.u64 z (z / 2147483648) = X at *
  rw [IntWalk.wrap64_in _ ⟨by omega, by omega⟩]
  omega
set_option maxRecDepth 100000 in
set_option maxHeartbeats 400000 in
theorem draw_any (seed k : Int) (w : World) : Calls Tryz.prog 38 #[.int .i64 seed, .int .i64 k] w fun e w' => e = .returned (.int .i64 (drawF seed k)) ∧ w = w' := by
  go_enter Tryz.func38, Tryz.ntmps38
  go_wp2
  go_ret
  exact ⟨rfl, rfl⟩
end Go.Proofs.YtempdomhbfokmaaGreatDoor

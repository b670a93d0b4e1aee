/- num.Code. -/
import Derived.Test.YtempdomhbfokmaaGreatDoorNf7
import Derived.Laws.Closers25b
namespace Go.Proofs.YtempdomhbfokmaaGreatDoor
open Go.RowKit

def codeStep (r : Int) : Int := if bits .and .u32 r 1 = 1 then bits .xor .u32 (r / 2) 3988292384 else r / 2
def codeSteps : Nat → Int → Int
  | 0, r => r
  | n + 1, r => codeStep (codeSteps n r)
def codeByte (r x : Int) : Int := codeSteps 8 (bits .xor .u32 r x)
def codeTo (l : List Int) (k : Nat) : Int := (l.take k).foldl codeByte 4294967295
theorem codeTo_succ (l : List Int) (k : Nat) (h : k < l.length) : codeTo l (k + 1) = codeByte (codeTo l k) l[k] := by
  unfold codeTo
  rw [List.take_succ_eq_append_getElem h, List.foldl_append]
  rfl
def isU32 (r : Int) : Prop := 0 ≤ r ∧ r ≤ 4294967295
theorem codeStep_in (r : Int) (h : isU32 r) : isU32 (codeStep r) := by
  unfold codeStep isU32 at *
  split
  · exact ⟨bits_lo_u32 _ _ _, bits_hi_u32 _ _ _⟩
  · omega
theorem codeSteps_in (n : Nat) (r : Int) (h : isU32 r) : isU32 (codeSteps n r) := by
  induction n with
  | zero => exact h
  | succ n ih => exact codeStep_in _ ih
theorem codeByte_in (r x : Int) : isU32 (codeByte r x) := codeSteps_in 8 _ ⟨bits_lo_u32 _ _ _, bits_hi_u32 _ _ _⟩
theorem codeTo_in (l : List Int) (k : Nat) : isU32 (codeTo l k) := by
  unfold codeTo
  have key : ∀ (l : List Int) (r : Int), isU32 r → isU32 (l.foldl codeByte r) := by
    intro l
    induction l with
    | nil => exact fun r h => h
    | cons x l ih => exact fun r _ => ih _ (codeByte_in r x)
  exact key _ _ ⟨by decide, by decide⟩
def codeF (l : List Int) : Int := bits .xor .u32 IntKind.u32.max (codeTo l l.length)
theorem codeF_in (l : List Int) : isU32 (codeF l) := ⟨bits_lo_u32 _ _ _, bits_hi_u32 _ _ _⟩
def isBytes (l : List Int) : Prop := inRange 0 255 l

end Go.Proofs.YtempdomhbfokmaaGreatDoor

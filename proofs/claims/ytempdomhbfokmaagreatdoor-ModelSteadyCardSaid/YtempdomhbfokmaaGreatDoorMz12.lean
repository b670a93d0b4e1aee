/- num.Code. sealed, body. -/
import Derived.Test.YtempdomhbfokmaaGreatDoorMz11
import Derived.Laws.Closers25b
namespace Go.Proofs.YtempdomhbfokmaaGreatDoor
open Go.RowKit

def codeStep (r : Int) : Int := if bits .and .u32 r 1 = 1 then bits .xor .u32 (r / 2) 3988292384 else r / 2
def codeSteps : Nat → Int → Int
  | 0, r => r
  | n + 1, r => codeStep (codeSteps n r)
def codeByte (r x : Int) : Int := codeSteps 8 (bits .xor .u32 r x)
def codeTo (l : List Int) (k : Nat) : Int := (l.take k).foldl codeByte 4294967295
theorem codeTo_succ (l : List Int) (k : Nat) (h : k < l.length) : codeTo l (k + 1) = codeByte (codeTo l k) l[k] := by
  unfold codeTo
  rw [List.take_succ_eq_append_getElem h, List.foldl_append]
  rfl
def isU32 (r : Int) : Prop := 0 ≤ r ∧ r ≤ 4294967295
theorem codeStep_in (r : Int) (h : isU32 r) : isU32 (codeStep r) := by
  unfold codeStep isU32 at *
  split
  · exact ⟨bits_lo_u32 _ _ _, bits_hi_u32 _ _ _⟩
  · omega
theorem codeSteps_in (n : Nat) (r : Int) (h : isU32 r) : isU32 (codeSteps n r) := by
  induction n with
  | zero => exact h
  | succ n ih => exact codeStep_in _ ih
theorem codeByte_in (r x : Int) : isU32 (codeByte r x) := codeSteps_in 8 _ ⟨bits_lo_u32 _ _ _, bits_hi_u32 _ _ _⟩
theorem codeTo_in (l : List Int) (k : Nat) : isU32 (codeTo l k) := by
  unfold codeTo
  have key : ∀ (l : List Int) (r : Int), isU32 r → isU32 (l.foldl codeByte r) := by
    intro l
    induction l with
    | nil => exact fun r h => h
    | cons x l ih => exact fun r _ => ih _ (codeByte_in r x)
  exact key _ _ ⟨by decide, by decide⟩
def codeF (l : List Int) : Int := bits .xor .u32 IntKind.u32.max (codeTo l l.length)
theorem codeF_in (l : List Int) : isU32 (codeF l) := ⟨bits_lo_u32 _ _ _, bits_hi_u32 _ _ _⟩
def isBytes (l : List Int) : Prop := inRange 0 255 l

end Go.Proofs.YtempdomhbfokmaaGreatDoor

namespace Go.Proofs.YtempdomhbfokmaaGreatDoor
open Go.RowKit

def sealF (l : List Int) : List Int := l ++ lowF (codeF l) 4
theorem appBelow {w w' : World} {B e size : Nat} {v v' : Value} {n : Nat} {xs : List Value} (h : Appended w w' (fun g => B ≤ g) e size v v' n xs) (hB : B ≤ w.heap.size) (hv : ∀ g, v.ownBlock = some g → B ≤ g) : Own w' (fun g => B ≤ g) e size v' n xs ∧ Below B w w' :=
  ⟨h.1.more fun g _ hg => by
    rcases hg with hg | hg
    · exact hg
    · subst hg; exact hB, below_of_app (Below.refl _ _) h hB hv⟩
theorem lowF_bytes (n : Int) (k : Nat) : isBytes (lowF n k) := by
  induction k generalizing n with
  | zero => intro x hx; simp [lowF] at hx
  | succ k ih =>
    intro x hx
    rcases List.mem_cons.1 hx with rfl | h
    · omega
    · exact ih _ x h
theorem isBytes_append {a b : List Int} (ha : isBytes a) (hb : isBytes b) : isBytes (a ++ b) := fun x hx => by
  rcases List.mem_append.1 hx with h | h
  · exact ha x h
  · exact hb x h
theorem sealF_length (l : List Int) : (sealF l).length = l.length + 4 := by simp [sealF, lowF_length]
theorem sealF_bytes {l : List Int} (h : isBytes l) : isBytes (sealF l) := isBytes_append h (lowF_bytes _ _)

theorem own_lit (w : World) (T : Nat → Prop) (e : TypeId) (xs : List Value) (n : Nat) (hn : n ≤ maxLen) (hl : xs.length = n) (hT : T w.heap.size) :
    Own (w.alloc (.cells xs.toArray e)) T e 1 (.slice (some ⟨w.heap.size, 0, none⟩) n n) n xs :=
  ⟨by simpa using World.ownsRow_lit (base := 0) (size := 1) (e := e) w xs.toArray n (Nat.zero_le _) hn (by simpa using hl), fun g hg => by simp [Value.ownBlock] at hg; subst hg; exact hT⟩

/-- the body of a record -/
def bodyF (kind : Int) (l : List Int) : List Int := (kind % 256) :: l.flatMap fun n => lowF n 4
def bodyTo (kind : Int) (l : List Int) (k : Nat) : List Int := (kind % 256) :: (l.take k).flatMap fun n => lowF n 4
theorem bodyTo_succ (kind : Int) (l : List Int) (k : Nat) (h : k < l.length) : bodyTo kind l (k + 1) = bodyTo kind l k ++ lowF l[k] 4 := by
  unfold bodyTo
  rw [List.take_succ_eq_append_getElem h, List.flatMap_append]
  simp
theorem bodyTo_length (kind : Int) (l : List Int) (k : Nat) (h : k ≤ l.length) : (bodyTo kind l k).length = 1 + 4 * k := by
  induction k with
  | zero => rfl
  | succ k ih => rw [bodyTo_succ _ _ _ (by omega), List.length_append, ih (by omega), lowF_length]; omega
theorem bodyTo_full (kind : Int) (l : List Int) : bodyTo kind l l.length = bodyF kind l := by simp [bodyTo, bodyF]
theorem bodyF_length (kind : Int) (l : List Int) : (bodyF kind l).length = 1 + 4 * l.length := by rw [← bodyTo_full, bodyTo_length _ _ _ (Nat.le_refl _)]
theorem bodyF_bytes (kind : Int) (l : List Int) : isBytes (bodyF kind l) := by
  intro x hx
  rcases List.mem_cons.1 hx with rfl | h
  · omega
  · obtain ⟨n, -, h⟩ := List.mem_flatMap.1 h
    exact lowF_bytes _ _ x h

end Go.Proofs.YtempdomhbfokmaaGreatDoor

/- Numbers of a model as bytes. -/
import Derived.Test.YtempdomhbfokmaaGreatDoorMz12
import Derived.Test.YtempdomhbfokmaaGreatDoorMz5
import Derived.Deep.LoopGhost
namespace Go.Proofs.YtempdomhbfokmaaGreatDoor
open Go.RowKit

def zigF (n : Int) : Nat := if n < 0 then (-2 * n - 1).toNat else (2 * n).toNat
def varF : Nat → Nat → List Int
  | 0, u => [(u : Int) % 256]
  | f + 1, u => if u < 128 then [(u : Int) % 256] else bits .or .u8 ((u : Int) % 256) 128 :: varF f (u / 128)
def numF (n : Int) : List Int := varF 10 (zigF n)
theorem varF_last (f u : Nat) (h : u < 128) : varF f u = [(u : Int) % 256] := by
  cases f with
  | zero => rfl
  | succ f => simp [varF, h]
theorem varF_more (f u : Nat) (h : ¬ u < 128) : varF (f + 1) u = bits .or .u8 ((u : Int) % 256) 128 :: varF f (u / 128) := by simp [varF, h]
theorem varF_bytes : ∀ f u, isBytes (varF f u) := by
  intro f
  induction f with
  | zero => intro u x hx; simp [varF] at hx; omega
  | succ f ih =>
    intro u x hx
    unfold varF at hx
    split at hx
    · simp at hx; omega
    · rcases List.mem_cons.1 hx with rfl | hx
      · exact ⟨bits_lo_u8 _ _ _, bits_hi_u8 _ _ _⟩
      · exact ih _ x hx
theorem varF_length : ∀ f u, (varF f u).length ≤ f + 1 := by
  intro f
  induction f with
  | zero => intro u; simp [varF]
  | succ f ih =>
    intro u
    unfold varF
    split
    · simp
    · have := ih (u / 128); simp; omega
def listTo (l : List Int) (k : Nat) : List Int := numF l.length ++ (l.take k).flatMap numF
def listF (l : List Int) : List Int := numF l.length ++ l.flatMap numF
theorem listTo_succ (l : List Int) (k : Nat) (h : k < l.length) : listTo l (k + 1) = listTo l k ++ numF l[k] := by
  unfold listTo
  rw [List.take_succ_eq_append_getElem h, List.flatMap_append]
  simp
theorem numF_length (n : Int) : (numF n).length ≤ 11 := varF_length _ _
theorem flatNum_length (l : List Int) : (l.flatMap numF).length ≤ 11 * l.length := by
  induction l with
  | nil => simp
  | cons x l ih => simp only [List.flatMap_cons, List.length_append, List.length_cons]; have := numF_length x; omega
theorem listTo_length (l : List Int) (k : Nat) : (listTo l k).length ≤ 11 + 11 * l.length := by
  unfold listTo
  rw [List.length_append]
  have h1 := numF_length l.length
  have h2 := flatNum_length (l.take k)
  have h3 : (l.take k).length ≤ l.length := List.length_take_le' _ _
  omega
theorem listF_length (l : List Int) : (listF l).length ≤ 11 + 11 * l.length := by
  have := listTo_length l l.length
  unfold listTo at this
  rw [List.take_length] at this
  exact this
end Go.Proofs.YtempdomhbfokmaaGreatDoor

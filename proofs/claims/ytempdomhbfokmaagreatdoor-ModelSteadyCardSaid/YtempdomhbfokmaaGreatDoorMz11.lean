/- Bytes of numbers. -/
import Derived.Test.YtempdomhbfokmaaGreatDoorRows
import Derived.Test.YtempdomhbfokmaaGreatDoorMz1
import Derived.Test.YtempdomhbfokmaaGreatDoorMz4
import Derived.Test.YtempdomhbfokmaaGreatDoorMz6
namespace Go.Proofs.YtempdomhbfokmaaGreatDoor
open Go.RowKit

def bytes (l : List Int) : List Value := l.map (Value.int .u8)
theorem bytes_length (l : List Int) : (bytes l).length = l.length := by simp [bytes]
theorem bytes_one (l : List Int) : ∀ u ∈ bytes l, u.oneCell' = true := by
  intro u hu
  obtain ⟨x, -, rfl⟩ := List.mem_map.1 hu
  rfl
theorem bytes_get (l : List Int) (k : Nat) (h : k < l.length) : (bytes l)[k]? = some (.int .u8 l[k]) := by simp [bytes, h]
theorem bytes_append (a b : List Int) : bytes (a ++ b) = bytes a ++ bytes b := by simp [bytes]
theorem bytes_new (w : World) (t : TypeId) (xs : List Int) (n : Nat) (hn : n = xs.length) : Reads (w.alloc (.cells (bytes xs).toArray t)) (· = w.heap.size) 1 (some ⟨w.heap.size, 0, none⟩) n (bytes xs) := by
  refine ⟨by simp [bytes, hn], fun _ => ⟨_, rfl, by simp, rfl, fun j u hu => ?_⟩⟩
  have h : Blk (w.alloc (.cells (bytes xs).toArray t)) w.heap.size t (bytes xs).toArray := Blk.new w t _
  rw [Addr.add_lit, h.cell]
  simpa using hu
/-- the k lowest bytes of n -/
def lowF : Int → Nat → List Int
  | _, 0 => []
  | n, k + 1 => (n % 256) :: lowF (n / 256) k
def shr8 : Int → Nat → Int
  | n, 0 => n
  | n, k + 1 => shr8 n k / 256
theorem shr8_in (n : Int) (hn : -9223372036854775808 ≤ n ∧ n ≤ 9223372036854775807) (k : Nat) : -9223372036854775808 ≤ shr8 n k ∧ shr8 n k ≤ 9223372036854775807 := by
  induction k with
  | zero => exact hn
  | succ k ih => unfold shr8; omega
theorem shr8_left (n : Int) (k : Nat) : shr8 (n / 256) k = shr8 n (k + 1) := by
  induction k with
  | zero => rfl
  | succ k ih => unfold shr8; rw [ih]
theorem lowF_succ (n : Int) (k : Nat) : lowF n (k + 1) = lowF n k ++ [shr8 n k % 256] := by
  induction k generalizing n with
  | zero => rfl
  | succ k ih =>
    have e : lowF n (k + 1 + 1) = (n % 256) :: lowF (n / 256) (k + 1) := rfl
    rw [e, ih, shr8_left]
    rfl
theorem lowF_length (n : Int) (k : Nat) : (lowF n k).length = k := by
  induction k generalizing n with
  | zero => rfl
  | succ k ih => simp [lowF, ih]

end Go.Proofs.YtempdomhbfokmaaGreatDoor

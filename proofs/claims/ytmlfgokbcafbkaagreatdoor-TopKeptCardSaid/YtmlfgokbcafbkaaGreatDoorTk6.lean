/- The entry of a token. Bytes of numbers. -/
import Derived.Test.YtmlfgokbcafbkaaGreatDoorTk5
import Derived.Deep.RegionHeld3
import Derived.Deep.RegionWith
import Derived.Test.YtmlfgokbcafbkaaGreatDoorRows
import Derived.Test.YtmlfgokbcafbkaaGreatDoorTk1
import Derived.Test.YtmlfgokbcafbkaaGreatDoorTk2
namespace Go.Proofs.YtmlfgokbcafbkaaGreatDoor
open Go.RowKit

theorem Slc.len {w : World} {T : Nat → Prop} {v : Value} {xs : List Int} (h : Slc w T v xs) : ∃ A c, v = .slice A xs.length c := by
  obtain ⟨A, c, rfl, -⟩ := h
  exact ⟨A, c, rfl⟩
/-- The cell of a slice. -/
theorem Slc.at_ {w : World} {T : Nat → Prop} {A : Option Addr} {n c : Nat} {xs : List Int} (h : Slc w T (.slice A n c) xs) (k : Nat) (hk : k < xs.length) : n = xs.length ∧ ∃ ad, A = some ad ∧ w.cell? (ad.add k) = some (.int .i64 xs[k]) := by
  obtain ⟨A', c', he, hr, -⟩ := h
  injection he with h1 h2 h3
  subst h1 h2 h3
  obtain ⟨ad, u, rfl, -, -, hu, hc⟩ := hr.at_ hk
  rw [ints_get _ _ hk] at hu
  injection hu with hu
  subst hu
  exact ⟨rfl, ad, rfl, hc⟩

theorem addRow_step (x y : List Int) (k : Nat) (hx : k < x.length) (hy : k < y.length) :
    (addRow (x.take k) (y.take k) ++ x.drop k).set k (wr (x[k] + y[k])) = addRow (x.take (k + 1)) (y.take (k + 1)) ++ x.drop (k + 1) := by
  have hl : (addRow (x.take k) (y.take k)).length = k := by simp [addRow]; omega
  rw [List.set_append_right _ _ (by omega), hl, Nat.sub_self, List.drop_eq_getElem_cons hx, List.set_cons_zero, List.take_succ_eq_append_getElem hx, List.take_succ_eq_append_getElem hy]
  unfold addRow
  rw [List.zipWith_append (by simp; omega)]
  simp
theorem addRow_get (x y : List Int) (k : Nat) (hx : k < x.length) (hy : k < y.length) : (ints (addRow (x.take k) (y.take k) ++ x.drop k))[k]? = some (.int .i64 x[k]) := by
  have hl : (addRow (x.take k) (y.take k)).length = k := by simp [addRow]; omega
  simp only [ints, List.map_append]
  rw [List.getElem?_append_right (by simp [hl]), List.length_map, hl, Nat.sub_self]
  simp [hx]
theorem addRow_length (x y : List Int) (n : Nat) (hx : x.length = n) (hy : y.length = n) : (addRow x y).length = n := by simp [addRow, hx, hy]
/-- one row of an entry -/
def Model.ent (m : Model) (t i k : Nat) : List Int := (List.range m.width).map fun o => shiftF (dotF (rowF (m.matrix k) o m.width) (m.x t i)) (m.cut 0)
theorem range_flat_succ (f : Nat → List Int) (k : Nat) : (List.range (k + 1)).flatMap f = (List.range k).flatMap f ++ f k := by
  rw [List.range_succ, List.flatMap_append]
  simp
theorem range_map_succ (f : Nat → Int) (k : Nat) : (List.range (k + 1)).map f = (List.range k).map f ++ [f k] := by
  rw [List.range_succ, List.map_append]
  simp
theorem ent_flat_length (m : Model) (t i k : Nat) : ((List.range k).flatMap (m.ent t i)).length = k * m.width := by
  induction k with
  | zero => simp
  | succ k ih => rw [range_flat_succ, List.length_append, ih, Nat.add_mul]; simp [Model.ent]
theorem rowF_length (l : List Int) (i d : Nat) (h : (i + 1) * d ≤ l.length) : (rowF l i d).length = d := by
  unfold rowF
  rw [Nat.add_mul] at h
  simp
  omega

/-- The region with a number. -/
def findRegion (n : Nat) : Code → Option Code
  | .region i ops d => if i = n then some (.region i ops d) else none
  | .seq a b => match findRegion n a with
    | some c => some c
    | none => findRegion n b
  | .cond _ a b => match findRegion n a with
    | some c => some c
    | none => findRegion n b
  | .block _ c => findRegion n c
  | .loop c => findRegion n c
  | .scope c => findRegion n c
  | _ => none
end Go.Proofs.YtmlfgokbcafbkaaGreatDoor

namespace Go.Proofs.YtmlfgokbcafbkaaGreatDoor
open Go.RowKit

def bytes (l : List Int) : List Value := l.map (Value.int .u8)
theorem bytes_length (l : List Int) : (bytes l).length = l.length := by simp [bytes]
theorem bytes_one (l : List Int) : ∀ u ∈ bytes l, u.oneCell' = true := by
  intro u hu
  obtain ⟨x, -, rfl⟩ := List.mem_map.1 hu
  rfl
theorem bytes_get (l : List Int) (k : Nat) (h : k < l.length) : (bytes l)[k]? = some (.int .u8 l[k]) := by simp [bytes, h]
theorem bytes_append (a b : List Int) : bytes (a ++ b) = bytes a ++ bytes b := by simp [bytes]
theorem bytes_new (w : World) (t : TypeId) (xs : List Int) (n : Nat) (hn : n = xs.length) : Reads (w.alloc (.cells (bytes xs).toArray t)) (· = w.heap.size) 1 (some ⟨w.heap.size, 0, none⟩) n (bytes xs) := by
  refine ⟨by simp [bytes, hn], fun _ => ⟨_, rfl, by simp, rfl, fun j u hu => ?_⟩⟩
  have h : Blk (w.alloc (.cells (bytes xs).toArray t)) w.heap.size t (bytes xs).toArray := Blk.new w t _
  rw [Addr.add_lit, h.cell]
  simpa using hu
/-- the k lowest bytes of n -/
def lowF : Int → Nat → List Int
  | _, 0 => []
  | n, k + 1 => (n % 256) :: lowF (n / 256) k
def shr8 : Int → Nat → Int
  | n, 0 => n
  | n, k + 1 => shr8 n k / 256
theorem shr8_in (n : Int) (hn : -9223372036854775808 ≤ n ∧ n ≤ 9223372036854775807) (k : Nat) : -9223372036854775808 ≤ shr8 n k ∧ shr8 n k ≤ 9223372036854775807 := by
  induction k with
  | zero => exact hn
  | succ k ih => unfold shr8; omega
theorem shr8_left (n : Int) (k : Nat) : shr8 (n / 256) k = shr8 n (k + 1) := by
  induction k with
  | zero => rfl
  | succ k ih => unfold shr8; rw [ih]
theorem lowF_succ (n : Int) (k : Nat) : lowF n (k + 1) = lowF n k ++ [shr8 n k % 256] := by
  induction k generalizing n with
  | zero => rfl
  | succ k ih =>
    have e : lowF n (k + 1 + 1) = (n % 256) :: lowF (n / 256) (k + 1) := rfl
    rw [e, ih, shr8_left]
    rfl
theorem lowF_length (n : Int) (k : Nat) : (lowF n k).length = k := by
  induction k generalizing n with
  | zero => rfl
  | succ k ih => simp [lowF, ih]

end Go.Proofs.YtmlfgokbcafbkaaGreatDoor

/- A struct that is read whole or written whole, in walks. -/
import Derived.Test.YtpcejpcbkjnlkaaGreatDoorZa8
import Derived.Laws.ResultCell
set_option linter.unusedVariables false
namespace Go.Proofs.YtpcejpcbkjnlkaaGreatDoor
open Go.RowKit

theorem setRow_blk {w : World} {g : Nat} {t : TypeId} {old cs : Array Value} (h : Blk w g t old) : Blk (w.setRow g cs) g t cs := setRow_heap w g old cs t (0, 0) h
theorem setRow_keeps (w : World) (g : Nat) (cs : Array Value) : Keeps (· = g) w (w.setRow g cs) :=
  ⟨rfl, rfl, rfl, by simp [World.setRow], fun k _ hk => by simp only [World.setRow, Array.getElem?_modify]; rw [if_neg (fun e => hk e.symm)]⟩
section
variable {P : Program}
theorem wpList_store_blk {ops : Array Oper} {rest : List Oper} {o : Oper} {a : Act} {w : World} {Q : Exit → Act → World → Prop} (hgd : o.guard = none) (ty : TypeId) (x y : Operand) (ho : o.op = .store ty x y)
    (g : Nat) (cells : Array Value) (hx : a.eval x = .pointer (some ⟨g, 0, none⟩)) (hy : a.eval y = .agg cells)
    (t : TypeId) (old : Array Value) (hg : Blk w g t old) (hi : (P.info? ty).map (·.size) = some cells.size)
    (hold : old.size = cells.size) (h1 : cells.all (·.oneCell') = true)
    (h : ∀ w', Blk w' g t cells → Keeps (· = g) w w' → wpList P ops Q rest (a.put o.dst undef) w') : wpList P ops Q (o :: rest) a w :=
  wpList_store_row hgd ty x y ho g cells hx hy t old hg hi hold h1 (h _ (setRow_blk hg) (setRow_keeps w g cells))
theorem wpList_load_blk {ops : Array Oper} {rest : List Oper} {o : Oper} {a : Act} {w : World} {Q : Exit → Act → World → Prop} (hgd : o.guard = none) (ty : TypeId) (x : Operand) (ho : o.op = .load ty x)
    (g : Nat) (hx : a.eval x = .pointer (some ⟨g, 0, none⟩)) (t : TypeId) (cs : Array Value) (d : TypeDesc) (hg : Blk w g t cs)
    (hu : P.underlying ty = some d) (hd : (match d with | .struct _ | .array _ _ => true | _ => false) = true) (hi : (P.info? ty).map (·.size) = some cs.size)
    (h : wpList P ops Q rest (a.put o.dst (.agg cs)) w) : wpList P ops Q (o :: rest) a w :=
  wpList_load_row hgd ty x ho g hx t cs (0, 0) d hg hu hd hi h
theorem res_cell {fn : Func} {p : Tmp} {ty : TypeId} (h : fn.results = #[.cell p ty]) (tmps : Array Value) (w : World) (g : Nat) (t : TypeId) (cs : Array Value) (d : TypeDesc)
    (hp : tmps.getD p undef = .pointer (some ⟨g, 0, none⟩)) (hg : Blk w g t cs)
    (hu : P.underlying ty = some d) (hd : (match d with | .struct _ | .array _ _ => true | _ => false) = true) (hi : (P.info? ty).map (·.size) = some cs.size) :
    (results fn tmps).run P w = .ok (.agg cs) w := results_cell_row h tmps w g t cs (0, 0) d hp hg hu hd hi
end
/-- the cells of a model whose first k lists are laid -/
def cellsTo (M0 M1 M2 M3 : Int) (vs : List Value) (k : Nat) : Array Value := #[.int .i64 M0, .int .i64 M1, .int .i64 M2, .int .i64 M3] ++ (vs ++ List.replicate (7 - k) (Value.slice none 0 0)).toArray
theorem cellsTo_size (M0 M1 M2 M3 : Int) (vs : List Value) (k : Nat) (h : vs.length = k) (hk : k ≤ 7) : (cellsTo M0 M1 M2 M3 vs k).size = 11 := by
  simp [cellsTo, h]; omega
theorem cellsTo_step (M0 M1 M2 M3 : Int) (vs : List Value) (k : Nat) (h : vs.length = k) (hk : k < 7) (v : Value) : (cellsTo M0 M1 M2 M3 vs k).setIfInBounds (4 + k) v = cellsTo M0 M1 M2 M3 (vs ++ [v]) (k + 1) := by
  have e : 7 - k = (7 - (k + 1)) + 1 := by omega
  unfold cellsTo
  apply Array.toList_inj.1
  simp only [Array.toList_setIfInBounds, Array.toList_append]
  rw [List.set_append_right _ _ (by simp), e, List.replicate_succ, List.set_append_right _ _ (by simp; omega)]
  simp [h]
theorem cellsTo_get (M0 M1 M2 M3 : Int) (vs : List Value) (k : Nat) (h : vs.length = k) (hk : k < 7) : (cellsTo M0 M1 M2 M3 vs k)[4 + k]? = some (Value.slice none 0 0) := by
  have e : 7 - k = (7 - (k + 1)) + 1 := by omega
  unfold cellsTo
  rw [Array.getElem?_append_right (by simp), List.getElem?_toArray, List.getElem?_append_right (by simp; omega), e, List.replicate_succ]
  simp [h]
theorem cellsTo_one (M0 M1 M2 M3 : Int) (vs : List Value) (k : Nat) (h : ∀ v ∈ vs, v.oneCell' = true) : (cellsTo M0 M1 M2 M3 vs k).all (·.oneCell') = true := by
  rw [Array.all_eq_true_iff_forall_mem]
  intro x hx
  unfold cellsTo at hx
  simp only [Array.mem_append, List.mem_toArray, List.mem_append, List.mem_replicate] at hx
  rcases hx with hx | hx | hx
  · simp at hx
    rcases hx with rfl | rfl | rfl | rfl <;> rfl
  · exact h x hx
  · rw [hx.2]; rfl
end Go.Proofs.YtpcejpcbkjnlkaaGreatDoor

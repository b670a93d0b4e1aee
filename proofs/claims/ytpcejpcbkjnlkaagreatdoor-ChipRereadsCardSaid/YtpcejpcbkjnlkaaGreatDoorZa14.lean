/- slices.Clone, slices.Grow, slices.Concat at []int. -/
import Derived.Test.YtpcejpcbkjnlkaaGreatDoorProg
import GoSem.Claim
import GoSem.ClaimJoined
import GoSem.ClaimMapViews
import Derived.JoinedTies
import Derived.KernelRfl
import Derived.RowKit
import Derived.Test.YtpcejpcbkjnlkaaGreatDoorZa8
import Derived.Lib.AppendZerosOnto
import Derived.Lib.SliceRun
import Derived.Deep.AppendSrc
set_option linter.unusedVariables false
namespace Go.Proofs.YtpcejpcbkjnlkaaGreatDoor
open Go.RowKit

theorem int_info : (Tryz.prog.info? 3).map (fun i => (i.zero, i.size, i.bytes)) = some (some (.int .i64 0), 1, 8) := by kernel_rfl
theorem u8_info : (Tryz.prog.info? 5).map (fun i => (i.zero, i.size, i.bytes)) = some (some (.int .u8 0), 1, 1) := by kernel_rfl

theorem below_of_app {w w' : World} {T : Nat → Prop} {e : TypeId} {size : Nat} {v v' : Value} {n : Nat} {xs : List Value} {B : Nat} {w0 : World} (hb : Below B w0 w) (h : Appended w w' T e size v v' n xs) (hB : B ≤ w.heap.size) (ht : ∀ g, v.ownBlock = some g → B ≤ g) : Below B w0 w' :=
  hb.grown h.2.1 hB ht

/-- A new slice of a call's own: what it holds. -/
def Fresh (w w' : World) (e : TypeId) (size : Nat) (v : Value) (n : Nat) (xs : List Value) : Prop := Own w' (fun g => w.heap.size ≤ g) e size v n xs ∧ Below w.heap.size w w'

def RetFresh (w : World) (e : TypeId) (size n : Nat) (xs : List Value) (r : Ending) (w' : World) : Prop := ∃ v, r = .returned v ∧ Fresh w w' e size v n xs

theorem own_empty (w : World) (T : Nat → Prop) (e : TypeId) (size : Nat) (hT : T w.heap.size) : Own (w.alloc (.cells #[] e)) T e size (.slice (some ⟨w.heap.size, 0, none⟩) 0 0) 0 [] :=
  ⟨⟨by simp, .inr ⟨w.heap.size, 0, #[], rfl, Nat.zero_le _, heap_alloc_new w _, Nat.le_refl _, Nat.zero_le _, by simp, by simp⟩⟩, fun g hg => by simp [Value.ownBlock] at hg; subst hg; exact hT⟩

set_option maxHeartbeats 400000 in
theorem clone_any (w : World) (T : Nat → Prop) (A : Option Addr) (n c : Nat) (xs : List Value) (hr : Reads w T 1 A n xs) (h1 : ∀ u ∈ xs, u.oneCell' = true) (hn : n ≤ 1000000000000) (hA : A = none → n = 0 ∧ c = 0) :
    Calls Tryz.prog 55 #[.slice A n c] w (RetFresh w 3 1 n xs) := by
  obtain ⟨i0, hi, hz0, hz1, hz2⟩ := info_parts int_info
  rcases A with _ | ad
  · obtain ⟨rfl, rfl⟩ := hA rfl
    have hx : xs = [] := List.eq_nil_of_length_eq_zero (by simpa using hr.1)
    subst hx
    have he := fun W : World => Lib.run_eql_slice_nil (P := Tryz.prog) W 22 3 none 0 0 0 0 Tryz.underlying22
    go_enter Tryz.func55, Tryz.ntmps55
    go_wp2_with fail
    go_ret
    exact ⟨_, rfl, Own.nil_ _ _ _ _, Below.refl _ _⟩
  · have he := fun W : World => Lib.run_eql_slice_nil (P := Tryz.prog) W 22 3 (some ad) n c 0 0 Tryz.underlying22
    go_enter Tryz.func55, Tryz.ntmps55
    go_wp2_with (at_builtin; refine wpList_append_any _ rfl _ _ 22 rfl 3 i0 _ 1 8 Tryz.underlying22 hi hz0 hz1 hz2 rfl (by omega) (.slice (some ⟨w.heap.size, 0, none⟩) 0 0) 0 [] rfl (own_empty w (fun g => w.heap.size ≤ g) _ _ (Nat.le_refl _)) _ n c xs rfl (hr.alloc _) h1 (by unfold maxLen; omega) (by omega) ?_; intro v1 w1 happ)
    go_ret
    refine ⟨_, rfl, ?_, ?_⟩
    · have h := happ.1
      simp only [Nat.zero_add, List.nil_append] at h
      exact h.more fun g _ hg => by rcases hg with hg | hg; exact hg; simp at hg; omega
    · refine below_of_app (by go_grown) happ (by simp) (fun g hg => ?_)
      simp [Value.ownBlock] at hg
      omega

/-- 'make([]int, n)' at the operation. -/
theorem wpList_make_ints (w : World) {ops : Array Oper} {rest : List Oper} {o : Oper} {a : Act} {Q : Exit → Act → World → Prop} (hg : o.guard = none) (l c : Operand) (hop : o.op = Op.makeSlice 22 l c)
    (L C : Int) (n : Nat) (hl : a.eval l = .int .i64 L) (hc : a.eval c = .int .i64 C) (hL : L = (n : Int)) (hC : C = (n : Int)) (hn : n ≤ 1000000)
    (hK : ∀ w', Own w' (fun g => g = w.heap.size) 3 1 (.slice (some ⟨w.heap.size, 0, none⟩) n n) n (ints (List.replicate n 0)) → Below w.heap.size w w' → w.heap.size < w'.heap.size → wpList Tryz.prog ops Q rest (a.put o.dst (.slice (some ⟨w.heap.size, 0, none⟩) n n)) w') :
    wpList Tryz.prog ops Q (o :: rest) a w := by
  obtain ⟨i0, hi, hz0, hz1, hz2⟩ := info_parts int_info
  refine wpList_make_full w hg l c 22 hop 0 3 i0 (.int .i64 0) 1 Tryz.underlying22 hi hz0 hz1 .i64 .i64 L C n hl hc hL hC (by rw [hz2]; omega) (by unfold maxLen; omega) (Nat.zero_le _) ?_
  intro w' hown hg1
  have hx : (madeCells (Value.int .i64 0).cells (n * 1)).toList = ints (List.replicate n 0) := by
    apply List.ext_getElem
    · simp [madeCells, ints]
    · intro i h1 h2
      simp [madeCells, ints, Value.cells, Nat.mod_one]
  rw [hx] at hown
  refine hK w' ⟨hown, fun g hg => by simp [Value.ownBlock] at hg; exact hg.symm⟩ ⟨hg1.os, hg1.tape, hg1.output, hg1.size, fun k hk => hg1.block k hk (by simp)⟩ ?_
  exact (hown.lt _ rfl).2

theorem clone_slc (w : World) (T : Nat → Prop) (v : Value) (xs : List Int) (h : Slc w T v xs) (hn : xs.length ≤ 1000000) :
    Calls Tryz.prog 55 #[v] w (RetFresh w 3 1 xs.length (ints xs)) := by
  obtain ⟨A, c, rfl, hr, h1, h2, h3⟩ := h
  exact clone_any w T A xs.length c (ints xs) hr (ints_one _) (by omega) h3

theorem wpList_append_zeros {P : Program} (w : World) {ops : Array Oper} {rest : List Oper} {o : Oper} {a : Act} {Q : Exit → Act → World → Prop} (hgd : o.guard = none) (s x : Operand) (t tn e : TypeId)
    (ho : o.op = .call { callee := .builtin .append, args := #[s, x], argTypes := #[t, tn] }) (i : TypeInfo) (z : Value) (kn : IntKind) (ht : P.underlying t = some (.slice e)) (htn : P.underlying tn = some (.int kn)) (hi : P.info? e = some i) (hz : i.zero = some z)
    (hz1 : i.size = 1) (hzs : z.cells.size = 1) (hz2 : i.bytes ≤ 8) (n : Nat) (hn : n ≤ 65536) (h0 : 0 < n) (hs : a.eval s = .slice none 0 0) (hx : a.eval x = .int .i64 n)
    (h : ∀ cap w', n ≤ cap → Own w' (fun g => w.heap.size ≤ g) e 1 (.slice (some ⟨w.heap.size, 0, none⟩) 0 cap) 0 [] → Below w.heap.size w w' → wpList P ops Q rest (a.put o.dst (.slice (some ⟨w.heap.size, 0, none⟩) n cap)) w') : wpList P ops Q (o :: rest) a w := by
  refine wpList_plain hgd fun K hK => ?_
  have hb : n * i.bytes ≤ 65536 * 8 := Nat.mul_le_mul hn hz2
  have hrun := Lib.run_append_grow_zeros (P := P) w t tn o.type e i z .i64 kn ht htn hi hz none 0 0 [] (by simp [Builtin.firstCells]) n h0 (by omega) (by omega) (by omega) (by omega)
      (by unfold Builtin.nextslicecap; rw [if_pos (by omega)]; simp only [Nat.zero_add]; omega)
  unfold Oper.wp execOp
  simp only [ho, resolve, invoke, builtin, Sem.run_bind, Sem.run_pure, Result.andThen_ok, List.map_toArray, List.map_cons, List.map_nil, hs, hx, hrun]
  refine hK _ _ ?_
  have hge := grownCap_ge w (0 + n) 0 e
  have hle := grownCap_le_maxLen w (0 + n) 0 e (by unfold maxLen; omega)
  rw [Nat.zero_add] at hge hle ⊢
  refine h _ _ hge ?_ ⟨rfl, rfl, rfl, by simp, fun k hk => Below.heap_alloc _ _ _ hk⟩
  refine ⟨⟨by simp, .inr ⟨w.heap.size, _, _, rfl, Nat.zero_le _, heap_alloc_new w.drew _, Nat.zero_le _, hle, ?_, by simp⟩⟩, fun g hg => by simp [Value.ownBlock] at hg; omega⟩
  simp only [Array.size_append, List.size_toArray, List.length_nil, size_zeroCells]
  rw [hzs]
  omega

/-- the sum of the lengths -/
def total (ls : List (List Int)) : Nat := (ls.map List.length).sum
theorem total_take (ls : List (List Int)) (k : Nat) (h : k < ls.length) : total (ls.take (k + 1)) = total (ls.take k) + ls[k].length := by
  unfold total
  rw [List.take_succ_eq_append_getElem h, List.map_append, List.sum_append]
  rfl
theorem total_take_le (ls : List (List Int)) (k : Nat) : total (ls.take k) ≤ total ls := by
  have h : total ls = total (ls.take k) + total (ls.drop k) := by
    unfold total
    rw [← List.sum_append, ← List.map_append, List.take_append_drop]
  omega
theorem flatten_take (ls : List (List Int)) (k : Nat) (h : k < ls.length) : (ls.take (k + 1)).flatten = (ls.take k).flatten ++ ls[k] := by
  rw [List.take_succ_eq_append_getElem h, List.flatten_append]
  congr 1
  exact List.append_nil _
theorem length_flatten (ls : List (List Int)) : ls.flatten.length = total ls := by
  unfold total
  rw [List.length_flatten]

end Go.Proofs.YtpcejpcbkjnlkaaGreatDoor

/- The laws of a map of byte slices, each kept under a number. -/
import Derived.Test.YtmlfgokbcafbkaaGreatDoorRows
import Derived.Test.YtmlfgokbcafbkaaGreatDoorTk1
import Derived.Maps.OwnSet
namespace Go.Proofs.YtmlfgokbcafbkaaGreatDoor
open Go.RowKit

theorem intKeyed' : Maps.Keyed Tryz.prog 3 := Maps.int_keyed Tryz.underlying3
/-- an element is told whole -/
def ValR (v : Value) : Option (DataW Value × List MemPlace) := some (.held v, [])
theorem bytes_zero (w : World) : (zeroValue 34).run Tryz.prog w = .ok (.slice none 0 0) w := by
  have h : (Tryz.prog.info? 34).map (·.zero) = some (some (.slice none 0 0)) := by kernel_rfl
  cases hi : Tryz.prog.info? 34 with
  | none => rw [hi] at h; simp at h
  | some i =>
    rw [hi] at h
    simp at h
    simp [zeroValue, typeInfo, hi, h]
/-- The map's block holds these keys, each with a value. -/
def MapB (w : World) (b : Nat) (m : List (Int × Value)) : Prop :=
  ∃ D : DataW Value, w.ownsMap Tryz.prog 3 ValR b m.length D ∧ (∀ k : Int, D.atKey (.int .i64 k) (.held (.slice none 0 0)) = .held ((m.lookup k).getD (.slice none 0 0))) ∧
    ∀ k : Int, Maps.has D (.int .i64 k) = (m.lookup k).isSome
theorem MapB.keep {w w' : World} {b : Nat} {m : List (Int × Value)} (h : MapB w b m) (hk : w'.heap[b]? = w.heap[b]?) : MapB w' b m := by
  obtain ⟨D, ⟨es, clock, h1, h2⟩, h3⟩ := h
  exact ⟨D, ⟨es, clock, hk.trans h1, h2⟩, h3⟩
theorem MapB.lt {w : World} {b : Nat} {m : List (Int × Value)} (h : MapB w b m) : b < w.heap.size := by
  obtain ⟨D, h, -⟩ := h
  exact h.lt
theorem MapB.new (w : World) : MapB (w.alloc (.map #[] 0)) w.heap.size [] :=
  ⟨.map [], World.ownsMap_made w _ _ _, fun k => rfl, fun k => rfl⟩
theorem MapB.look {w : World} {b : Nat} {m : List (Int × Value)} (h : MapB w b m) (k : Int) (hk : (Lit.int .i64 k).wf = true) :
    (Instr.lookup 77 (.map (some b)) (.int .i64 k) true).run Tryz.prog w = .ok (.tuple #[(m.lookup k).getD (.slice none 0 0), .bool (m.lookup k).isSome]) w := by
  obtain ⟨D, h1, h2, h3⟩ := h
  have hkey : keyOf Tryz.prog 3 (.int .i64 k) = some (.int .i64 k) := by simp [keyOf, Tryz.underlying3, mapKey, hk]
  obtain ⟨v, ps, hrun, hv⟩ := h1.look_ok intKeyed' Tryz.underlying77 (bytes_zero w) (zd := .held (.slice none 0 0)) (zp := []) rfl hkey
  rw [h2 k] at hv
  have e : v = (m.lookup k).getD (.slice none 0 0) := by
    unfold ValR at hv
    simpa using congrArg Prod.fst (Option.some.inj hv)
  rw [hrun, e, h3 k]
theorem MapB.put {w : World} {b : Nat} {m : List (Int × Value)} (h : MapB w b m) (k : Int) (hk : (Lit.int .i64 k).wf = true) (v : Value) (hn : m.lookup k = none) (hl : m.length < 1000000) :
    ∃ w', (Instr.mapUpdate 77 (.map (some b)) (.int .i64 k) v).run Tryz.prog w = .ok () w' ∧ MapB w' b (m ++ [(k, v)]) ∧ w.grownBy w' (some b) := by
  obtain ⟨D, h1, h2, h3⟩ := h
  have hkey : keyOf Tryz.prog 3 (.int .i64 k) = some (.int .i64 k) := by simp [keyOf, Tryz.underlying3, mapKey, hk]
  obtain ⟨es, hD, -, -⟩ := h1.entries intKeyed'
  have hmap : Maps.IsMap D := ⟨es, hD⟩
  have hkl := intKeyed'.key hkey
  obtain ⟨w', hrun, ho, hg⟩ := h1.update intKeyed' Tryz.underlying77 (by unfold maxLen; omega) hkey (val := v) (d := .held v) (ps := []) rfl
  have hother : ∀ k', ¬ k' = k → (m ++ [(k, v)]).lookup k' = m.lookup k' := by
    intro k' e
    rw [List.lookup_append]
    have : List.lookup k' [(k, v)] = none := by simp [List.lookup, show (k' == k) = false by simpa using e]
    rw [this]
    simp
  have hsame : (m ++ [(k, v)]).lookup k = some v := by
    rw [List.lookup_append, hn]; simp
  refine ⟨w', hrun, ⟨_, by simpa using ho, ?_, ?_⟩, hg⟩
  · intro k'
    by_cases e : k' = k
    · subst e
      rw [Maps.atKey_put_same hmap hkl, hsame]
      rfl
    · rw [Maps.atKey_put_other (by intro h; injection h with _ h; exact e h), h2 k', hother k' e]
  · intro k'
    by_cases e : k' = k
    · subst e
      rw [Maps.has_put_same hmap hkl, hsame]
      rfl
    · rw [Maps.has_put_other (by intro h; injection h with _ h; exact e h), h3 k', hother k' e]
end Go.Proofs.YtmlfgokbcafbkaaGreatDoor

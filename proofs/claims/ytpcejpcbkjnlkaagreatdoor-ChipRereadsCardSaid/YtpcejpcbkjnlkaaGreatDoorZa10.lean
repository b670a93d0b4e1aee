/- Pick of a literal list. Printed by gen_drawn.py. -/
import Derived.Test.YtpcejpcbkjnlkaaGreatDoorZa9
import Derived.Laws.Rows
import Derived.Deep.DeepCutAuto
set_option linter.unusedVariables false
namespace Go.Proofs.YtpcejpcbkjnlkaaGreatDoor
open Go.RowKit

theorem pick_lit (w : World) (p : Nat) (A : Option Addr) (n c : Nat) (l : List Int) (a : Int) (h : Str w p A n c l a) (ha : a ≤ 1000000000) (xs : List Int) (k : Nat) (hk : k = xs.length) (hk0 : 0 < k) (hk1 : k ≤ 1000) (q : Nat) (hq : q = w.heap.size) (cs : Array Value) (hcs : cs = (ints xs).toArray) :
    Calls Tryz.prog 16 #[.pointer (some ⟨p, 0, none⟩), .slice (some ⟨q, 0, none⟩) k k] (w.alloc (.cells cs 3)) fun e w' => ∃ (v a' : Int), e = .returned (.int .i64 v) ∧ v ∈ xs ∧ a ≤ a' ∧ a' ≤ a + 1 ∧ Str w' p A n c l a' ∧ Keeps (· = p) w w' := by
  subst hq
  subst hcs
  have hp := h.blk.lt
  refine (pick_any _ p A n c l a (h.alloc _) ha ⟨w.heap.size, 0, none⟩ k k xs (fun g => g = w.heap.size) (reads_new w 3 xs k hk) (by omega) hk0 (by omega)).mono ?_
  rintro e w' ⟨v, a', rfl, hv, g1, g2, hs, hkp⟩
  exact ⟨v, a', rfl, hv, g1, g2, hs, ((Keeps.refl _ w).alloc _).tr hkp⟩

theorem keeps4 (w : World) (g : Nat) (a0 a1 a2 a3 : Value) : Keeps (· = g) w ((((w.setCell ⟨g, 0, none⟩ a0).setCell ⟨g, 1, none⟩ a1).setCell ⟨g, 2, none⟩ a2).setCell ⟨g, 3, none⟩ a3) :=
  Keeps.setCell (p := ⟨g, 3, none⟩) (Keeps.setCell (p := ⟨g, 2, none⟩) (Keeps.setCell (p := ⟨g, 1, none⟩) (Keeps.setCell (p := ⟨g, 0, none⟩) (Keeps.refl (· = g) w) (fun _ => rfl) _) (fun _ => rfl) _) (fun _ => rfl) _) (fun _ => rfl) _
theorem blk4 (w : World) (g : Nat) (t : TypeId) (b0 b1 b2 b3 a0 a1 a2 a3 : Value) (h : Blk w g t #[b0, b1, b2, b3]) :
    Blk ((((w.setCell ⟨g, 0, none⟩ a0).setCell ⟨g, 1, none⟩ a1).setCell ⟨g, 2, none⟩ a2).setCell ⟨g, 3, none⟩ a3) g t #[a0, a1, a2, a3] := by
  have h : Blk (w.setCell ⟨g, 0, none⟩ a0) g t #[a0, b1, b2, b3] := h.set_ 0 a0
  have h : Blk ((w.setCell ⟨g, 0, none⟩ a0).setCell ⟨g, 1, none⟩ a1) g t #[a0, a1, b2, b3] := h.set_ 1 a1
  have h : Blk (((w.setCell ⟨g, 0, none⟩ a0).setCell ⟨g, 1, none⟩ a1).setCell ⟨g, 2, none⟩ a2) g t #[a0, a1, a2, b3] := h.set_ 2 a2
  exact h.set_ 3 a3
theorem Str.again {w w' : World} {p : Nat} {A : Option Addr} {n c : Nat} {l : List Int} {a a' : Int} (h : Str w p A n c l a) (k : Keeps (· = p) w w') (hb : Blk w' p 25 #[.slice A n c, .int .i64 a']) (h0 : 0 ≤ a') : Str w' p A n c l a' := by
  refine ⟨hb, ⟨h.reads.1, fun hn => ?_⟩, h.wf, h.len, h0⟩
  obtain ⟨ad, e, hb, ht, hc⟩ := h.reads.2 hn
  exact ⟨ad, e, Nat.lt_of_lt_of_le hb k.size, ht, fun j u hu => (k.cell (by rw [block_of_add]; exact hb) (by rw [block_of_add]; exact ht)).trans (hc j u hu)⟩
theorem inList {v : Int} {xs : List Int} (h : v ∈ xs) (hx : ∀ x ∈ xs, 0 ≤ x ∧ x ≤ 65) : 0 ≤ v ∧ v ≤ 65 := hx v h
end Go.Proofs.YtpcejpcbkjnlkaaGreatDoor

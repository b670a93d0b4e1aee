/- models.single: what it finds in shards. -/
import Derived.Test.YtmlfgokbcafbkaaGreatDoorTk17
import Derived.Test.YtmlfgokbcafbkaaGreatDoorTk18
namespace Go.Proofs.YtmlfgokbcafbkaaGreatDoor
open Go.RowKit

theorem shardF_parts (b : List Int) (k i : Nat) : ∃ a0 a1 a2 a3, shardF b k i = a0 :: a1 :: a2 :: a3 :: 119 :: 115 :: codeF b % 256 :: codeF b / 256 % 256 :: codeF b / 65536 % 256 :: codeF b / 16777216 % 256 :: (i : Int) :: (k : Int) :: partF b k i := by
  rw [shardF_eq]
  unfold sealM
  rw [low4, low4]
  exact ⟨_, _, _, _, rfl⟩
theorem shardF_intact (b : List Int) (k i : Nat) : (leF ((shardF b k i).take 4) == codeF ((shardF b k i).drop 4)) = true := by
  have h1 : intactM (shardF b k i) := sealM_intact _
  unfold intactM at h1
  simpa using h1
theorem partF_bytes {b : List Int} (hb : isBytes b) (k i : Nat) : isBytes (partF b k i) := fun x hx => hb x (List.mem_of_mem_drop (List.mem_of_mem_take hx))
theorem shardF_bytes {b : List Int} (hb : isBytes b) (k i : Nat) (hi : i ≤ 255) (hk : k ≤ 255) : isBytes (shardF b k i) :=
  isBytes_append (lowF_bytes _ _) (isBytes_append (isBytes_append (isBytes_append (by intro x hx; simp at hx; omega) (lowF_bytes _ _)) (by intro x hx; simp at hx; omega)) (partF_bytes hb k i))
theorem shardF_length (b : List Int) (k i : Nat) : (shardF b k i).length = 12 + (partF b k i).length := by
  obtain ⟨a0, a1, a2, a3, e⟩ := shardF_parts b k i
  rw [e]
  simp only [List.length_cons]
  omega
theorem partF_le (b : List Int) (k i : Nat) : (partF b k i).length ≤ b.length := by
  unfold partF
  rw [List.length_take, List.length_drop]
  omega
/-- the cells of a slice that begins so -/
theorem Slb.at12 {w : World} {T : Nat → Prop} {v : Value} {xs : List Int} {a0 a1 a2 a3 x4 x5 q0 q1 q2 q3 x10 x11 : Int} {r : List Int} (h : Slb w T v xs) (e : xs = a0 :: a1 :: a2 :: a3 :: x4 :: x5 :: q0 :: q1 :: q2 :: q3 :: x10 :: x11 :: r) :
    ∃ (ad : Addr) (c : Nat), v = .slice (some ad) (12 + r.length) c ∧ ad.block < w.heap.size ∧ T ad.block ∧ 12 + r.length ≤ c ∧ c ≤ maxLen ∧ Reads w T 1 (some ad) (12 + r.length) (bytes xs) ∧
      w.cell? { block := ad.block, off := ad.off + 4 } = some (.int .u8 x4) ∧ w.cell? { block := ad.block, off := ad.off + 5 } = some (.int .u8 x5) ∧
      w.cell? { block := ad.block, off := ad.off + 10 } = some (.int .u8 x10) ∧ w.cell? { block := ad.block, off := ad.off + 11 } = some (.int .u8 x11) := by
  obtain ⟨A, c, rfl, hr, h1, h2⟩ := h
  have hl : xs.length = 12 + r.length := by rw [e]; simp only [List.length_cons]; omega
  rw [hl] at hr h1 ⊢
  obtain ⟨ad, rfl, hb, ht, hc⟩ := hr.2 (by omega)
  refine ⟨ad, c, rfl, hb, ht, h1, h2, hr, ?_, ?_, ?_, ?_⟩
  · exact hc 4 _ (by rw [e]; rfl)
  · exact hc 5 _ (by rw [e]; rfl)
  · exact hc 10 _ (by rw [e]; rfl)
  · exact hc 11 _ (by rw [e]; rfl)
/-- what the map holds: for each number found, a slice that reads as that part -/
def Found (w : World) (T : Nat → Prop) (b : List Int) (k : Nat) (idx : List Nat) (ms : List (Int × Value)) : Prop :=
  ms.length = idx.length ∧ ∀ j (h : j < idx.length), ∃ v, ms[j]? = some ((idx[j] : Int), v) ∧ Slb w T v (partF b k idx[j])
theorem Found.keeps {w w' : World} {T S : Nat → Prop} {b : List Int} {k : Nat} {idx : List Nat} {ms : List (Int × Value)} (h : Found w T b k idx ms) (hk : Keeps S w w') (hs : ∀ i, T i → ¬ S i) : Found w' T b k idx ms :=
  ⟨h.1, fun j hj => let ⟨v, h1, h2⟩ := h.2 j hj; ⟨v, h1, h2.keeps hk hs⟩⟩
theorem Found.snoc {w : World} {T : Nat → Prop} {b : List Int} {k : Nat} {idx : List Nat} {ms : List (Int × Value)} {i : Nat} {v : Value} (h : Found w T b k idx ms) (hv : Slb w T v (partF b k i)) : Found w T b k (idx ++ [i]) (ms ++ [((i : Int), v)]) := by
  refine ⟨by simp [h.1], fun j hj => ?_⟩
  by_cases hlt : j < idx.length
  · obtain ⟨u, h1, h2⟩ := h.2 j hlt
    exact ⟨u, by rw [List.getElem?_append_left (by rw [h.1]; exact hlt), List.getElem_append_left hlt]; exact h1, by rw [List.getElem_append_left hlt]; exact h2⟩
  · have he : j = idx.length := by simp at hj; omega
    subst he
    exact ⟨v, by rw [List.getElem?_append_right (by rw [h.1]; exact Nat.le_refl _)]; simp [h.1], by simp; exact hv⟩
theorem Found.none_ {w : World} {T : Nat → Prop} {b : List Int} {k : Nat} {idx : List Nat} {ms : List (Int × Value)} {i : Nat} (h : Found w T b k idx ms) (hi : i ∉ idx) : ms.lookup (i : Int) = none := by
  rw [List.lookup_eq_none_iff]
  rintro ⟨x, v⟩ hp
  obtain ⟨j, hj, e⟩ := List.mem_iff_getElem.1 hp
  have hj' : j < idx.length := by rw [← h.1]; exact hj
  obtain ⟨u, h1, -⟩ := h.2 j hj'
  rw [List.getElem?_eq_getElem hj, e] at h1
  injection h1 with h1
  injection h1 with h1 h2
  have : idx[j] ≠ i := fun e => hi (e ▸ List.getElem_mem hj')
  simp [h1]
  omega
theorem Found.some_ {w : World} {T : Nat → Prop} {b : List Int} {k : Nat} {idx : List Nat} {ms : List (Int × Value)} {i : Nat} (h : Found w T b k idx ms) (hi : i ∈ idx) : ∃ v, ms.lookup (i : Int) = some v ∧ Slb w T v (partF b k i) := by
  have hex : (ms.lookup (i : Int)).isSome = true := by
    rw [Option.isSome_iff_ne_none]
    intro hn
    rw [List.lookup_eq_none_iff] at hn
    obtain ⟨j, hj, e⟩ := List.mem_iff_getElem.1 hi
    obtain ⟨u, h1, -⟩ := h.2 j hj
    have hm : ((idx[j] : Int), u) ∈ ms := List.mem_of_getElem? h1
    have := hn _ hm
    rw [e] at this
    simp at this
  obtain ⟨v, hv⟩ := Option.isSome_iff_exists.1 hex
  refine ⟨v, hv, ?_⟩
  have hm : ((i : Int), v) ∈ ms := by
    obtain ⟨l1, l2, e, -⟩ := List.lookup_eq_some_iff.1 hv
    rw [e]; simp
  obtain ⟨j, hj, e⟩ := List.mem_iff_getElem.1 hm
  have hj' : j < idx.length := by rw [← h.1]; exact hj
  obtain ⟨u, h1, h2⟩ := h.2 j hj'
  rw [List.getElem?_eq_getElem hj, e] at h1
  injection h1 with h1
  injection h1 with h1 h3
  have : idx[j] = i := by omega
  rw [this] at h2
  rw [h3]; exact h2
end Go.Proofs.YtmlfgokbcafbkaaGreatDoor

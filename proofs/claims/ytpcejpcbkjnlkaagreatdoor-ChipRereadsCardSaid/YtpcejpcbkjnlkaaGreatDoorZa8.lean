/- Words for memory, used by all texts of this seat: a slice that reads as a list, a block that is known whole, what a call keeps. Conditions: none. -/
import Derived.WalkKit
import Derived.WalkSpells
import Derived.WalkLawsBesides
import Derived.Below
import Derived.Laws.OwnMore
import Derived.Deep.AppendLies
import Derived.Deep.Draws
import Derived.Laws.Rows
import Derived.Maps.AppendAt
import Derived.Deep.QuietTactic
import Derived.BigQuiet
import Derived.Handy
import Derived.Lib.Hide
set_option linter.unusedVariables false
namespace Go.Proofs.YtpcejpcbkjnlkaaGreatDoor
open Go.RowKit

theorem block_of_add (a : Addr) (n : Nat) : (a.add n).block = a.block := by unfold Addr.add; split <;> rfl
theorem add_of_add (a : Addr) (i j : Nat) : (a.add i).add j = a.add (i + j) := by
  unfold Addr.add
  by_cases hi : i = 0 <;> by_cases hj : j = 0 <;> simp [hi, hj, Nat.add_assoc]

/-! ### a quiet region behind a quiet region -/
theorem quiet_add_left {P : Program} {f : FuncId} {args : Array Value} {w : World} {a n : Nat} {v : Value}
    (h : Calls P f args (w.drewN (a + n)) fun e w' => e = .returned v ∧ w.drewN (a + n) = w') :
    Calls P f args (w.drewN (a + n)) fun e w'' => e = .returned v ∧ ∃ m, w'' = w.drewN (a + m) :=
  h.mono fun _ _ ⟨he, hm⟩ => ⟨he, n, hm.symm⟩
theorem quiet_left {P : Program} {f : FuncId} {args : Array Value} {w : World} {n : Nat} {v : Value}
    (h : Calls P f args (w.drewN n) fun e w' => e = .returned v ∧ w.drewN n = w') : Calls P f args (w.drewN n) fun e w'' => e = .returned v ∧ ∃ m, w'' = w.drewN m :=
  h.mono fun _ _ ⟨he, hm⟩ => ⟨he, n, hm.symm⟩

/-! ### a slice that reads as a list of cells; its block has the property T -/
def Reads (w : World) (T : Nat → Prop) (size : Nat) (A : Option Addr) (n : Nat) (xs : List Value) : Prop :=
  xs.length = n * size ∧ (0 < n → ∃ ad, A = some ad ∧ ad.block < w.heap.size ∧ T ad.block ∧ ∀ j u, xs[j]? = some u → w.cell? (ad.add j) = some u)

section
variable {w w' : World} {T T' S : Nat → Prop} {size n : Nat} {A : Option Addr} {xs : List Value}
theorem Reads.none_ : Reads w T size A 0 [] := ⟨by simp, fun h => absurd h (by omega)⟩
theorem Reads.at_ {k : Nat} (h : Reads w T 1 A n xs) (hk : k < n) : ∃ ad u, A = some ad ∧ ad.block < w.heap.size ∧ T ad.block ∧ xs[k]? = some u ∧ w.cell? (ad.add k) = some u := by
  obtain ⟨ad, e, hb, ht, hc⟩ := h.2 (by omega)
  have hl : k < xs.length := by have := h.1; omega
  exact ⟨ad, xs[k], e, hb, ht, List.getElem?_eq_getElem hl, hc k _ (List.getElem?_eq_getElem hl)⟩
theorem Reads.keep (h : Reads w T size A n xs) (hs : w.heap.size ≤ w'.heap.size) (hk : ∀ p : Addr, p.block < w.heap.size → T p.block → w'.cell? p = w.cell? p) : Reads w' T size A n xs :=
  ⟨h.1, fun hn => by
    obtain ⟨ad, e, hb, ht, hc⟩ := h.2 hn
    exact ⟨ad, e, Nat.lt_of_lt_of_le hb hs, ht, fun j u hu => (hk _ (by rw [block_of_add]; exact hb) (by rw [block_of_add]; exact ht)).trans (hc j u hu)⟩⟩
theorem Reads.more (h : Reads w T size A n xs) (hT : ∀ b, b < w.heap.size → T b → T' b) : Reads w T' size A n xs :=
  ⟨h.1, fun hn => by
    obtain ⟨ad, e, hb, ht, hc⟩ := h.2 hn
    exact ⟨ad, e, hb, hT _ hb ht, hc⟩⟩
theorem Reads.any (h : Reads w T size A n xs) : Reads w (fun _ => True) size A n xs := h.more fun _ _ _ => trivial
theorem Reads.old (h : Reads w T size A n xs) : Reads w (· < w.heap.size) size A n xs :=
  ⟨h.1, fun hn => by
    obtain ⟨ad, e, hb, ht, hc⟩ := h.2 hn
    exact ⟨ad, e, hb, hb, hc⟩⟩
theorem Reads.drew (h : Reads w T size A n xs) : Reads w.drew T size A n xs := h
theorem Reads.drewN (h : Reads w T size A n xs) (k : Nat) : Reads (w.drewN k) T size A n xs := h
theorem Reads.alloc (h : Reads w T size A n xs) (o : Obj) : Reads (w.alloc o) T size A n xs := h.keep (by simp) fun p hp _ => World.cell?_alloc_lt w o p hp
theorem Reads.setCell (h : Reads w T size A n xs) {p : Addr} (hp : ¬ T p.block) (u : Value) : Reads (w.setCell p u) T size A n xs :=
  h.keep (by simp [World.setCell]) fun q _ ht => World.cell?_setCell_other w p q u (fun e => hp (by rw [e]; exact ht))
theorem Reads.grown (h : Reads w T size A n xs) {row : Option Nat} (hg : w.grownBy w' row) (hr : ∀ g, row = some g → ¬ T g) : Reads w' T size A n xs :=
  h.keep hg.size fun p hp ht => World.cell?_of_block (hg.block p.block hp (fun e => hr _ e.symm ht))
theorem Reads.cut (h : Reads w T size A n xs) {k cap : Nat} (hk : k ≤ n) (hc : n ≤ cap) :
    Reads w T size (if cap = k then A else A.map (·.add (k * size))) (n - k) (xs.drop (k * size)) := by
  refine ⟨by rw [List.length_drop, h.1, Nat.sub_mul], fun hn => ?_⟩
  obtain ⟨ad, rfl, hb, ht, hcell⟩ := h.2 (by omega)
  rw [if_neg (by omega)]
  refine ⟨ad.add (k * size), rfl, by rw [block_of_add]; exact hb, by rw [block_of_add]; exact ht, fun j u hu => ?_⟩
  rw [add_of_add]
  exact hcell _ u (by rw [← hu, List.getElem?_drop])
theorem Reads.take (h : Reads w T size A n xs) {k : Nat} (hk : k ≤ n) : Reads w T size A k (xs.take (k * size)) := by
  refine ⟨by rw [List.length_take, h.1]; exact Nat.min_eq_left (Nat.mul_le_mul_right _ hk), fun hn => ?_⟩
  obtain ⟨ad, rfl, hb, ht, hcell⟩ := h.2 (by omega)
  refine ⟨ad, rfl, hb, ht, fun j u hu => hcell j u ?_⟩
  rw [List.getElem?_take] at hu
  split at hu
  · exact hu
  · cases hu
end

/-! ### a block that is known whole -/
def Blk (w : World) (g : Nat) (t : TypeId) (cs : Array Value) : Prop := w.heap[g]? = some (.cells cs t (0, 0))

section
variable {w w' : World} {g : Nat} {t : TypeId} {cs : Array Value}
theorem Blk.lt (h : Blk w g t cs) : g < w.heap.size := by
  rcases Nat.lt_or_ge g w.heap.size with hlt | hge
  · exact hlt
  · unfold Blk at h; rw [Array.getElem?_eq_none hge] at h; cases h
theorem Blk.cell (h : Blk w g t cs) (i : Nat) : w.cell? ⟨g, i, none⟩ = cs[i]? := cell_of_row w g i cs t (0, 0) h
theorem Blk.frozen (h : Blk w g t cs) (i : Nat) : w.frozen? ⟨g, i, none⟩ = false := by
  unfold Blk at h
  simp [World.frozen?, h]
theorem Blk.new (w : World) (t : TypeId) (cs : Array Value) : Blk (w.alloc (.cells cs t)) w.heap.size t cs := heap_alloc_new w _
theorem Blk.drew (h : Blk w g t cs) : Blk w.drew g t cs := h
theorem Blk.drewN (h : Blk w g t cs) (n : Nat) : Blk (w.drewN n) g t cs := h
theorem Blk.alloc (h : Blk w g t cs) (o : Obj) : Blk (w.alloc o) g t cs := (Below.heap_alloc w o g h.lt).trans h
theorem Blk.set_ (h : Blk w g t cs) (i : Nat) (u : Value) : Blk (w.setCell ⟨g, i, none⟩ u) g t (cs.setIfInBounds i u) := by
  unfold Blk at h ⊢
  simp [World.setCell, Array.getElem?_modify, h]
theorem Blk.far (h : Blk w g t cs) {p : Addr} (hp : g ≠ p.block) (u : Value) : Blk (w.setCell p u) g t cs := (Below.heap_setCell w p u g hp).trans h
theorem Blk.below {B : Nat} (h : Blk w g t cs) (hb : Below B w w') (hg : g < B) : Blk w' g t cs := (hb.block g hg).trans h
theorem Blk.grown {row : Option Nat} (h : Blk w g t cs) (hb : w.grownBy w' row) (hg : some g ≠ row) : Blk w' g t cs := (hb.block g h.lt hg).trans h
theorem Blk.ne_ {g' : Nat} {t' : TypeId} {cs' : Array Value} (h : Blk w g t cs) (h' : Blk w g' t' cs') (hne : t ≠ t') : g ≠ g' := by
  rintro rfl
  unfold Blk at h h'
  rw [h] at h'
  injection h' with h'
  injection h' with _ ht
  exact hne ht
end

/-! ### what a call keeps: all blocks but those of S, and what is new -/
structure Keeps (S : Nat → Prop) (w w' : World) : Prop where
  os : w'.os = w.os
  tape : w'.tape = w.tape
  output : w'.output = w.output
  size : w.heap.size ≤ w'.heap.size
  block : ∀ k, k < w.heap.size → ¬ S k → w'.heap[k]? = w.heap[k]?

section
variable {S S' : Nat → Prop} {a b w w' : World}
theorem Keeps.refl (S : Nat → Prop) (w : World) : Keeps S w w := ⟨rfl, rfl, rfl, Nat.le_refl _, fun _ _ _ => rfl⟩
theorem Keeps.trans (h : Keeps S a b) (k : Keeps S' b w) (hs : ∀ i, i < a.heap.size → S' i → S i) : Keeps S a w :=
  ⟨k.os.trans h.os, k.tape.trans h.tape, k.output.trans h.output, Nat.le_trans h.size k.size,
   fun i hi hn => (k.block i (Nat.lt_of_lt_of_le hi h.size) (fun hh => hn (hs i hi hh))).trans (h.block i hi hn)⟩
theorem Keeps.tr (h : Keeps S a b) (k : Keeps S b w) : Keeps S a w := h.trans k fun _ _ h => h
theorem Keeps.mono (h : Keeps S a w) (hs : ∀ i, i < a.heap.size → S i → S' i) : Keeps S' a w := ⟨h.os, h.tape, h.output, h.size, fun i hi hn => h.block i hi (fun hh => hn (hs i hi hh))⟩
theorem Keeps.drew (h : Keeps S a w) : Keeps S a w.drew := ⟨h.os, h.tape, h.output, h.size, h.block⟩
theorem Keeps.drewN (h : Keeps S a w) (n : Nat) : Keeps S a (w.drewN n) := ⟨h.os, h.tape, h.output, h.size, h.block⟩
theorem Keeps.alloc (h : Keeps S a w) (o : Obj) : Keeps S a (w.alloc o) :=
  ⟨h.os, h.tape, h.output, Nat.le_trans h.size (by simp), fun i hi hn => (Below.heap_alloc w o i (Nat.lt_of_lt_of_le hi h.size)).trans (h.block i hi hn)⟩
theorem Keeps.setCell (h : Keeps S a w) {p : Addr} (hp : p.block < a.heap.size → S p.block) (u : Value) : Keeps S a (w.setCell p u) :=
  ⟨h.os, h.tape, h.output, by simpa [World.setCell] using h.size, fun i hi hn => (Below.heap_setCell w p u i (by rintro rfl; exact hn (hp hi))).trans (h.block i hi hn)⟩
theorem Keeps.below (h : Keeps S a b) {B : Nat} (k : Below B b w) (hB : ∀ i, i < a.heap.size → B ≤ i → S i) : Keeps S a w :=
  ⟨k.os.trans h.os, k.tape.trans h.tape, k.output.trans h.output, Nat.le_trans h.size k.size,
   fun i hi hn => (k.block i (by rcases Nat.lt_or_ge i B with hh | hh; exact hh; exact absurd (hB i hi hh) hn)).trans (h.block i hi hn)⟩
theorem Keeps.fresh (h : Keeps S a b) (k : Below b.heap.size b w) : Keeps S a w :=
  ⟨k.os.trans h.os, k.tape.trans h.tape, k.output.trans h.output, Nat.le_trans h.size k.size,
   fun i hi hn => (k.block i (Nat.lt_of_lt_of_le hi h.size)).trans (h.block i hi hn)⟩
theorem Keeps.grown (h : Keeps S a w) {row : Option Nat} (hg : w.grownBy w' row) (hr : ∀ k, row = some k → k < a.heap.size → S k) : Keeps S a w' :=
  ⟨hg.os.trans h.os, hg.tape.trans h.tape, hg.output.trans h.output, Nat.le_trans h.size hg.size,
   fun i hi hn => (hg.block i (Nat.lt_of_lt_of_le hi h.size) (fun e => hn (hr i e.symm hi))).trans (h.block i hi hn)⟩
theorem Keeps.of_below (h : Below w.heap.size w w') (S : Nat → Prop) : Keeps S w w' := (Keeps.refl S w).fresh h
theorem Keeps.to_below (h : Keeps (fun _ => False) w w') : Below w.heap.size w w' := ⟨h.os, h.tape, h.output, h.size, fun i hi => h.block i hi id⟩
theorem Keeps.cell (h : Keeps S w w') {p : Addr} (hp : p.block < w.heap.size) (hs : ¬ S p.block) : w'.cell? p = w.cell? p := World.cell?_of_block (w := w) (h.block p.block hp hs)
theorem Keeps.blk (h : Keeps S w w') {g : Nat} {t : TypeId} {cs : Array Value} (hb : Blk w g t cs) (hs : ¬ S g) : Blk w' g t cs := (h.block g hb.lt hs).trans hb
theorem Reads.keeps {T : Nat → Prop} {size n : Nat} {A : Option Addr} {xs : List Value} (h : Reads w T size A n xs) (hk : Keeps S w w') (hs : ∀ i, T i → ¬ S i) : Reads w' T size A n xs :=
  h.keep hk.size fun _ hp ht => hk.cell hp (hs _ ht)
theorem Reads.fresh {T : Nat → Prop} {size n : Nat} {A : Option Addr} {xs : List Value} (h : Reads w T size A n xs) (hk : Below w.heap.size w w') : Reads w' T size A n xs :=
  h.keep hk.size fun _ hp _ => hk.cell hp
end

/-! ### a row of the call's own; its block has the property T -/
def Own (w : World) (T : Nat → Prop) (e : TypeId) (size : Nat) (v : Value) (n : Nat) (xs : List Value) : Prop :=
  w.ownsRow 0 e size v n xs ∧ ∀ g, v.ownBlock = some g → T g

section
variable {w w' : World} {T T' S : Nat → Prop} {e : TypeId} {size n : Nat} {v : Value} {xs : List Value}
theorem Own.nil_ (w : World) (T : Nat → Prop) (e : TypeId) (size : Nat) : Own w T e size (.slice none 0 0) 0 [] := ⟨World.ownsRow_nil _ _ _ _, fun g h => by simp [Value.ownBlock] at h⟩
theorem Own.length (h : Own w T e size v n xs) : xs.length = n * size := h.1.1
theorem Own.lt (h : Own w T e size v n xs) {g : Nat} (hg : v.ownBlock = some g) : g < w.heap.size := (h.1.lt g hg).2
theorem Own.more (h : Own w T e size v n xs) (hT : ∀ g, g < w.heap.size → T g → T' g) : Own w T' e size v n xs := ⟨h.1, fun g hg => hT g (h.lt hg) (h.2 g hg)⟩
theorem Own.keep (h : Own w T e size v n xs) (hk : ∀ g, g < w.heap.size → T g → w'.heap[g]? = w.heap[g]?) : Own w' T e size v n xs := by
  refine ⟨⟨h.1.1, ?_⟩, h.2⟩
  rcases h.1.2 with h2 | ⟨g, cap, cur, hv, hg, hh, r⟩
  · exact .inl h2
  · have hb : v.ownBlock = some g := by rw [hv]; rfl
    exact .inr ⟨g, cap, cur, hv, hg, by rw [hk g (h.lt hb) (h.2 g hb)]; exact hh, r⟩
theorem Own.keeps (h : Own w T e size v n xs) (hk : Keeps S w w') (hs : ∀ i, T i → ¬ S i) : Own w' T e size v n xs := h.keep fun g hg ht => hk.block g hg (hs g ht)
theorem Own.fresh (h : Own w T e size v n xs) (hk : Below w.heap.size w w') : Own w' T e size v n xs := h.keep fun g hg _ => hk.block g hg
theorem Own.drew (h : Own w T e size v n xs) : Own w.drew T e size v n xs := h
theorem Own.drewN (h : Own w T e size v n xs) (k : Nat) : Own (w.drewN k) T e size v n xs := h
theorem Own.alloc (h : Own w T e size v n xs) (o : Obj) : Own (w.alloc o) T e size v n xs := h.keep fun g hg _ => Below.heap_alloc w o g hg
theorem Own.setCell (h : Own w T e size v n xs) {p : Addr} (hp : ¬ T p.block) (u : Value) : Own (w.setCell p u) T e size v n xs :=
  h.keep fun g _ ht => Below.heap_setCell w p u g (by rintro rfl; exact hp ht)
theorem Own.grown (h : Own w T e size v n xs) {row : Option Nat} (hg : w.grownBy w' row) (hr : ∀ g, row = some g → ¬ T g) : Own w' T e size v n xs :=
  h.keep fun g hl ht => hg.block g hl (fun e => hr g e.symm ht)
theorem Own.form (h : Own w T e size v n xs) (hn : 0 < n) : ∃ g cap, v = .slice (some ⟨g, 0, none⟩) n cap ∧ n ≤ cap ∧ cap ≤ maxLen ∧ g < w.heap.size ∧ T g := by
  rcases h.1.2 with ⟨_, h0⟩ | ⟨g, cap, cur, rfl, _, hh, h1, h2, _⟩
  · omega
  · exact ⟨g, cap, rfl, h1, h2, h.lt rfl, h.2 g rfl⟩
theorem Own.shape (h : Own w T e size v n xs) : ∃ A cap, v = .slice A n cap ∧ n ≤ cap ∧ cap ≤ maxLen := by
  rcases h.1.2 with ⟨rfl, h0⟩ | ⟨g, cap, cur, rfl, _, hh, h1, h2, _⟩
  · exact ⟨none, 0, by rw [h0], by omega, Nat.zero_le _⟩
  · exact ⟨_, cap, rfl, h1, h2⟩
theorem Own.reads {A : Option Addr} {c : Nat} (h : Own w T e size (.slice A n c) n xs) : Reads w T size A n xs := by
  refine ⟨h.1.1, fun hn => ?_⟩
  obtain ⟨g, cap, hv, _, _, hlt, ht⟩ := h.form hn
  have hA : A = some ⟨g, 0, none⟩ := by injection hv
  subst hA
  exact ⟨_, rfl, hlt, ht, h.1.cells (g := g) rfl⟩
theorem Own.get {g cap : Nat} (h : Own w T e 1 (.slice (some ⟨g, 0, none⟩) n cap) n xs) (j : Nat) (hj : j < n) : w.cell? ⟨g, j, none⟩ = xs[j]? := h.1.cellAt j (by simpa using hj)
theorem Own.unfrozen {g cap : Nat} (h : Own w T e 1 (.slice (some ⟨g, 0, none⟩) n cap) n xs) (j : Nat) : w.frozen? ⟨g, j, none⟩ = false := h.1.frozenAt j
theorem Own.set {g cap : Nat} (h : Own w T e 1 (.slice (some ⟨g, 0, none⟩) n cap) n xs) (j : Nat) (hj : j < n) (u : Value) : Own (w.setCell ⟨g, j, none⟩ u) T e 1 (.slice (some ⟨g, 0, none⟩) n cap) n (xs.set j u) :=
  ⟨(h.1.stored j u).1, h.2⟩
theorem Own.ne_blk {g : Nat} {t : TypeId} {cs : Array Value} (h : Own w T e size v n xs) (hg : Blk w g t cs) (hne : e ≠ t) : v.ownBlock ≠ some g := by
  rcases h.1.2 with ⟨rfl, _⟩ | ⟨g', cap, cur, rfl, _, hh, _⟩
  · simp [Value.ownBlock]
  · intro he
    have : g' = g := by simpa [Value.ownBlock] using he
    subst this
    exact Blk.ne_ (t := e) hh hg hne rfl
end

/-! ### append onto a row of the call's own, the source nil, empty or not -/
section
variable {P : Program} (w : World)

theorem run_append_of_nil (t ty e : TypeId) (i : TypeInfo) (size : Nat) (ht : P.underlying t = some (.slice e)) (hi : P.info? e = some i)
    (v : Value) (n : Nat) (xs : List Value) (hown : w.ownsRow 0 e size v n xs) (c : Nat) : (Builtin.append_ #[t, t] ty #[v, .slice none 0 c]).run P w = .ok v w := by
  rcases hown.2 with ⟨rfl, rfl⟩ | ⟨g, cap, cur, rfl, _, _, hnc, _⟩
  · simp [Builtin.append_, run_underlying ht, sizeOf, typeInfo, hi, Builtin.lenOf, Builtin.firstCells]
  · simp [Builtin.append_, run_underlying ht, sizeOf, typeInfo, hi, Builtin.lenOf, Builtin.firstCells, hnc, storeCells]

/-- What an append leaves: the new value, its row; only the old row has turned. -/
def Appended (w w' : World) (T : Nat → Prop) (e : TypeId) (size : Nat) (v v' : Value) (n : Nat) (xs : List Value) : Prop :=
  Own w' (fun g => T g ∨ g = w.heap.size) e size v' n xs ∧ w.grownBy w' v.ownBlock ∧ (v'.ownBlock = v.ownBlock ∨ v'.ownBlock = some w.heap.size)

theorem run_append_any (t ty e : TypeId) (i : TypeInfo) (z : Value) (size bytes : Nat) (ht : P.underlying t = some (.slice e)) (hi : P.info? e = some i) (hz : i.zero = some z)
    (hsize : i.size = size) (hby : i.bytes = bytes) (hzs : z.cells.size = size) (hsz : 0 < size) {T T' : Nat → Prop}
    (v : Value) (n : Nat) (xs : List Value) (hown : Own w T e size v n xs)
    (A : Option Addr) (m c : Nat) (news : List Value) (hr : Reads w T' size A m news) (h1 : ∀ u ∈ news, u.oneCell' = true)
    (h63 : n + m ≤ maxLen) (hbytes : (n + m) * bytes ≤ 140737488355328) :
    ∃ v' w', (Builtin.append_ #[t, t] ty #[v, .slice A m c]).run P w = .ok v' w' ∧ Appended w w' T e size v v' (n + m) (xs ++ news) := by
  have key : ∀ v' w', w'.ownsRow 0 e size v' (n + m) (xs ++ news) → w.grownBy w' v.ownBlock → (v'.ownBlock = v.ownBlock ∨ v'.ownBlock = some w.heap.size) → Appended w w' T e size v v' (n + m) (xs ++ news) := by
    intro v' w' h2 h3 h4
    refine ⟨⟨h2, fun g hg => ?_⟩, h3, h4⟩
    rcases h4 with h | h
    · exact .inl (hown.2 g (h ▸ hg))
    · rw [h] at hg; exact .inr (by injection hg with hg; exact hg.symm)
  by_cases h0 : m = 0
  · subst h0
    have hn : news = [] := List.eq_nil_of_length_eq_zero (by simpa using hr.1)
    subst hn
    refine ⟨v, w, ?_, key v w (by simpa using hown.1) (World.grownBy.refl w _) (.inl rfl)⟩
    rcases A with _ | ad
    · exact run_append_of_nil w t ty e i size ht hi v n xs hown.1 c
    · rcases hown.1.2 with ⟨rfl, rfl⟩ | ⟨g, cap, cur, rfl, _, _, hnc, _⟩
      · simp [Builtin.append_, run_underlying ht, sizeOf, typeInfo, hi, Builtin.lenOf, Builtin.firstCells, loadCells, loadCellsFrom]
      · simp [Builtin.append_, run_underlying ht, sizeOf, typeInfo, hi, Builtin.lenOf, Builtin.firstCells, hnc, storeCells, loadCells, loadCellsFrom]
  · obtain ⟨ad, rfl, _, _, hc⟩ := hr.2 (by omega)
    obtain ⟨v', w', hrun, h2, h3, _, h5⟩ := run_append_own_at (P := P) w 0 t ty e i z size bytes ht hi hz hsize hby hzs hsz v n xs hown.1 ad m c news hr.1 hc h1 h63 hbytes (Nat.zero_le _)
    exact ⟨v', w', hrun, key v' w' h2 h3 h5⟩

theorem wp_append_any {o : Oper} {a : Act} {K : Act → World → Prop} {Q : Exit → Act → World → Prop} (s x : Operand) (t : TypeId)
    (ho : o.op = .call { callee := .builtin .append, args := #[s, x], argTypes := #[t, t] })
    (e : TypeId) (i : TypeInfo) (z : Value) (size bytes : Nat) (ht : P.underlying t = some (.slice e)) (hi : P.info? e = some i) (hz : i.zero = some z)
    (hsize : i.size = size) (hby : i.bytes = bytes) (hzs : z.cells.size = size) (hsz : 0 < size) {T T' : Nat → Prop}
    (v : Value) (n : Nat) (xs : List Value) (hs : a.eval s = v) (hown : Own w T e size v n xs)
    (A : Option Addr) (m c : Nat) (news : List Value) (hx : a.eval x = .slice A m c) (hr : Reads w T' size A m news) (h1 : ∀ u ∈ news, u.oneCell' = true)
    (h63 : n + m ≤ maxLen) (hbytes : (n + m) * bytes ≤ 140737488355328)
    (h : ∀ v' w', Appended w w' T e size v v' (n + m) (xs ++ news) → K (a.put o.dst v') w') : o.wp P a w K Q := by
  obtain ⟨v', w', hrun, h2⟩ := run_append_any (P := P) w t o.type e i z size bytes ht hi hz hsize hby hzs hsz v n xs hown A m c news hr h1 h63 hbytes
  unfold Oper.wp execOp
  simp only [ho, resolve, invoke, builtin, Sem.run_bind, Sem.run_pure, Result.andThen_ok, List.map_toArray, List.map_cons, List.map_nil, hs, hx, hrun]
  exact h v' w' h2

theorem wpList_append_any {ops : Array Oper} {rest : List Oper} {o : Oper} {a : Act} {Q : Exit → Act → World → Prop} (hgd : o.guard = none) (s x : Operand) (t : TypeId)
    (ho : o.op = .call { callee := .builtin .append, args := #[s, x], argTypes := #[t, t] })
    (e : TypeId) (i : TypeInfo) (z : Value) (size bytes : Nat) (ht : P.underlying t = some (.slice e)) (hi : P.info? e = some i) (hz : i.zero = some z)
    (hsize : i.size = size) (hby : i.bytes = bytes) (hzs : z.cells.size = size) (hsz : 0 < size) {T T' : Nat → Prop}
    (v : Value) (n : Nat) (xs : List Value) (hs : a.eval s = v) (hown : Own w T e size v n xs)
    (A : Option Addr) (m c : Nat) (news : List Value) (hx : a.eval x = .slice A m c) (hr : Reads w T' size A m news) (h1 : ∀ u ∈ news, u.oneCell' = true)
    (h63 : n + m ≤ maxLen) (hbytes : (n + m) * bytes ≤ 140737488355328)
    (h : ∀ v' w', Appended w w' T e size v v' (n + m) (xs ++ news) → wpList P ops Q rest (a.put o.dst v') w') : wpList P ops Q (o :: rest) a w :=
  wpList_plain hgd fun _ hK => wp_append_any w s x t ho e i z size bytes ht hi hz hsize hby hzs hsz v n xs hs hown A m c news hx hr h1 h63 hbytes fun v' w' h2 => hK _ _ (h v' w' h2)

theorem step_append_any {ops : Array Oper} {o : Oper} {a : Act} {K : Act → World → Prop} {Q : Exit → Act → World → Prop} {E : Prop} (hgd : o.guard = none) (s x : Operand) (t : TypeId)
    (ho : o.op = .call { callee := .builtin .append, args := #[s, x], argTypes := #[t, t] })
    (e : TypeId) (i : TypeInfo) (z : Value) (size bytes : Nat) (ht : P.underlying t = some (.slice e)) (hi : P.info? e = some i) (hz : i.zero = some z)
    (hsize : i.size = size) (hby : i.bytes = bytes) (hzs : z.cells.size = size) (hsz : 0 < size) {T T' : Nat → Prop}
    (v : Value) (n : Nat) (xs : List Value) (hs : a.eval s = v) (hown : Own w T e size v n xs)
    (A : Option Addr) (m c : Nat) (news : List Value) (hx : a.eval x = .slice A m c) (hr : Reads w T' size A m news) (h1 : ∀ u ∈ news, u.oneCell' = true)
    (h63 : n + m ≤ maxLen) (hbytes : (n + m) * bytes ≤ 140737488355328)
    (h : ∀ v' w', Appended w w' T e size v v' (n + m) (xs ++ news) → K (a.put o.dst v') w') :
    if Region.wanted o (yielded ops a.tmps) = true then Oper.wp P o a w K Q else E := by
  have hw : Region.wanted o (yielded ops a.tmps) = true := by simp [Region.wanted, hgd]
  rw [if_pos hw]
  exact wp_append_any w s x t ho e i z size bytes ht hi hz hsize hby hzs hsz v n xs hs hown A m c news hx hr h1 h63 hbytes h
end

theorem bcell {W w1 : World} (hb : Below W.heap.size W w1) : (∀ b o, b < W.heap.size → w1.cell? ⟨b, o, none⟩ = W.cell? ⟨b, o, none⟩) ∧ (∀ b o, b < W.heap.size → w1.frozen? ⟨b, o, none⟩ = W.frozen? ⟨b, o, none⟩) :=
  ⟨fun b o h => hb.cell (p := ⟨b, o, none⟩) h, fun b o h => hb.frozen (p := ⟨b, o, none⟩) h⟩

theorem _root_.Go.RowKit.Below.drewed {w w' : World} {B : Nat} (h : Below B w.drew w') : Below B w w' := ⟨h.os, h.tape, h.output, h.size, h.block⟩
theorem far_cell {W w' : World} {o : Obj} {row : Option Nat} (hg : (W.alloc o).grownBy w' row) (p : Addr) (hp : p.block < W.heap.size) (hne : row ≠ some p.block) : w'.cell? p = W.cell? p :=
  (World.cell?_of_block (hg.block p.block (by simp; omega) (fun e => hne e.symm))).trans (World.cell?_alloc_lt W o p hp)

theorem grown_after {wr W1 w' : World} {n : Nat} {o : Obj} {row : Option Nat} (hb : Below wr.heap.size wr W1) (hg : ((W1.drewN n).alloc o).grownBy w' row) : wr.grownBy w' row :=
  ⟨hg.os.trans hb.os, hg.tape.trans hb.tape, hg.output.trans hb.output, Nat.le_trans hb.size (Nat.le_trans (by simp) hg.size),
   fun i hi hn => (hg.block i (by have := hb.size; simp; omega) hn).trans ((Below.heap_alloc (W1.drewN n) o i (by have := hb.size; simp; omega)).trans (hb.block i hi))⟩

/-- Numbers as cells. -/
def ints (l : List Int) : List Value := l.map (Value.int .i64)
theorem ints_length (l : List Int) : (ints l).length = l.length := by simp [ints]
theorem ints_one (l : List Int) : ∀ u ∈ ints l, u.oneCell' = true := by
  intro u hu
  obtain ⟨_, _, rfl⟩ := List.mem_map.1 hu
  rfl
theorem ints_get (l : List Int) (k : Nat) (h : k < l.length) : (ints l)[k]? = some (.int .i64 l[k]) := by simp [ints, h]

/-- A slice that a literal has just made. -/
theorem reads_new (w : World) (t : TypeId) (xs : List Int) (n : Nat) (hn : n = xs.length) : Reads (w.alloc (.cells (ints xs).toArray t)) (· = w.heap.size) 1 (some ⟨w.heap.size, 0, none⟩) n (ints xs) := by
  refine ⟨by simp [ints, hn], fun _ => ⟨_, rfl, by simp, rfl, fun j u hu => ?_⟩⟩
  have h : Blk (w.alloc (.cells (ints xs).toArray t)) w.heap.size t (ints xs).toArray := Blk.new w t _
  rw [Addr.add_lit, h.cell]
  simpa using hu

/-- The value v is a slice of ints that reads as xs. -/
def Slc (w : World) (T : Nat → Prop) (v : Value) (xs : List Int) : Prop :=
  ∃ A c, v = .slice A xs.length c ∧ Reads w T 1 A xs.length (ints xs) ∧ xs.length ≤ c ∧ c ≤ maxLen ∧ (A = none → xs.length = 0 ∧ c = 0)
/-- The values are slices of ints that read as the lists. -/
def Rows (w : World) (T : Nat → Prop) (vs : List Value) (ls : List (List Int)) : Prop :=
  vs.length = ls.length ∧ ∀ i (h : i < ls.length), ∃ v, vs[i]? = some v ∧ Slc w T v ls[i]

section
variable {w w' : World} {T T' S : Nat → Prop} {v : Value} {xs : List Int} {vs : List Value} {ls : List (List Int)}
theorem Slc.keeps (h : Slc w T v xs) (hk : Keeps S w w') (hs : ∀ i, T i → ¬ S i) : Slc w' T v xs := by
  obtain ⟨A, c, h1, h2, h3⟩ := h
  exact ⟨A, c, h1, h2.keeps hk hs, h3⟩
theorem Slc.fresh (h : Slc w T v xs) (hk : Below w.heap.size w w') : Slc w' T v xs := by
  obtain ⟨A, c, h1, h2, h3⟩ := h
  exact ⟨A, c, h1, h2.fresh hk, h3⟩
theorem Slc.alloc (h : Slc w T v xs) (o : Obj) : Slc (w.alloc o) T v xs := by
  obtain ⟨A, c, h1, h2, h3⟩ := h
  exact ⟨A, c, h1, h2.alloc o, h3⟩
theorem Slc.drew (h : Slc w T v xs) : Slc w.drew T v xs := h
theorem Slc.drewN (h : Slc w T v xs) (n : Nat) : Slc (w.drewN n) T v xs := h
theorem Slc.more (h : Slc w T v xs) (hT : ∀ b, b < w.heap.size → T b → T' b) : Slc w T' v xs := by
  obtain ⟨A, c, h1, h2, h3⟩ := h
  exact ⟨A, c, h1, h2.more hT, h3⟩
theorem Slc.any (h : Slc w T v xs) : Slc w (fun _ => True) v xs := h.more fun _ _ _ => trivial
theorem Slc.old (h : Slc w T v xs) : Slc w (· < w.heap.size) v xs := by
  obtain ⟨A, c, h1, h2, h3⟩ := h
  exact ⟨A, c, h1, h2.old, h3⟩
theorem Slc.below {B : Nat} (h : Slc w T v xs) (hb : Below B w w') (hT : ∀ b, T b → b < B) : Slc w' T v xs := by
  obtain ⟨A, c, h1, h2, h3⟩ := h
  exact ⟨A, c, h1, h2.keep hb.size fun p _ ht => hb.cell (hT _ ht), h3⟩
theorem Rows.below {B : Nat} (h : Rows w T vs ls) (hb : Below B w w') (hT : ∀ b, T b → b < B) : Rows w' T vs ls :=
  ⟨h.1, fun i hi => let ⟨v, h1, h2⟩ := h.2 i hi; ⟨v, h1, h2.below hb hT⟩⟩
theorem Rows.old (h : Rows w T vs ls) : Rows w (· < w.heap.size) vs ls :=
  ⟨h.1, fun i hi => let ⟨v, h1, h2⟩ := h.2 i hi; ⟨v, h1, h2.old⟩⟩
theorem Rows.keeps (h : Rows w T vs ls) (hk : Keeps S w w') (hs : ∀ i, T i → ¬ S i) : Rows w' T vs ls :=
  ⟨h.1, fun i hi => let ⟨v, h1, h2⟩ := h.2 i hi; ⟨v, h1, h2.keeps hk hs⟩⟩
theorem Rows.fresh (h : Rows w T vs ls) (hk : Below w.heap.size w w') : Rows w' T vs ls :=
  ⟨h.1, fun i hi => let ⟨v, h1, h2⟩ := h.2 i hi; ⟨v, h1, h2.fresh hk⟩⟩
theorem Rows.alloc (h : Rows w T vs ls) (o : Obj) : Rows (w.alloc o) T vs ls :=
  ⟨h.1, fun i hi => let ⟨v, h1, h2⟩ := h.2 i hi; ⟨v, h1, h2.alloc o⟩⟩
theorem Rows.more (h : Rows w T vs ls) (hT : ∀ b, b < w.heap.size → T b → T' b) : Rows w T' vs ls :=
  ⟨h.1, fun i hi => let ⟨v, h1, h2⟩ := h.2 i hi; ⟨v, h1, h2.more hT⟩⟩
theorem Rows.any (h : Rows w T vs ls) : Rows w (fun _ => True) vs ls := h.more fun _ _ _ => trivial
theorem Rows.nil_ (w : World) (T : Nat → Prop) : Rows w T [] [] := ⟨rfl, fun i h => absurd h (by simp)⟩
theorem Rows.snoc (h : Rows w T vs ls) (hv : Slc w T v xs) : Rows w T (vs ++ [v]) (ls ++ [xs]) := by
  refine ⟨by simp [h.1], fun i hi => ?_⟩
  by_cases hlt : i < ls.length
  · obtain ⟨u, h1, h2⟩ := h.2 i hlt
    exact ⟨u, by rw [List.getElem?_append_left (by rw [h.1]; exact hlt)]; exact h1, by rw [List.getElem_append_left hlt]; exact h2⟩
  · have he : i = ls.length := by simp at hi; omega
    subst he
    exact ⟨v, by rw [List.getElem?_append_right (by rw [h.1]; exact Nat.le_refl _)]; simp [h.1], by simp; exact hv⟩
theorem Own.slc {e : TypeId} {n : Nat} (h : Own w T e 1 v n (ints xs)) : Slc w T v xs := by
  obtain ⟨A, cap, rfl, h1, h2⟩ := h.shape
  have hn : n = xs.length := by have := h.length; rw [ints_length] at this; omega
  subst hn
  refine ⟨A, cap, rfl, h.reads, h1, h2, fun hA => ?_⟩
  subst hA
  rcases h.1.2 with ⟨hv, h0⟩ | ⟨g, cap, cur, hv, _⟩
  · injection hv with _ a b
    exact ⟨a, b⟩
  · injection hv with a
    cases a
theorem Slc.one (h : Slc w T v xs) : v.oneCell' = true := by
  obtain ⟨A, c, rfl, _⟩ := h
  rfl
end
end Go.Proofs.YtpcejpcbkjnlkaaGreatDoor

/- TopKept: what holds between the steps of the law. TopKept: plain laws of the changed byte and of the swap. TopKept: the lists of shards that the law makes. nat: numbers of one digit. nat: One, Zero, trim, Mul at one digit. nat: Add, Cmp, short, Div at one digit. nat: short, Div at one digit, of equal numbers. -/
import Derived.Test.YtmlfgokbcafbkaaGreatDoorTk20
import Derived.Test.YtmlfgokbcafbkaaGreatDoorTk21
import Derived.Test.YtmlfgokbcafbkaaGreatDoorTk16
import Derived.Test.YtmlfgokbcafbkaaGreatDoorTk17
import Derived.RegionTactic
import Derived.BigQuiet
namespace Go.Proofs.YtmlfgokbcafbkaaGreatDoor
open Go.RowKit

/-- the world of the law: the stream at p, the model in block B1, its lists between them -/
structure St (w0 w : World) (p : Nat) (A : Option Addr) (nn c : Nat) (l : List Int) (a : Int) (M : Model) (v4 v5 v6 v7 v8 v9 v10 : Value) (B1 : Nat) : Prop where
  bel : Below w0.heap.size w0 w
  lo0 : w0.heap.size ≤ p
  lo : p < B1
  str : Str w p A nn c l a
  rd : Reads w (fun g => g < w0.heap.size) 1 A nn (ints l)
  blk : Blk w B1 27 #[.int .i64 M.kind, .int .i64 M.vocab, .int .i64 M.width, .int .i64 M.top, v4, v5, v6, v7, v8, v9, v10]
  ms : MSl w (fun g => p < g ∧ g < B1) M v4 v5 v6 v7 v8 v9 v10
section
variable {w0 w w' : World} {p : Nat} {A : Option Addr} {nn c : Nat} {l : List Int} {a a' : Int} {M : Model} {v4 v5 v6 v7 v8 v9 v10 : Value} {B1 : Nat} {S : Nat → Prop}
theorem St.keeps (h : St w0 w p A nn c l a M v4 v5 v6 v7 v8 v9 v10 B1) (hk : Keeps S w w') (hs : ∀ g, S g → B1 < g) : St w0 w' p A nn c l a M v4 v5 v6 v7 v8 v9 v10 B1 := by
  have hlo := h.lo
  have hlo0 := h.lo0
  have rd' := h.rd.keeps hk (fun g hg hS => by have := hs g hS; omega)
  refine ⟨((Keeps.of_below h.bel (fun _ => False)).trans hk (fun i hi hS => by have := hs i hS; omega)).to_below, hlo0, hlo, ⟨hk.blk h.str.blk (fun hS => by have := hs p hS; omega), rd'.more (fun g _ hg => by omega), h.str.wf, h.str.len, h.str.at0⟩, rd', hk.blk h.blk (fun hS => by have := hs B1 hS; omega), h.ms.keeps hk (fun g hg hS => by have := hs g hS; omega)⟩
theorem St.below (h : St w0 w p A nn c l a M v4 v5 v6 v7 v8 v9 v10 B1) (hb : Below w.heap.size w w') : St w0 w' p A nn c l a M v4 v5 v6 v7 v8 v9 v10 B1 := h.keeps (Keeps.of_below hb (fun _ => False)) (fun _ => False.elim)
theorem St.alloc (h : St w0 w p A nn c l a M v4 v5 v6 v7 v8 v9 v10 B1) (o : Obj) : St w0 (w.alloc o) p A nn c l a M v4 v5 v6 v7 v8 v9 v10 B1 := h.below ((Below.refl _ _).alloc (Nat.le_refl _) o)
theorem St.drew (h : St w0 w p A nn c l a M v4 v5 v6 v7 v8 v9 v10 B1) : St w0 w.drew p A nn c l a M v4 v5 v6 v7 v8 v9 v10 B1 := h.below (Below.refl _ _).drew
theorem St.next (h : St w0 w p A nn c l a M v4 v5 v6 v7 v8 v9 v10 B1) (hk : Keeps (· = p) w w') (hs : Str w' p A nn c l a') : St w0 w' p A nn c l a' M v4 v5 v6 v7 v8 v9 v10 B1 := by
  have hlo := h.lo
  have hlo0 := h.lo0
  exact ⟨((Keeps.of_below h.bel (fun _ => False)).trans hk (fun i hi hS => by omega)).to_below, hlo0, hlo, hs, h.rd.keeps hk (fun g hg hS => by omega), hk.blk h.blk (by omega), h.ms.keeps hk (fun g hg hS => by omega)⟩
theorem St.lt (h : St w0 w p A nn c l a M v4 v5 v6 v7 v8 v9 v10 B1) : B1 < w.heap.size := h.blk.lt
end
/-- the shards: the row of slices in block g, its slices in other blocks -/
structure Xs (w : World) (B1 B3 g cx n : Nat) (vs : List Value) (ls : List (List Int)) : Prop where
  own : Own w (fun i => B1 < i ∧ i < B3) 34 1 (.slice (some ⟨g, 0, none⟩) n cx) n vs
  shs : Shs w (fun i => (B1 < i ∧ i < B3) ∧ i ≠ g) vs ls
section
variable {w w' : World} {B1 B3 g cx n : Nat} {vs : List Value} {ls : List (List Int)} {S : Nat → Prop}
theorem Xs.keeps (h : Xs w B1 B3 g cx n vs ls) (hk : Keeps S w w') (hs : ∀ i, S i → i ≤ B1 ∨ B3 ≤ i) : Xs w' B1 B3 g cx n vs ls :=
  ⟨h.own.keeps hk (fun i hi hS => by have := hs i hS; omega), h.shs.keeps hk (fun i hi hS => by have := hs i hS; omega)⟩
theorem Xs.below (h : Xs w B1 B3 g cx n vs ls) (hb : Below w.heap.size w w') : Xs w' B1 B3 g cx n vs ls := h.keeps (Keeps.of_below hb (fun _ => False)) (fun _ => False.elim)
theorem Xs.drew (h : Xs w B1 B3 g cx n vs ls) : Xs w.drew B1 B3 g cx n vs ls := h.below (Below.refl _ _).drew
theorem Xs.alloc (h : Xs w B1 B3 g cx n vs ls) (o : Obj) : Xs (w.alloc o) B1 B3 g cx n vs ls := h.below ((Below.refl _ _).alloc (Nat.le_refl _) o)
theorem Xs.len (h : Xs w B1 B3 g cx n vs ls) : vs.length = n := by have := h.own.length; omega
theorem Xs.lenL (h : Xs w B1 B3 g cx n vs ls) : ls.length = n := by have := h.len; have := h.shs.1; omega
theorem Xs.set (h : Xs w B1 B3 g cx n vs ls) (i j : Nat) (hi : i < n) (hj : j < n) (u : Value) (hu : vs[j]? = some u) (y : List Int) (hy : ls[j]? = some y) : Xs (w.setCell ⟨g, i, none⟩ u) B1 B3 g cx n (vs.set i u) (ls.set i y) := by
  have hl := h.len
  have hl2 := h.lenL
  refine ⟨h.own.set i hi u, by simp [h.shs.1], fun k hk => ?_⟩
  rw [List.length_set] at hk
  have hsl : ∀ {v xs}, Slb w (fun i => (B1 < i ∧ i < B3) ∧ i ≠ g) v xs → Slb (w.setCell ⟨g, i, none⟩ u) (fun i => (B1 < i ∧ i < B3) ∧ i ≠ g) v xs := fun h => h.setCell (fun hh => hh.2 rfl) u
  by_cases hik : i = k
  · subst hik
    obtain ⟨v, h1, h2⟩ := h.shs.2 j (by omega)
    rw [hu] at h1
    injection h1 with h1
    subst h1
    refine ⟨u, by rw [List.getElem?_set_self (by omega)], ?_⟩
    rw [List.getElem_set_self]
    rw [List.getElem?_eq_getElem (show j < ls.length by omega)] at hy
    injection hy with hy
    rw [← hy]
    exact hsl h2
  · obtain ⟨v, h1, h2⟩ := h.shs.2 k hk
    refine ⟨v, by rw [List.getElem?_set_ne hik]; exact h1, ?_⟩
    rw [List.getElem_set_ne hik]
    exact hsl h2
end
/-- h10kept at shards that fit: OK -/
theorem kept_zero (w : World) (T T0 T1 : Nat → Prop) (M : Model) (v4 v5 v6 v7 v8 v9 v10 : Value) (h : MSl w T M v4 v5 v6 v7 v8 v9 v10) (hM : M.Ok) (ad : Addr) (n c : Nat) (vs : List Value) (k : Nat) (idx : List Nat)
    (hv : Reads w T0 1 (some ad) n vs) (hs : Shs w T1 vs (idx.map (shardF (modelBytes M) k))) (hn0 : 1 ≤ n) (hn : n ≤ 1000) (hk0 : 1 ≤ k) (hk : k ≤ 64) (hl : idx.length = n) (hnd : idx.Nodup) (hik : ∀ i ∈ idx, i < k) (hall : ∀ i, i < k → i ∈ idx) :
    Calls Tryz.prog 12 #[.agg #[.int .i64 M.kind, .int .i64 M.vocab, .int .i64 M.width, .int .i64 M.top, v4, v5, v6, v7, v8, v9, v10], .slice (some ad) n c, .int .i64 0] w fun e w' => e = .returned (.bool true) ∧ Below w.heap.size w w' := by
  refine kept_ok w T M v4 v5 v6 v7 v8 v9 v10 h hM (some ad) n c fun o => ?_
  have hT : Shs (w.alloc o) (fun g => g < w.heap.size) vs (idx.map (shardF (modelBytes M) k)) := (hs.more (T' := fun g => g < w.heap.size) (fun g hg _ => hg)).alloc o
  refine (gather_any (w.alloc o) T0 _ ad n c vs _ M k idx 0 (hv.alloc o) hT (fun g hg => by simp; omega) hn0 hn hM hk0 hk (by omega) (by rw [List.take_of_length_le (by simp)]) hnd hik (Or.inl ⟨rfl, hl⟩)).mono ?_
  rintro e w' ⟨hb, h1, -, -⟩
  exact ⟨hb, h1 rfl hall⟩
/-- h10kept at shards of which one is missing: ErrNone -/
theorem kept_miss (w : World) (T0 T1 : Nat → Prop) (M : Model) (v4 v5 v6 v7 v8 v9 v10 : Value) (hM : M.Ok) (ad : Addr) (n c : Nat) (vs : List Value) (k : Nat) (idx : List Nat)
    (hv : Reads w T0 1 (some ad) n vs) (hs : Shs w T1 vs (idx.map (shardF (modelBytes M) k))) (hn0 : 1 ≤ n) (hn : n ≤ 1000) (hk0 : 1 ≤ k) (hk : k ≤ 64) (hl : idx.length = n) (hnd : idx.Nodup) (hik : ∀ i ∈ idx, i < k) (hmis : ∃ i, i < k ∧ i ∉ idx) :
    Calls Tryz.prog 12 #[.agg #[.int .i64 M.kind, .int .i64 M.vocab, .int .i64 M.width, .int .i64 M.top, v4, v5, v6, v7, v8, v9, v10], .slice (some ad) n c, .int .i64 13] w fun e w' => e = .returned (.bool true) ∧ Below w.heap.size w w' := by
  refine kept_no w M v4 v5 v6 v7 v8 v9 v10 (some ad) n c 13 (by decide) fun o => ?_
  have hT : Shs (w.alloc o) (fun g => g < w.heap.size) vs (idx.map (shardF (modelBytes M) k)) := (hs.more (T' := fun g => g < w.heap.size) (fun g hg _ => hg)).alloc o
  refine (gather_any (w.alloc o) T0 _ ad n c vs _ M k idx 0 (hv.alloc o) hT (fun g hg => by simp; omega) hn0 hn hM hk0 hk (by omega) (by rw [List.take_of_length_le (by simp)]) hnd hik (Or.inl ⟨rfl, hl⟩)).mono ?_
  rintro e w' ⟨hb, -, h1, -⟩
  exact ⟨hb, h1 rfl hmis⟩
theorem kept_none (w : World) (M : Model) (v4 v5 v6 v7 v8 v9 v10 : Value) (A : Option Addr) (c : Nat) :
    Calls Tryz.prog 12 #[.agg #[.int .i64 M.kind, .int .i64 M.vocab, .int .i64 M.width, .int .i64 M.top, v4, v5, v6, v7, v8, v9, v10], .slice A 0 c, .int .i64 13] w fun e w' => e = .returned (.bool true) ∧ Below w.heap.size w w' :=
  kept_no w M v4 v5 v6 v7 v8 v9 v10 A 0 c 13 (by decide) fun o => gather_none (w.alloc o) A c
/-- h10kept at shards with one that stands twice (6) or one that is broken (12) -/
theorem kept_tail (w : World) (T0 T1 : Nat → Prop) (M : Model) (v4 v5 v6 v7 v8 v9 v10 : Value) (hM : M.Ok) (ad : Addr) (n c : Nat) (vs : List Value) (ls : List (List Int)) (k : Nat) (idx : List Nat) (code : Int)
    (hv : Reads w T0 1 (some ad) n vs) (hs : Shs w T1 vs ls) (hn0 : 1 ≤ n) (hn : n ≤ 1000) (hk0 : 1 ≤ k) (hk : k ≤ 64) (hl : idx.length < n) (htk : ls.take idx.length = idx.map (shardF (modelBytes M) k)) (hnd : idx.Nodup) (hik : ∀ i ∈ idx, i < k)
    (ht : (code = 6 ∧ ∃ i ∈ idx, ls[idx.length]? = some (shardF (modelBytes M) k i)) ∨ (code = 12 ∧ ∃ s, ls[idx.length]? = some s ∧ 12 ≤ s.length ∧ s.length ≤ 900000 ∧ isBytes s ∧ ¬ intactM s)) :
    Calls Tryz.prog 12 #[.agg #[.int .i64 M.kind, .int .i64 M.vocab, .int .i64 M.width, .int .i64 M.top, v4, v5, v6, v7, v8, v9, v10], .slice (some ad) n c, .int .i64 code] w fun e w' => e = .returned (.bool true) ∧ Below w.heap.size w w' := by
  have hc : code ≠ 0 := by rcases ht with ⟨rfl, -⟩ | ⟨rfl, -⟩ <;> decide
  refine kept_no w M v4 v5 v6 v7 v8 v9 v10 (some ad) n c code hc fun o => ?_
  have hT : Shs (w.alloc o) (fun g => g < w.heap.size) vs ls := (hs.more (T' := fun g => g < w.heap.size) (fun g hg _ => hg)).alloc o
  refine (gather_any (w.alloc o) T0 _ ad n c vs ls M k idx code (hv.alloc o) hT (fun g hg => by simp; omega) hn0 hn hM hk0 hk (by omega) htk hnd hik (Or.inr ?_)).mono ?_
  · rcases ht with ⟨h1, h2⟩ | ⟨h1, h2⟩
    · exact Or.inl ⟨h1, hl, h2⟩
    · exact Or.inr ⟨h1, hl, h2⟩
  rintro e w' ⟨hb, -, -, h1⟩
  exact ⟨hb, h1 hc⟩
end Go.Proofs.YtmlfgokbcafbkaaGreatDoor

namespace Go.Proofs.YtmlfgokbcafbkaaGreatDoor
open Go.RowKit

theorem xor8 (a b : Nat) (ha : a < 256) (hb : b < 256) : bits .xor .u8 (a : Int) (b : Int) = ((a ^^^ b : Nat) : Int) := by
  have hx : a ^^^ b < 2 ^ 8 := Nat.xor_lt_two_pow (by omega) (by omega)
  have h1 : (BitVec.ofInt 8 (a : Int)).toNat = a := by
    rw [BitVec.ofInt_natCast, BitVec.toNat_ofNat]; exact Nat.mod_eq_of_lt (by omega)
  have h2 : (BitVec.ofInt 8 (b : Int)).toNat = b := by
    rw [BitVec.ofInt_natCast, BitVec.toNat_ofNat]; exact Nat.mod_eq_of_lt (by omega)
  show IntKind.u8.wrap ((BitVec.ofInt 8 (a : Int) ^^^ BitVec.ofInt 8 (b : Int)).toNat : Int) = _
  rw [BitVec.toNat_xor, h1, h2]
  exact IntWalk.u8_in _ ⟨by omega, by omega⟩
/-- the changed byte -/
theorem flip_byte (x v : Int) (hx : 0 ≤ x ∧ x ≤ 255) (hv : 0 ≤ v ∧ v < 255) : (0 ≤ bits .xor .u8 x (1 + v) ∧ bits .xor .u8 x (1 + v) ≤ 255) ∧ x ≠ bits .xor .u8 x (1 + v) := by
  obtain ⟨a, rfl⟩ := Int.eq_ofNat_of_zero_le hx.1
  obtain ⟨b, rfl⟩ := Int.eq_ofNat_of_zero_le hv.1
  have e : (1 + (b : Int)) = ((1 + b : Nat) : Int) := by omega
  rw [e, xor8 a (1 + b) (by omega) (by omega)]
  have hlt : a ^^^ (1 + b) < 2 ^ 8 := Nat.xor_lt_two_pow (by omega) (by omega)
  refine ⟨⟨by omega, by omega⟩, fun h => ?_⟩
  have h1 : a = a ^^^ (1 + b) := by omega
  have h2 : a ^^^ a = a ^^^ (a ^^^ (1 + b)) := by rw [← h1]
  rw [Nat.xor_self, ← Nat.xor_assoc, Nat.xor_self, Nat.zero_xor] at h2
  omega
theorem isBytes_set {l : List Int} (h : isBytes l) (j : Nat) (y : Int) (hy : 0 ≤ y ∧ y ≤ 255) : isBytes (l.set j y) := by
  intro x hx
  rcases List.mem_or_eq_of_mem_set hx with h1 | rfl
  · exact h x h1
  · exact hy
theorem bytes_set (l : List Int) (j : Nat) (y : Int) : (bytes l).set j (.int .u8 y) = bytes (l.set j y) := by
  unfold bytes
  rw [List.map_set]
theorem file_broken (M : Model) (j : Nat) (hj : j < (fileM M).length) (v : Int) (hv : 0 ≤ v ∧ v < 255) : isBytes ((fileM M).set j (bits .xor .u8 (fileM M)[j] (1 + v))) ∧ ¬ intactM ((fileM M).set j (bits .xor .u8 (fileM M)[j] (1 + v))) := by
  obtain ⟨h1, h2⟩ := flip_byte (fileM M)[j] v (fileM_bytes M _ (List.getElem_mem hj)) hv
  exact ⟨isBytes_set (fileM_bytes M) _ _ h1, sealM_broken _ (isBytes_append (by intro x hx; simp at hx; omega) (modelBytes_bytes M)) j hj _ h1 h2⟩
theorem shard_broken (b : List Int) (hb : isBytes b) (k i : Nat) (hi : i ≤ 255) (hk : k ≤ 255) (j : Nat) (hj : j < (shardF b k i).length) (v : Int) (hv : 0 ≤ v ∧ v < 255) : isBytes ((shardF b k i).set j (bits .xor .u8 (shardF b k i)[j] (1 + v))) ∧ ¬ intactM ((shardF b k i).set j (bits .xor .u8 (shardF b k i)[j] (1 + v))) := by
  obtain ⟨h1, h2⟩ := flip_byte (shardF b k i)[j] v (shardF_bytes hb k i hi hk _ (List.getElem_mem hj)) hv
  refine ⟨isBytes_set (shardF_bytes hb k i hi hk) _ _ h1, ?_⟩
  revert j
  rw [shardF_eq]
  intro j hj h1 h2
  exact sealM_broken _ (isBytes_append (isBytes_append (isBytes_append (by intro x hx; simp at hx; omega) (lowF_bytes _ _)) (by intro x hx; simp at hx; omega)) (partF_bytes hb k i)) j hj _ h1 h2
theorem swap_perm (l : List Nat) (n i j : Nat) (hp : l.Perm (List.range n)) (hi : i < n) (hj : j < n) : ∃ x y, l[i]? = some x ∧ l[j]? = some y ∧ ((l.set i y).set j x).Perm (List.range n) := by
  have hl : l.length = n := by rw [hp.length_eq, List.length_range]
  refine ⟨l[i], l[j], List.getElem?_eq_getElem _, List.getElem?_eq_getElem _, ?_⟩
  exact (List.set_set_perm (by omega) (by omega)).trans hp
theorem perm_facts {l : List Nat} {n : Nat} (hp : l.Perm (List.range n)) : l.length = n ∧ l.Nodup ∧ (∀ i ∈ l, i < n) ∧ (∀ i, i < n → i ∈ l) :=
  ⟨by rw [hp.length_eq, List.length_range], hp.nodup_iff.2 List.nodup_range, fun i hi => List.mem_range.1 (hp.mem_iff.1 hi), fun i hi => hp.mem_iff.2 (List.mem_range.2 hi)⟩
theorem miss_facts {l : List Nat} {n : Nat} (hp : l.Perm (List.range n)) (i : Nat) (hi : i < n) : (l.eraseIdx i).length = n - 1 ∧ (l.eraseIdx i).Nodup ∧ (∀ j ∈ l.eraseIdx i, j < n) ∧ ∃ j, j < n ∧ j ∉ l.eraseIdx i := by
  obtain ⟨h1, h2, h3, h4⟩ := perm_facts hp
  refine ⟨by rw [List.length_eraseIdx]; simp [h1, hi], h2.sublist (List.eraseIdx_sublist _ _), fun j hj => h3 j (List.mem_of_mem_eraseIdx hj), l[i], h3 _ (List.getElem_mem _), ?_⟩
  exact fun h => by
    rw [List.mem_eraseIdx_iff_getElem] at h
    obtain ⟨k, hk, hne, he⟩ := h
    exact hne ((List.getElem_inj h2).1 he)
theorem Xs.put {w : World} {B1 B3 g cx n : Nat} {vs : List Value} {ls : List (List Int)} (h : Xs w B1 B3 g cx n vs ls) (i : Nat) (hi : i < n) (u : Value) (y : List Int) (hs : Slb w (fun k => (B1 < k ∧ k < B3) ∧ k ≠ g) u y) : Xs (w.setCell ⟨g, i, none⟩ u) B1 B3 g cx n (vs.set i u) (ls.set i y) := by
  have hl := h.len
  have hl2 := h.lenL
  refine ⟨h.own.set i hi u, by simp [h.shs.1], fun k hk => ?_⟩
  rw [List.length_set] at hk
  have hsl : ∀ {v xs}, Slb w (fun i => (B1 < i ∧ i < B3) ∧ i ≠ g) v xs → Slb (w.setCell ⟨g, i, none⟩ u) (fun i => (B1 < i ∧ i < B3) ∧ i ≠ g) v xs := fun h => h.setCell (fun hh => hh.2 rfl) u
  by_cases hik : i = k
  · subst hik
    refine ⟨u, by rw [List.getElem?_set_self (by omega)], ?_⟩
    rw [List.getElem_set_self]
    exact hsl hs
  · obtain ⟨v, h1, h2⟩ := h.shs.2 k hk
    refine ⟨v, by rw [List.getElem?_set_ne hik]; exact h1, ?_⟩
    rw [List.getElem_set_ne hik]
    exact hsl h2
theorem Xs.swap {w : World} {B1 B3 g cx n : Nat} {vs : List Value} {F : Nat → List Int} {l : List Nat} (h : Xs w B1 B3 g cx n vs (l.map F)) (i j : Nat) (hi : i < n) (hj : j < n) (ui uj : Value) (hui : vs[i]? = some ui) (huj : vs[j]? = some uj) (x y : Nat) (hx : l[i]? = some x) (hy : l[j]? = some y) :
    Xs ((w.setCell ⟨g, i, none⟩ uj).setCell ⟨g, j, none⟩ ui) B1 B3 g cx n ((vs.set i uj).set j ui) (((l.set i y).set j x).map F) := by
  have hl := h.len
  have hl2 := h.lenL
  have sl : ∀ k u z, k < n → vs[k]? = some u → l[k]? = some z → Slb w (fun i => (B1 < i ∧ i < B3) ∧ i ≠ g) u (F z) := by
    intro k u z hk hu hz
    obtain ⟨v, h1, h2⟩ := h.shs.2 k (by omega)
    rw [hu] at h1
    injection h1 with h1
    subst h1
    have e : (l.map F)[k]? = some (F z) := by rw [List.getElem?_map, hz]; rfl
    rw [List.getElem?_eq_getElem (by omega)] at e
    injection e with e
    rwa [e] at h2
  have h1 := h.put i hi uj (F y) (sl j uj y hj huj hy)
  have h2 := h1.put j hj ui (F x) ((sl i ui x hi hui hx).setCell (fun hh => hh.2 rfl) uj)
  rw [List.map_set, List.map_set]
  exact h2
theorem Xs.lit {w : World} {B1 B3 g cx n : Nat} {vs : List Value} {ls : List (List Int)} (h : Xs w B1 B3 g cx n vs ls) (i : Nat) (hi : i < n) : ∃ A c xs, vs[i]? = some (.slice A xs.length c) ∧ ls[i]? = some xs ∧ Slb w (fun k => (B1 < k ∧ k < B3) ∧ k ≠ g) (.slice A xs.length c) xs := by
  have hl2 := h.lenL
  obtain ⟨v, h1, h2⟩ := h.shs.2 i (by omega)
  obtain ⟨A, c, rfl, h3⟩ := h2
  exact ⟨A, c, _, h1, List.getElem?_eq_getElem _, A, c, rfl, h3⟩
end Go.Proofs.YtmlfgokbcafbkaaGreatDoor

namespace Go.Proofs.YtmlfgokbcafbkaaGreatDoor
open Go.RowKit

theorem below_alloc1 {w w' : World} (h : Below w.heap.size w w') (o : Obj) : Below w.heap.size w (w'.alloc o) := h.alloc h.size o
/-- an append under a guard that holds -/
theorem step_append_g {P : Program} {w : World} {ops : Array Oper} {o : Oper} {a : Act} {K : Act → World → Prop} {Q : Exit → Act → World → Prop} {E : Prop} (hw : Region.wanted o (yielded ops a.tmps) = true) (s x : Operand) (t : TypeId)
    (ho : o.op = .call { callee := .builtin .append, args := #[s, x], argTypes := #[t, t] })
    (e : TypeId) (i : TypeInfo) (z : Value) (size bytes : Nat) (ht : P.underlying t = some (.slice e)) (hi : P.info? e = some i) (hz : i.zero = some z)
    (hsize : i.size = size) (hby : i.bytes = bytes) (hzs : z.cells.size = size) (hsz : 0 < size) {T T' : Nat → Prop}
    (v : Value) (n : Nat) (xs : List Value) (hs : a.eval s = v) (hown : Own w T e size v n xs)
    (A : Option Addr) (m c : Nat) (news : List Value) (hx : a.eval x = .slice A m c) (hr : Reads w T' size A m news) (h1 : ∀ u ∈ news, u.oneCell' = true)
    (h63 : n + m ≤ maxLen) (hbytes : (n + m) * bytes ≤ 140737488355328)
    (h : ∀ v' w', Appended w w' T e size v v' (n + m) (xs ++ news) → K (a.put o.dst v') w') :
    if Region.wanted o (yielded ops a.tmps) = true then Oper.wp P o a w K Q else E := by
  rw [if_pos hw]
  exact wp_append_any w s x t ho e i z size bytes ht hi hz hsize hby hzs hsz v n xs hs hown A m c news hx hr h1 h63 hbytes h
section
variable {w w' : World} {B1 B3 g cx n : Nat} {vs : List Value} {ls : List (List Int)} {F : Nat → List Int} {pm : List Nat}
theorem shs_erase {T : Nat → Prop} (h : Shs w T vs ls) (i : Nat) (hi : i < ls.length) : Shs w T (vs.eraseIdx i) (ls.eraseIdx i) := by
  have hl := h.1
  refine ⟨by rw [List.length_eraseIdx, List.length_eraseIdx, hl], fun k hk => ?_⟩
  rw [List.length_eraseIdx, if_pos hi] at hk
  by_cases hki : k < i
  · obtain ⟨v, h1, h2⟩ := h.2 k (by omega)
    exact ⟨v, by rw [List.getElem?_eraseIdx_of_lt hki]; exact h1, by rw [List.getElem_eraseIdx_of_lt (by omega) hki]; exact h2⟩
  · obtain ⟨v, h1, h2⟩ := h.2 (k + 1) (by omega)
    exact ⟨v, by rw [List.getElem?_eraseIdx_of_ge (by omega)]; exact h1, by rw [List.getElem_eraseIdx_of_ge (by omega) (by omega)]; exact h2⟩
/-- the two halves around a shard, joined -/
theorem concat_x (h : Xs w B1 B3 g cx n vs ls) (hcx : n ≤ cx ∧ cx ≤ maxLen) (hn : n ≤ 64) (i : Nat) (hi : i < n) (g2 c2 : Nat) (A1 : Option Addr) (hA1 : A1 = if cx = i + 1 then some ⟨g, 0, none⟩ else some ⟨g, i + 1, none⟩)
    (h0 : w.cell? ⟨g2, 0, none⟩ = some (.slice (some ⟨g, 0, none⟩) i cx)) (h1 : w.cell? ⟨g2, 1, none⟩ = some (.slice A1 (n - (i + 1)) (cx - (i + 1)))) :
    Calls Tryz.prog 14 #[.slice (some ⟨g2, 0, none⟩) 2 c2] w fun e w' => ∃ Ac cc, e = .returned (.slice Ac (n - 1) cc) ∧ Reads w' (fun k => w.heap.size ≤ k) 1 Ac (n - 1) (vs.eraseIdx i) ∧ Below w.heap.size w w' := by
  have hl := h.len
  have hr := h.own.reads
  have r1 := hr.take (k := i) (by omega)
  have r2 := hr.cut (k := i + 1) (cap := cx) (by omega) hcx.1
  simp only [Nat.mul_one] at r1 r2
  have e2 : (if cx = i + 1 then some (⟨g, 0, none⟩ : Addr) else Option.map (fun x => x.add (i + 1)) (some (⟨g, 0, none⟩ : Addr))) = A1 := by
    rw [hA1]
    split
    · rfl
    · simp [Addr.add]
  rw [e2] at r2
  have hone : ∀ u ∈ vs, u.oneCell' = true := h.shs.one
  have hlen1 : (vs.take i).length = i := by rw [List.length_take]; omega
  have hlen2 : (vs.drop (i + 1)).length = n - (i + 1) := by rw [List.length_drop]; omega
  have htot : totalV [vs.take i, vs.drop (i + 1)] = n - 1 := by
    unfold totalV
    simp only [List.map_cons, List.map_nil, List.sum_cons, List.sum_nil, hlen1, hlen2]
    omega
  have hfl : [vs.take i, vs.drop (i + 1)].flatten = vs.eraseIdx i := by
    rw [List.eraseIdx_eq_take_drop_succ]
    simp
  have hrd : Reads w (fun _ => True) 1 (some ⟨g2, 0, none⟩) 2 [.slice (some ⟨g, 0, none⟩) i cx, .slice A1 (n - (i + 1)) (cx - (i + 1))] := by
    refine ⟨rfl, fun _ => ⟨_, rfl, World.block_lt_of_cell? w _ h0, trivial, fun j u hu => ?_⟩⟩
    rw [Addr.add_lit, Nat.zero_add]
    rcases j with _ | _ | j
    · simp at hu; rw [← hu]; exact h0
    · simp at hu; rw [← hu]; exact h1
    · simp at hu
  have hrows : RowsV w (fun i => B1 < i ∧ i < B3) [.slice (some ⟨g, 0, none⟩) i cx, .slice A1 (n - (i + 1)) (cx - (i + 1))] [vs.take i, vs.drop (i + 1)] := by
    refine ⟨rfl, fun j hj => ?_⟩
    rcases j with _ | _ | j
    · refine ⟨_, rfl, ?_⟩
      show SlV w _ _ (vs.take i)
      exact ⟨_, _, by rw [hlen1], by rw [hlen1]; exact r1, by rw [hlen1]; omega, hcx.2⟩
    · refine ⟨_, rfl, ?_⟩
      show SlV w _ _ (vs.drop (i + 1))
      exact ⟨_, _, by rw [hlen2], by rw [hlen2]; exact r2, by rw [hlen2]; omega, by omega⟩
    · have hj2 : j + 1 + 1 < 2 := hj
      omega
  have hc := concatBs_any w _ _ (some ⟨g2, 0, none⟩) 2 c2 _ _ hrd hrows (by
    intro l hl u hu
    simp at hl
    rcases hl with rfl | rfl
    · exact hone u (List.mem_of_mem_take hu)
    · exact hone u (List.mem_of_mem_drop hu)) (by omega) (by rw [htot]; omega)
  rw [htot, hfl] at hc
  refine hc.mono ?_
  rintro e w' ⟨v, rfl, ho, hb⟩
  obtain ⟨Ac, cc, rfl, -, -⟩ := ho.shape
  exact ⟨Ac, cc, rfl, ho.reads, hb⟩
theorem kept_cat (M : Model) (v4 v5 v6 v7 v8 v9 v10 : Value) (hM : M.Ok) (h : Xs w B1 B3 g cx n vs (pm.map (shardF (modelBytes M) n))) (hpm : pm.Perm (List.range n)) (hn1 : 1 ≤ n) (hn : n ≤ 64) (i : Nat) (hi : i < n) (T : Nat → Prop) (Ac : Option Addr) (cc : Nat) (hr : Reads w T 1 Ac (n - 1) (vs.eraseIdx i)) :
    Calls Tryz.prog 12 #[.agg #[.int .i64 M.kind, .int .i64 M.vocab, .int .i64 M.width, .int .i64 M.top, v4, v5, v6, v7, v8, v9, v10], .slice Ac (n - 1) cc, .int .i64 13] w fun e w' => e = .returned (.bool true) ∧ Below w.heap.size w w' := by
  have hl := h.lenL
  by_cases h1 : n = 1
  · rw [h1]
    exact kept_none w M v4 v5 v6 v7 v8 v9 v10 Ac cc
  · obtain ⟨q1, q2, q3, q4⟩ := miss_facts hpm i hi
    obtain ⟨ad, rfl, -, -, -⟩ := hr.2 (by omega)
    have hs := shs_erase h.shs i (by omega)
    rw [show (pm.map (shardF (modelBytes M) n)).eraseIdx i = (pm.eraseIdx i).map (shardF (modelBytes M) n) by rw [List.eraseIdx_eq_take_drop_succ, List.eraseIdx_eq_take_drop_succ, List.map_append, List.map_take, List.map_drop]] at hs
    exact kept_miss w _ _ M v4 v5 v6 v7 v8 v9 v10 hM ad (n - 1) cc _ n (pm.eraseIdx i) hr hs (by omega) (by omega) hn1 hn q1 q2 q3 q4
theorem kept_twice (M : Model) (v4 v5 v6 v7 v8 v9 v10 : Value) (hM : M.Ok) (h : Xs w B1 B3 g cx n vs (pm.map (shardF (modelBytes M) n))) (hpm : pm.Perm (List.range n)) (hn1 : 1 ≤ n) (hn : n ≤ 64) (i : Nat) (hi : i < n) (u : Value) (hu : vs[i]? = some u) (T : Nat → Prop) (Ac : Option Addr) (cc : Nat) (hr : Reads w T 1 Ac (n + 1) (vs ++ [u])) :
    Calls Tryz.prog 12 #[.agg #[.int .i64 M.kind, .int .i64 M.vocab, .int .i64 M.width, .int .i64 M.top, v4, v5, v6, v7, v8, v9, v10], .slice Ac (n + 1) cc, .int .i64 6] w fun e w' => e = .returned (.bool true) ∧ Below w.heap.size w w' := by
  have hl := h.lenL
  obtain ⟨q1, q2, q3, q4⟩ := perm_facts hpm
  obtain ⟨ad, rfl, -, -, -⟩ := hr.2 (by omega)
  obtain ⟨v, h1, h2⟩ := h.shs.2 i (by omega)
  rw [hu] at h1
  injection h1 with h1
  subst h1
  have hs := h.shs.snoc h2
  refine kept_tail w _ _ M v4 v5 v6 v7 v8 v9 v10 hM ad (n + 1) cc _ _ n pm 6 hr hs (by omega) (by omega) hn1 hn (by omega) ?_ q2 q3 (Or.inl ⟨rfl, pm[i], List.getElem_mem (by omega), ?_⟩)
  · rw [List.take_left' (by simp)]
  · rw [List.getElem?_append_right (by simp)]
    simp
theorem kept_broken (M : Model) (v4 v5 v6 v7 v8 v9 v10 : Value) (hM : M.Ok) (hpm : pm.Perm (List.range n)) (hn1 : 1 ≤ n) (hn : n ≤ 64) (i : Nat) (hi : i < n) (s : List Int) (T T1 : Nat → Prop) (ad : Addr) (c : Nat) (us : List Value)
    (hr : Reads w T 1 (some ad) n us) (hs : Shs w T1 us ((pm.map (shardF (modelBytes M) n)).set i s)) (hl12 : 12 ≤ s.length) (hl9 : s.length ≤ 900000) (hb : isBytes s) (hi2 : ¬ intactM s) :
    Calls Tryz.prog 12 #[.agg #[.int .i64 M.kind, .int .i64 M.vocab, .int .i64 M.width, .int .i64 M.top, v4, v5, v6, v7, v8, v9, v10], .slice (some ad) n c, .int .i64 12] w fun e w' => e = .returned (.bool true) ∧ Below w.heap.size w w' := by
  obtain ⟨q1, q2, q3, q4⟩ := perm_facts hpm
  have hlt : (pm.take i).length = i := by rw [List.length_take]; omega
  refine kept_tail w _ _ M v4 v5 v6 v7 v8 v9 v10 hM ad n c us _ n (pm.take i) 12 hr hs (by omega) (by omega) hn1 hn (by omega) ?_ (q2.sublist (List.take_sublist _ _)) (fun j hj => q3 j (List.mem_of_mem_take hj)) (Or.inr ⟨rfl, s, ?_, hl12, hl9, hb, hi2⟩)
  · rw [hlt, List.take_set_of_le (Nat.le_refl _), List.map_take]
  · rw [hlt, List.getElem?_set_self (by simp; omega)]
theorem shs_put {T : Nat → Prop} (h : Shs w T vs ls) (i : Nat) (u : Value) (y : List Int) (hs : Slb w T u y) : Shs w T (vs.set i u) (ls.set i y) := by
  have hl := h.1
  refine ⟨by simp [hl], fun k hk => ?_⟩
  rw [List.length_set] at hk
  by_cases hik : i = k
  · subst hik
    refine ⟨u, by rw [List.getElem?_set_self (by omega)], ?_⟩
    rw [List.getElem_set_self]
    exact hs
  · obtain ⟨v, h1, h2⟩ := h.2 k hk
    refine ⟨v, by rw [List.getElem?_set_ne hik]; exact h1, ?_⟩
    rw [List.getElem_set_ne hik]
    exact h2
theorem Shs.setCell {T : Nat → Prop} (h : Shs w T vs ls) {p : Addr} (hp : ¬ T p.block) (u : Value) : Shs (w.setCell p u) T vs ls := h.map_ fun h => h.setCell hp u
theorem Xs.shard (h : Xs w B1 B3 g cx n vs (pm.map F)) (i : Nat) (hi : i < n) {Ai : Option Addr} {li ci : Nat} (hv : vs[i]? = some (.slice Ai li ci)) : ∃ q, pm[i]? = some q ∧ q ∈ pm ∧ li = (F q).length ∧ Reads w (fun k => (B1 < k ∧ k < B3) ∧ k ≠ g) 1 Ai li (bytes (F q)) := by
  have hl2 := h.lenL
  have hlp : pm.length = n := by simpa using hl2
  obtain ⟨v, h1, h2⟩ := h.shs.2 i (by omega)
  rw [hv] at h1
  injection h1 with h1
  subst h1
  obtain ⟨A, c, h3, h4, h5⟩ := h2
  injection h3 with h31 h32 h33
  have e : (pm.map F)[i] = F pm[i] := by simp
  rw [e] at h32 h4
  subst h31
  exact ⟨pm[i], List.getElem?_eq_getElem _, List.getElem_mem _, h32, by rw [h32]; exact h4⟩
end
end Go.Proofs.YtmlfgokbcafbkaaGreatDoor

namespace Go.Proofs.YtmlfgokbcafbkaaGreatDoor
open Go.RowKit

theorem u32_info : (Tryz.prog.info? 88).map (fun i => (i.zero, i.size, i.bytes)) = some (some (.int .u32 0), 1, 4) := by kernel_rfl
/-- a natural number of one digit -/
def Nat1 (w : World) (v : Value) (x : Nat) : Prop :=
  ∃ (ad : Addr) (c : Nat), v = .slice (some ad) 1 c ∧ 1 ≤ c ∧ c ≤ maxLen ∧ ad.block < w.heap.size ∧ w.cell? ad = some (.int .u32 x) ∧ 1 ≤ x ∧ x < 1000000000
theorem Nat1.fresh {w w' : World} {v : Value} {x : Nat} (h : Nat1 w v x) (hb : Below w.heap.size w w') : Nat1 w' v x := by
  obtain ⟨ad, c, h1, h2, h3, h4, h5, h6⟩ := h
  exact ⟨ad, c, h1, h2, h3, Nat.lt_of_lt_of_le h4 hb.size, (hb.cell (p := ad) h4).trans h5, h6⟩
theorem Nat1.alloc {w : World} {v : Value} {x : Nat} (h : Nat1 w v x) (o : Obj) : Nat1 (w.alloc o) v x := h.fresh ((Below.refl _ _).alloc (Nat.le_refl _) _)
theorem Nat1.drewN {w : World} {v : Value} {x : Nat} (h : Nat1 w v x) (n : Nat) : Nat1 (w.drewN n) v x := h
theorem Nat1.of_own {w : World} {T : Nat → Prop} {v : Value} {x : Nat} (h : Own w T 88 1 v 1 [.int .u32 x]) (h1 : 1 ≤ x) (h2 : x < 1000000000) : Nat1 w v x := by
  obtain ⟨g, cap, rfl, hc1, hc2, hg, -⟩ := h.form (by omega)
  have hc := h.get 0 (by omega)
  exact ⟨⟨g, 0, none⟩, cap, rfl, hc1, hc2, hg, hc, h1, h2⟩
set_option maxRecDepth 100000 in
set_option maxHeartbeats 1000000 in
theorem of_any (w : World) (x : Nat) (h1 : 1 ≤ x) (h2 : x < 1000000000) :
    Calls Tryz.prog 73 #[.int .u64 x] w fun e w' => ∃ v, e = .returned v ∧ Nat1 w' v x ∧ Below w.heap.size w w' := by
  obtain ⟨i0, hi0, hz0, hz1, hz2⟩ := info_parts u32_info
  go_enter Tryz.func73, Tryz.ntmps73
  go_wp2_with fail
  go_loopw [0, 3] (fun nv av wr => (nv = .int .u64 x ∧ av = .slice none 0 0 ∧ wr = w) ∨ (nv = .int .u64 0 ∧ Own wr (fun g => w.heap.size ≤ g) 88 1 av 1 [.int .u32 x] ∧ Below w.heap.size w wr)) (fun nv _ _ => (intOf nv).toNat)
  case atStart => exact Or.inl ⟨rfl, rfl, rfl⟩
  rcases hrel with ⟨rfl, rfl, rfl⟩ | ⟨rfl, ho, hb⟩
  · have hm1 : (x : Int) % 1000000000 = x := by omega
    have hm2 : (x : Int) / 1000000000 = 0 := by omega
    have hx1 : (1 : Int) ≤ x := by omega
    have hwu : IntKind.u32.wrap (x : Int) = x := u32_wrap _ (by omega) (by omega)
    have H2 := Lib.hid h2
    clear h2
    go_wp2_with (at_builtin; go_must (refine wpList_append_any _ rfl _ _ 91 rfl 88 i0 _ 1 4 Tryz.underlying91 hi0 hz0 hz1 hz2 rfl (by omega) (.slice none 0 0) _ _ rfl (Own.nil_ _ (fun g => wr.heap.size ≤ g) _ _) _ 1 1 _ rfl (lit_reads _ _ [.int .u32 x] 1 rfl) (by intro u hu; simp at hu; rw [hu]; rfl) (by unfold maxLen; omega) (by omega) ?_); intro v' w3 happ)
    obtain ⟨o3, b3⟩ := appBelow happ (B := wr.heap.size) (by simp) (fun g hg => by simp [Value.ownBlock] at hg)
    go_roundw
    case rel => exact Or.inr ⟨rfl, o3, ((Below.refl wr.heap.size wr).alloc (Nat.le_refl _) _).trans b3⟩
    case measure => simp [intOf]; omega
  · have HO := Lib.hid ho
    have HB := Lib.hid hb
    clear ho hb
    go_wp2_with fail
    go_ret
    exact ⟨_, rfl, Nat1.of_own HO.out h1 h2, HB.out⟩
set_option maxRecDepth 100000 in
theorem of_zero (w : World) : Calls Tryz.prog 73 #[.int .u64 0] w fun e w' => e = .returned (.slice none 0 0) ∧ w' = w := by
  go_enter Tryz.func73, Tryz.ntmps73
  go_wp2_with fail
  go_loopw [0, 3] (fun nv av wr => nv = .int .u64 0 ∧ av = .slice none 0 0 ∧ wr = w) (fun nv _ _ => (intOf nv).toNat)
  case atStart => exact ⟨rfl, rfl, rfl⟩
  obtain ⟨rfl, rfl, rfl⟩ := hrel
  go_wp2_with fail
  go_ret
  exact ⟨rfl, rfl⟩
end Go.Proofs.YtmlfgokbcafbkaaGreatDoor

namespace Go.Proofs.YtmlfgokbcafbkaaGreatDoor
open Go.RowKit

set_option maxRecDepth 100000 in
theorem one_any (w : World) (v : Value) (x : Nat) (h : Nat1 w v x) : Calls Tryz.prog 67 #[v] w fun e w' => e = .returned (.bool (decide (x = 1))) ∧ w' = w := by
  obtain ⟨ad, c, rfl, -, -, -, hc, h1, h2⟩ := h
  clear h2
  by_cases hx : x = 1
  · subst hx
    go_enter Tryz.func67, Tryz.ntmps67
    go_wp2_with fail
    go_ret
    exact ⟨rfl, rfl⟩
  · have hx1 : ((x : Int) == 1) = false := by simp; omega
    go_enter Tryz.func67, Tryz.ntmps67
    go_wp2_with fail
    go_ret
    exact ⟨by simp [hx], rfl⟩
set_option maxRecDepth 100000 in
theorem zero_any (w : World) (v : Value) (x : Nat) (h : Nat1 w v x) : Calls Tryz.prog 88 #[v] w fun e w' => e = .returned (.bool false) ∧ w' = w := by
  obtain ⟨ad, c, rfl, -, -, -, hc, h1, h2⟩ := h
  clear h2
  go_enter Tryz.func88, Tryz.ntmps88
  go_wp2_with fail
  go_ret
  exact ⟨rfl, rfl⟩
set_option maxRecDepth 100000 in
set_option maxHeartbeats 1000000 in
theorem trim_any (w : World) (g c : Nat) (x : Nat) (hc2 : 2 ≤ c) (h0 : w.cell? ⟨g, 0, none⟩ = some (.int .u32 x)) (h1 : w.cell? ⟨g, 1, none⟩ = some (.int .u32 0)) (hx : 1 ≤ x) :
    Calls Tryz.prog 87 #[.slice (some ⟨g, 0, none⟩) 2 c] w fun e w' => e = .returned (.slice (some ⟨g, 0, none⟩) 1 c) ∧ w' = w := by
  have hx1 : ((x : Int) == 0) = false := by simp; omega
  go_enter Tryz.func87, Tryz.ntmps87
  go_wp2_with fail
  go_loopw [0] (fun v wr => wr = w ∧ (v = .slice (some ⟨g, 0, none⟩) 2 c ∨ v = .slice (some ⟨g, 0, none⟩) 1 c)) (fun v _ => match v with | .slice _ n _ => n | _ => 0)
  case atStart => exact ⟨rfl, Or.inl rfl⟩
  obtain ⟨rfl, rfl | rfl⟩ := hrel
  · go_wp2_with fail
    go_roundw
    case rel => exact ⟨trivial, Or.inr rfl⟩
    case measure => simp
  · go_wp2_with fail
    go_ret
    exact ⟨rfl, rfl⟩

/-- 'make(Nat, n)' at the operation. -/
theorem wpList_make_nat (w : World) {ops : Array Oper} {rest : List Oper} {o : Oper} {a : Act} {Q : Exit → Act → World → Prop} (hg : o.guard = none) (l c : Operand) (hop : o.op = Op.makeSlice 91 l c)
    (L C : Int) (n : Nat) (hl : a.eval l = .int .i64 L) (hc : a.eval c = .int .i64 C) (hL : L = (n : Int)) (hC : C = (n : Int)) (hn : n ≤ 1000000)
    (hK : ∀ w', Own w' (fun g => g = w.heap.size) 88 1 (.slice (some ⟨w.heap.size, 0, none⟩) n n) n (List.replicate n (.int .u32 0)) → Below w.heap.size w w' → w.heap.size < w'.heap.size → wpList Tryz.prog ops Q rest (a.put o.dst (.slice (some ⟨w.heap.size, 0, none⟩) n n)) w') :
    wpList Tryz.prog ops Q (o :: rest) a w := by
  obtain ⟨i0, hi, hz0, hz1, hz2⟩ := info_parts u32_info
  refine wpList_make_full w hg l c 91 hop 0 88 i0 (.int .u32 0) 1 Tryz.underlying91 hi hz0 hz1 .i64 .i64 L C n hl hc hL hC (by rw [hz2]; omega) (by unfold maxLen; omega) (Nat.zero_le _) ?_
  intro w' hown hg1
  have hx : (madeCells (Value.int .u32 0).cells (n * 1)).toList = List.replicate n (.int .u32 0) := by
    apply List.ext_getElem
    · simp [madeCells]
    · intro i h1 h2
      simp [madeCells, Value.cells, Nat.mod_one]
  rw [hx] at hown
  refine hK w' ⟨hown, fun g hg => by simp [Value.ownBlock] at hg; exact hg.symm⟩ ⟨hg1.os, hg1.tape, hg1.output, hg1.size, fun k hk => hg1.block k hk (by simp)⟩ ?_
  exact (hown.lt _ rfl).2
set_option maxRecDepth 100000 in
set_option maxHeartbeats 2000000 in
theorem mul_any (w : World) (u v : Value) (x y p : Nat) (hu : Nat1 w u x) (hv : Nat1 w v y) (hp : x * y = p) (hp2 : p < 1000000000) :
    Calls Tryz.prog 68 #[u, v] w fun e w' => ∃ r, e = .returned r ∧ Nat1 w' r p ∧ Below w.heap.size w w' := by
  obtain ⟨a, ca, rfl, -, -, haz, hca, hx1, hx2⟩ := hu
  obtain ⟨b, cb, rfl, -, -, hbz, hcb, hy1, hy2⟩ := hv
  have hp1 : 1 ≤ p := by rw [← hp]; exact Nat.mul_pos hx1 hy1
  have hpi : (x : Int) * (y : Int) = (p : Int) := by rw [← hp]; rfl
  have hxp : x ≤ p := by rw [← hp]; exact Nat.le_mul_of_pos_right x hy1
  have hyp : y ≤ p := by rw [← hp]; exact Nat.le_mul_of_pos_left y hx1
  have hm1 : (p : Int).tmod 1000000000 = p := by rw [Int.tmod_eq_emod_of_nonneg (by omega)]; omega
  have hm2 : (p : Int).tdiv 1000000000 = 0 := by rw [Int.tdiv_eq_ediv_of_nonneg (by omega)]; omega
  have hm3 : (p : Int) % 4294967296 = p := by omega
  have hw1 : IntKind.u64.wrap (x : Int) = x := IntWalk.u64_in _ ⟨by omega, by omega⟩
  have hw2 : IntKind.u64.wrap (y : Int) = y := IntWalk.u64_in _ ⟨by omega, by omega⟩
  have hw3 : IntKind.u64.wrap (p : Int) = p := IntWalk.u64_in _ ⟨by omega, by omega⟩
  have hwu : IntKind.u32.wrap (p : Int) = p := u32_wrap _ (by omega) (by omega)
  have HP2 := Lib.hid hp2
  have HA := Lib.hid haz
  have HB := Lib.hid hbz
  clear hx2 hy2 hp2 hp haz hbz hxp hyp
  go_enter Tryz.func68, Tryz.ntmps68
  go_upto_region 3 with (fail)
  go_upto_region 4 with (at_make; refine wpList_make_nat _ rfl _ _ rfl _ _ 2 rfl rfl rfl rfl (by omega) ?_; intro w1 hown hb1 hz1)
  obtain ⟨g, hg⟩ : ∃ g, g = w.heap.size := ⟨_, rfl⟩
  rw [← hg] at hown
  rw [← hg]
  have HG := Lib.hid hg
  have HO := Lib.hid hown
  have HB1 := Lib.hid hb1
  clear hown hb1 hg hz1
  go_wp2_with fail
  go_loopw [28] (fun i wr => (i = .int .i64 0 ∧ wr = w1) ∨ (i = .int .i64 1 ∧ Own wr (fun q => q = g) 88 1 (.slice (some ⟨g, 0, none⟩) 2 2) 2 [.int .u32 p, .int .u32 0] ∧ Below w.heap.size w wr)) (fun i _ => 1 - (intOf i).toNat)
  case atStart => exact Or.inl ⟨rfl, rfl⟩
  rcases hrel with ⟨rfl, rfl⟩ | ⟨rfl, ho, hb⟩
  · have ca := (HB1.out.cell (p := a) HA.out).trans hca
    go_wp2_with fail
    obtain ⟨wo, rfl⟩ : ∃ wo : World, wo = wr := ⟨_, rfl⟩
    go_loopw [8, 35] (fun cy i wr => cy = .int .u64 0 ∧ ((i = .int .i64 0 ∧ wr = wo) ∨ (i = .int .i64 1 ∧ Own wr (fun q => q = g) 88 1 (.slice (some ⟨g, 0, none⟩) 2 2) 2 [.int .u32 p, .int .u32 0] ∧ Below w.heap.size w wr))) (fun _ i _ => 1 - (intOf i).toNat)
    case atStart => exact ⟨rfl, Or.inl ⟨rfl, rfl⟩⟩
    obtain ⟨rfl, ⟨rfl, rfl⟩ | ⟨rfl, ho, hb⟩⟩ := hrel
    · have cb := (HB1.out.cell (p := b) HB.out).trans hcb
      have c0 := HO.out.get 0 (by omega)
      have f0 := HO.out.unfrozen 0
      go_wp2_with fail
      go_roundw
      case rel => exact ⟨rfl, Or.inr ⟨rfl, HO.out.set 0 (by omega) _, ((Keeps.of_below HB1.out (fun _ => False)).setCell (p := ⟨g, 0, none⟩) (fun h => by have := HG.out; exact absurd h (by show ¬ g < _; omega)) _).to_below⟩⟩
      case measure => simp [intOf]
    · have HO2 := Lib.hid ho
      have HB2 := Lib.hid hb
      have c1 := ho.get 1 (by omega)
      have f1 := ho.unfrozen 1
      clear ho hb
      go_wp2_with fail
      go_roundw
      case rel => exact Or.inr ⟨rfl, HO2.out.set 1 (by omega) _, ((Keeps.of_below HB2.out (fun _ => False)).setCell (p := ⟨g, 1, none⟩) (fun h => by have := HG.out; exact absurd h (by show ¬ g < _; omega)) _).to_below⟩
      case measure => simp [intOf]
  · have c0 := ho.get 0 (by omega)
    have c1 := ho.get 1 (by omega)
    have HT := Lib.hid (trim_any wr g 2 p (by omega) c0 c1 hp1)
    have HO2 := Lib.hid ho
    have HB2 := Lib.hid hb
    clear ho hb c0 c1
    go_wp2_with fail
    refine HT.out.mono ?_
    rintro e w3 ⟨rfl, rfl⟩
    go_wp2_with fail
    go_ret
    exact ⟨_, rfl, ⟨⟨g, 0, none⟩, 2, rfl, by omega, by unfold maxLen; omega, HO2.out.lt rfl, HO2.out.get 0 (by omega), hp1, HP2.out⟩, HB2.out⟩
end Go.Proofs.YtmlfgokbcafbkaaGreatDoor

namespace Go.Proofs.YtmlfgokbcafbkaaGreatDoor
open Go.RowKit

set_option maxRecDepth 100000 in
set_option maxHeartbeats 2000000 in
theorem add_any (w : World) (u v : Value) (x y s : Nat) (hu : Nat1 w u x) (hv : Nat1 w v y) (hs : x + y = s) (hs2 : s < 1000000000) :
    Calls Tryz.prog 70 #[u, v] w fun e w' => ∃ r, e = .returned r ∧ Nat1 w' r s ∧ Below w.heap.size w w' := by
  obtain ⟨i0, hi0, hz0, hz1, hz2⟩ := info_parts u32_info
  obtain ⟨a, ca, rfl, -, -, haz, hca, hx1, hx2⟩ := hu
  obtain ⟨b, cb, rfl, -, -, hbz, hcb, hy1, hy2⟩ := hv
  have hs1 : 1 ≤ s := by omega
  have hsi : (x : Int) + (y : Int) = (s : Int) := by omega
  have hm1 : (s : Int).tmod 1000000000 = s := by rw [Int.tmod_eq_emod_of_nonneg (by omega)]; omega
  have hm2 : (s : Int).tdiv 1000000000 = 0 := by rw [Int.tdiv_eq_ediv_of_nonneg (by omega)]; omega
  have hm3 : (s : Int) % 4294967296 = s := by omega
  have hm4 : (x : Int) % 4294967296 = x := by omega
  have hw1 : IntKind.u32.wrap (x : Int) = x := u32_wrap _ (by omega) (by omega)
  have hw3 : IntKind.u32.wrap (s : Int) = s := u32_wrap _ (by omega) (by omega)
  have HS2 := Lib.hid hs2
  have HA := Lib.hid haz
  have HB := Lib.hid hbz
  clear hx2 hy2 hs2 hs haz hbz
  go_enter Tryz.func70, Tryz.ntmps70
  go_upto_region 4 with (at_make; refine wpList_make_own _ rfl _ _ 91 rfl 0 88 i0 _ 1 Tryz.underlying91 hi0 hz0 hz1 .i64 .i64 2 2 rfl rfl rfl (by rw [hz2]; omega) (by unfold maxLen; omega) (Nat.zero_le _) ?_; intro w1 hown0 hgr)
  have hown : Own w1 (fun q => w.heap.size ≤ q) 88 1 (.slice (some ⟨w.heap.size, 0, none⟩) 0 2) 0 [] := ⟨hown0, fun q hq => by simp [Value.ownBlock] at hq; omega⟩
  have hb1 : Below w.heap.size w w1 := (Below.refl w.heap.size w).grown hgr (Nat.le_refl _) (fun k e => by cases e)
  obtain ⟨g, hg⟩ : ∃ g, g = w.heap.size := ⟨_, rfl⟩
  rw [← hg]
  rw [← hg] at hown
  have HG := Lib.hid hg
  have HO := Lib.hid hown
  have HB1 := Lib.hid hb1
  clear hown hb1 hg hown0 hgr
  go_wp2_with fail
  go_loopw [5, 6, 22] (fun ov cv i wr => cv = .int .u32 0 ∧ ((i = .int .i64 0 ∧ wr = w1 ∧ ov = .slice (some ⟨g, 0, none⟩) 0 2) ∨ (i = .int .i64 1 ∧ Own wr (fun q => g ≤ q) 88 1 ov 1 [.int .u32 s] ∧ Below w.heap.size w wr))) (fun _ _ i _ => 1 - (intOf i).toNat)
  case atStart => exact ⟨rfl, Or.inl ⟨rfl, rfl, rfl⟩⟩
  obtain ⟨rfl, ⟨rfl, rfl, rfl⟩ | ⟨rfl, ho, hb⟩⟩ := hrel
  · have ca := (HB1.out.cell (p := a) HA.out).trans hca
    have cb := (HB1.out.cell (p := b) HB.out).trans hcb
    go_wp2_with (at_builtin; go_must (refine wpList_append_any _ rfl _ _ 91 rfl 88 i0 _ 1 4 Tryz.underlying91 hi0 hz0 hz1 hz2 rfl (by omega) (.slice (some ⟨g, 0, none⟩) 0 2) _ _ rfl (HO.out.alloc _) _ 1 1 _ rfl (lit_reads _ _ [.int .u32 s] 1 rfl) (by intro u hu; simp at hu; rw [hu]; rfl) (by unfold maxLen; omega) (by omega) ?_); intro v' w3 happ)
    have hz1' := HB1.out.size
    have hgg := HG.out
    obtain ⟨o3, b3⟩ := appBelow happ (B := g) (by simp; omega) (fun q hq => HO.out.2 q hq)
    go_roundw
    case rel => exact ⟨rfl, Or.inr ⟨rfl, o3, (((Keeps.of_below HB1.out (fun _ => False)).alloc _).below b3 (fun i hi h => by omega)).to_below⟩⟩
    case measure => simp [intOf]
  · have HO2 := Lib.hid ho
    have HB2 := Lib.hid hb
    clear ho hb
    go_wp2_with fail
    go_ret
    exact ⟨_, rfl, Nat1.of_own HO2.out hs1 HS2.out, HB2.out⟩

set_option maxRecDepth 100000 in
set_option maxHeartbeats 1000000 in
theorem cmp_same (w : World) (u v : Value) (x : Nat) (hu : Nat1 w u x) (hv : Nat1 w v x) : Calls Tryz.prog 71 #[u, v] w fun e w' => e = .returned (.int .i64 0) ∧ ∃ k, w' = w.drewN k := by
  obtain ⟨a, ca, rfl, -, -, haz, hca, hx1, hx2⟩ := hu
  obtain ⟨b, cb, rfl, -, -, hbz, hcb, -, -⟩ := hv
  have hself : ((x : Int) != (x : Int)) = false := by simp
  clear hx2 haz hbz
  go_enter Tryz.func71, Tryz.ntmps71
  go_wp2_with fail
  go_loopw [5] (fun i wr => (i = .int .i64 0 ∧ wr = w) ∨ (i = .int .i64 (-1) ∧ ∃ k, wr = w.drewN k)) (fun i _ => (intOf i + 1).toNat)
  case atStart => exact Or.inl ⟨rfl, rfl⟩
  rcases hrel with ⟨rfl, rfl⟩ | ⟨rfl, k, rfl⟩
  · go_wp2_with fail
    go_quiet (fail)
    go_wp2_with fail
    go_roundw
    case rel => exact Or.inr ⟨rfl, _, rfl⟩
    case measure => simp [intOf]
  · go_wp2_with fail
    go_ret
    exact ⟨rfl, k, rfl⟩
set_option maxRecDepth 100000 in
set_option maxHeartbeats 1000000 in
theorem trim_one (w : World) (ad : Addr) (c x : Nat) (h0 : w.cell? ad = some (.int .u32 x)) (hx : 1 ≤ x) :
    Calls Tryz.prog 87 #[.slice (some ad) 1 c] w fun e w' => e = .returned (.slice (some ad) 1 c) ∧ w' = w := by
  have hx1 : ((x : Int) == 0) = false := by simp; omega
  go_enter Tryz.func87, Tryz.ntmps87
  go_wp2_with fail
  go_loopw [0] (fun v wr => wr = w ∧ v = .slice (some ad) 1 c) (fun _ _ => 0)
  case atStart => exact ⟨rfl, rfl⟩
  obtain ⟨rfl, rfl⟩ := hrel
  go_wp2_with fail
  go_ret
  exact ⟨rfl, rfl⟩
end Go.Proofs.YtmlfgokbcafbkaaGreatDoor

namespace Go.Proofs.YtmlfgokbcafbkaaGreatDoor
open Go.RowKit

set_option maxRecDepth 100000 in
set_option maxHeartbeats 2000000 in
theorem short_same (w : World) (u : Value) (x : Nat) (hu : Nat1 w u x) :
    Calls Tryz.prog 102 #[u, .int .u64 x] w fun e w' => ∃ r, e = .returned (.tuple #[r, .int .u64 0]) ∧ Nat1 w' r 1 ∧ Below w.heap.size w w' := by
  obtain ⟨a, ca, rfl, -, -, haz, hca, hx1, hx2⟩ := hu
  have hq1 : (x : Int).tdiv (x : Int) = 1 := Int.tdiv_self (by omega)
  have hq2 : (x : Int).tmod (x : Int) = 0 := Int.tmod_self
  have hx0 : ¬ (x : Int) = 0 := by omega
  have hw1 : IntKind.u64.wrap (x : Int) = x := IntWalk.u64_in _ ⟨by omega, by omega⟩
  have hu1 : IntKind.u64.wrap 1 = 1 := by decide
  have hu0 : IntKind.u64.wrap 0 = 0 := by decide
  have hv1 : IntKind.u32.wrap 1 = 1 := by decide
  have HA := Lib.hid haz
  clear hx2 haz
  go_enter Tryz.func102, Tryz.ntmps102
  go_upto_region 2 with (at_make; refine wpList_make_nat _ rfl _ _ rfl _ _ 1 rfl rfl rfl rfl (by omega) ?_; intro w1 hown hb1 hz1)
  obtain ⟨g, hg⟩ : ∃ g, g = w.heap.size := ⟨_, rfl⟩
  rw [← hg] at hown
  rw [← hg]
  have HG := Lib.hid hg
  have HO := Lib.hid hown
  have HB1 := Lib.hid hb1
  clear hown hb1 hg hz1
  go_wp2_with fail
  go_loopw [7, 8] (fun rv i wr => rv = .int .u64 0 ∧ ((i = .int .i64 0 ∧ wr = w1) ∨ (i = .int .i64 (-1) ∧ Own wr (fun q => q = g) 88 1 (.slice (some ⟨g, 0, none⟩) 1 1) 1 [.int .u32 1] ∧ Below w.heap.size w wr))) (fun _ i _ => (intOf i + 1).toNat)
  case atStart => exact ⟨rfl, Or.inl ⟨rfl, rfl⟩⟩
  obtain ⟨rfl, ⟨rfl, rfl⟩ | ⟨rfl, ho, hb⟩⟩ := hrel
  · have ca := (HB1.out.cell (p := a) HA.out).trans hca
    have c0 := HO.out.get 0 (by omega)
    have f0 := HO.out.unfrozen 0
    go_upto_region 7 with (fail)
    go_region
    go_wp2_with fail
    go_roundw
    case rel => exact ⟨rfl, Or.inr ⟨rfl, (HO.out.set 0 (by omega) _).drew, (((Keeps.of_below HB1.out (fun _ => False)).setCell (p := ⟨g, 0, none⟩) (fun h => by have := HG.out; exact absurd h (by show ¬ g < _; omega)) _).drew).to_below⟩⟩
    case measure => simp [intOf]
  · have c0 := ho.get 0 (by omega)
    have HT := Lib.hid (trim_one wr ⟨g, 0, none⟩ 1 1 c0 (by omega))
    have HO2 := Lib.hid ho
    have HB2 := Lib.hid hb
    clear ho hb c0
    go_wp2_with fail
    refine HT.out.mono ?_
    rintro e w3 ⟨rfl, rfl⟩
    go_wp2_with fail
    go_ret2
    exact ⟨_, rfl, Nat1.of_own HO2.out (by omega) (by omega), HB2.out⟩

set_option maxRecDepth 100000 in
set_option maxHeartbeats 2000000 in
theorem div_same (w : World) (u v : Value) (x : Nat) (hu : Nat1 w u x) (hv : Nat1 w v x) :
    Calls Tryz.prog 89 #[u, v] w fun e w' => ∃ r, e = .returned (.tuple #[r, .slice none 0 0]) ∧ Nat1 w' r 1 ∧ Below w.heap.size w w' := by
  have HC := Lib.hid (cmp_same w u v x hu hv)
  have HSH := Lib.hid (fun k => short_same (w.drewN k) u x (hu.drewN k))
  obtain ⟨a, ca, rfl, -, -, haz, hca, hx1, hx2⟩ := hu
  obtain ⟨b, cb, rfl, -, -, hbz, hcb, -, -⟩ := hv
  have hm4 : (x : Int) % 4294967296 = x := by omega
  clear hx2 haz hbz
  go_enter Tryz.func89, Tryz.ntmps89
  go_wp2_with fail
  refine HC.out.mono ?_
  rintro e w1 ⟨rfl, k, rfl⟩
  go_wp2_with fail
  refine (HSH.out k).mono ?_
  rintro e w2 ⟨r, rfl, hr, hb⟩
  have HR := Lib.hid hr
  have HB := Lib.hid hb
  clear hr hb
  go_wp2_with fail
  refine (of_zero _).mono ?_
  rintro e w3 ⟨rfl, rfl⟩
  go_wp2_with fail
  go_ret2
  exact ⟨r, rfl, HR.out, ((((Keeps.refl (fun _ => False) w).drewN k)).fresh HB.out).to_below⟩
end Go.Proofs.YtmlfgokbcafbkaaGreatDoor

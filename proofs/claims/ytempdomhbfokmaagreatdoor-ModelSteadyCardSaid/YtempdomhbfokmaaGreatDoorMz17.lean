/- The bytes of a model. The methods of Stream: each returns some number of its range, moves the stream's place, and keeps all else. Conditions: none beside the stream's own form. -/
import Derived.Test.YtempdomhbfokmaaGreatDoorMz16
import Derived.Test.YtempdomhbfokmaaGreatDoorMz12
import Derived.Test.YtempdomhbfokmaaGreatDoorMz5
import Derived.StillTailTactics
import Derived.Deep.DeepCutAuto
import Derived.Test.YtempdomhbfokmaaGreatDoorRows
import Derived.Test.YtempdomhbfokmaaGreatDoorMz1
namespace Go.Proofs.YtempdomhbfokmaaGreatDoor
open Go.RowKit

theorem lit_slc' (w : World) (t : TypeId) (xs : List Int) (n : Nat) (hn : n = xs.length) (hm : n ≤ maxLen) : Slc (w.alloc (.cells (ints xs).toArray t)) (· = w.heap.size) (.slice (some ⟨w.heap.size, 0, none⟩) n n) xs := by
  subst hn
  exact ⟨_, _, rfl, reads_new w t xs _ rfl, Nat.le_refl _, hm, fun h => by cases h⟩
def Model.ls (M : Model) : List (List Int) := [M.cuts, M.embed, M.place, M.mix, M.out, M.soft, M.odds]
def Model.ns (M : Model) : List Int := [M.kind, M.vocab, M.width, M.top]
def modelBytes (M : Model) : List Int := M.ns.flatMap numF ++ M.ls.flatMap listF
theorem MSl.rows {w : World} {T : Nat → Prop} {M : Model} {v4 v5 v6 v7 v8 v9 v10 : Value} (h : MSl w T M v4 v5 v6 v7 v8 v9 v10) : Rows w T [v4, v5, v6, v7, v8, v9, v10] M.ls := by
  have r := (((((((Rows.nil_ w T).snoc h.cuts).snoc h.embed).snoc h.place).snoc h.mix).snoc h.out).snoc h.soft).snoc h.odds
  exact r
def nsTo (M : Model) (k : Nat) : List Int := (M.ns.take k).flatMap numF
def lsTo (M : Model) (k : Nat) : List Int := M.ns.flatMap numF ++ (M.ls.take k).flatMap listF
theorem nsTo_succ (M : Model) (k : Nat) (h : k < M.ns.length) : nsTo M (k + 1) = nsTo M k ++ numF M.ns[k] := by
  unfold nsTo
  rw [List.take_succ_eq_append_getElem h, List.flatMap_append]
  simp
theorem lsTo_succ (M : Model) (k : Nat) (h : k < M.ls.length) : lsTo M (k + 1) = lsTo M k ++ listF M.ls[k] := by
  unfold lsTo
  rw [List.take_succ_eq_append_getElem h, List.flatMap_append]
  simp
theorem nsTo_length (M : Model) (k : Nat) : (nsTo M k).length ≤ 44 := by
  unfold nsTo
  have h1 := flatNum_length (M.ns.take k)
  have h2 : (M.ns.take k).length ≤ M.ns.length := List.length_take_le' _ _
  have h3 : M.ns.length = 4 := rfl
  omega
theorem flatList_length (L : List (List Int)) (h : ∀ l ∈ L, l.length ≤ 10000) : (L.flatMap listF).length ≤ 110011 * L.length := by
  induction L with
  | nil => simp
  | cons x L ih =>
    simp only [List.flatMap_cons, List.length_append, List.length_cons]
    have h1 := listF_length x
    have h2 := h x (by simp)
    have h3 := ih fun l hl => h l (by simp [hl])
    omega
theorem Model.Ok.small {M : Model} (hM : M.Ok) : ∀ l ∈ M.ls, l.length ≤ 1000 ∧ inRange (-2147483648) 2147483647 l := by
  have hv := hM.vocab
  have hw := hM.width
  have hm : M.vocab * M.width ≤ 16 * 5 := Nat.mul_le_mul hv.2 hw.2
  have h3 : 3 * M.width * M.width ≤ 3 * 5 * 5 := Nat.mul_le_mul (Nat.mul_le_mul (Nat.le_refl 3) hw.2) hw.2
  intro l hl
  simp only [Model.ls, List.mem_cons, List.not_mem_nil, or_false] at hl
  rcases hl with rfl | rfl | rfl | rfl | rfl | rfl | rfl
  · exact ⟨by have := hM.lcuts; omega, fun x hx => by have := hM.cuts x hx; omega⟩
  · exact ⟨by have := hM.lembed; omega, fun x hx => by have := hM.embed x hx; omega⟩
  · obtain ⟨t, t1, t2, ht⟩ := hM.lplace
    have : t * M.width ≤ 16 * 5 := Nat.mul_le_mul t2 hw.2
    exact ⟨by omega, fun x hx => by have := hM.place x hx; omega⟩
  · refine ⟨?_, fun x hx => by have := hM.mix x hx; omega⟩
    have hk := hM.kind
    have h2 : 2 * M.width * M.width ≤ 2 * 5 * 5 := Nat.mul_le_mul (Nat.mul_le_mul (Nat.le_refl 2) hw.2) hw.2
    have hk2 : M.kind = 1 ∨ M.kind = 2 ∨ M.kind = 3 := by omega
    rcases hk2 with e | e | e
    · have := hM.attend e; omega
    · have := hM.cell e; omega
    · obtain ⟨t, t1, t2, ht⟩ := hM.conv e
      have : t * (M.width * M.width) ≤ 4 * (5 * 5) := Nat.mul_le_mul t2 (Nat.mul_le_mul hw.2 hw.2)
      omega
  · exact ⟨by have := hM.lout; omega, fun x hx => by have := hM.out x hx; omega⟩
  · exact ⟨by have := hM.lsoft; omega, fun x hx => by have := hM.soft x hx; omega⟩
  · exact ⟨by have := hM.lodds; omega, fun x hx => by have := hM.odds x hx; omega⟩
theorem lsTo_length (M : Model) (hM : M.Ok) (k : Nat) : (lsTo M k).length ≤ 400000 := by
  have key : ∀ L : List (List Int), (∀ l ∈ L, l.length ≤ 1000) → (L.flatMap listF).length ≤ 11011 * L.length := by
    intro L
    induction L with
    | nil => intro _; simp
    | cons x L ih =>
      intro h
      simp only [List.flatMap_cons, List.length_append, List.length_cons]
      have h1 := listF_length x
      have h2 := h x (by simp)
      have h3 := ih fun l hl => h l (by simp [hl])
      omega
  unfold lsTo
  rw [List.length_append]
  have h1 := flatNum_length M.ns
  have h3 : M.ns.length = 4 := rfl
  have h2 := key (M.ls.take k) fun l hl => (hM.small l (List.mem_of_mem_take hl)).1
  have h4 : (M.ls.take k).length ≤ M.ls.length := List.length_take_le' _ _
  have h5 : M.ls.length = 7 := rfl
  have h6 : 11011 * (M.ls.take k).length ≤ 11011 * 7 := Nat.mul_le_mul (Nat.le_refl _) (by omega)
  omega
theorem modelBytes_bytes (M : Model) : isBytes (modelBytes M) := by
  have h1 : ∀ n, isBytes (numF n) := fun n => varF_bytes _ _
  have h2 : ∀ l : List Int, isBytes (l.flatMap numF) := by
    intro l x hx
    obtain ⟨n, -, h⟩ := List.mem_flatMap.1 hx
    exact h1 n x h
  refine isBytes_append (h2 _) ?_
  intro x hx
  obtain ⟨l, -, h⟩ := List.mem_flatMap.1 hx
  exact isBytes_append (h1 _) (h2 l) x h
theorem modelBytes_length (M : Model) (hM : M.Ok) : (modelBytes M).length ≤ 800000 := by
  unfold modelBytes
  rw [List.length_append]
  have h1 := flatNum_length M.ns
  have h3 : M.ns.length = 4 := rfl
  have h2 := flatList_length M.ls fun l hl => by have := (hM.small l hl).1; omega
  have h4 : M.ls.length = 7 := rfl
  rw [h4] at h2
  omega
def mcell (M : Model) (vs : List Value) : Array Value := #[.int .i64 M.kind, .int .i64 M.vocab, .int .i64 M.width, .int .i64 M.top] ++ vs.toArray
end Go.Proofs.YtempdomhbfokmaaGreatDoor

namespace Go.Proofs.YtempdomhbfokmaaGreatDoor
open Go.RowKit

/-- 'weftmake.Below' as a function. -/
def belowF (x n : Int) : Int := if n < 1 then 0 else if x.tmod n < 0 then x.tmod n + n else x.tmod n
theorem belowF_range (x n : Int) : 0 ≤ belowF x n ∧ (1 ≤ n → belowF x n < n) ∧ (n < 1 → belowF x n = 0) := by
  unfold belowF
  by_cases h : n < 1
  · rw [if_pos h]; exact ⟨Int.le_refl 0, fun h1 => by omega, fun _ => rfl⟩
  · rw [if_neg h]
    have h1 := Int.tmod_lt_of_pos x (show 0 < n by omega)
    have h2 : -n < x.tmod n := by
      have h3 := Int.tmod_lt_of_pos (-x) (show 0 < n by omega)
      rw [Int.neg_tmod] at h3
      omega
    split <;> exact ⟨by omega, fun _ => by omega, fun h4 => by omega⟩

set_option maxHeartbeats 400000 in
theorem below_any (x n : Int) (w : World) (hn : -9223372036854775808 ≤ n ∧ n ≤ 9223372036854775807) :
    Calls Tryz.prog 31 #[.int .i64 x, .int .i64 n] w fun e w' => e = .returned (.int .i64 (belowF x n)) ∧ w = w' := by
  go_enter Tryz.func31, Tryz.ntmps31
  go_wp2
  · go_ret
    exact ⟨by unfold belowF; rw [if_pos (by assumption)]; rfl, rfl⟩
  · go_ret
    have h1 : 1 ≤ n := by assumption
    have h2 : x.tmod n < 0 := by assumption
    refine ⟨?_, rfl⟩
    unfold belowF
    rw [if_neg (by omega), if_pos h2]
    have h3 := Int.tmod_lt_of_pos (-x) (show 0 < n by omega)
    rw [Int.neg_tmod] at h3
    show Ending.returned (.int .i64 (wrap64 _)) = _
    rw [IntWalk.wrap64_in _ ⟨by omega, by omega⟩]
  · go_ret
    have h1 : 1 ≤ n := by assumption
    have h2 : 0 ≤ x.tmod n := by assumption
    exact ⟨by unfold belowF; rw [if_neg (by omega), if_neg (by omega)]; rfl, rfl⟩

/-- The stream at block p: its list reads as l, its place is a. -/
structure Str (w : World) (p : Nat) (A : Option Addr) (n c : Nat) (l : List Int) (a : Int) : Prop where
  blk : Blk w p 25 #[.slice A n c, .int .i64 a]
  reads : Reads w (· ≠ p) 1 A n (ints l)
  wf : ∀ x ∈ l, -9223372036854775808 ≤ x ∧ x ≤ 9223372036854775807
  len : n ≤ 9223372036854775807
  at0 : 0 ≤ a

section
variable {w w' : World} {p : Nat} {A : Option Addr} {n c : Nat} {l : List Int} {a : Int}
theorem Str.keeps {S : Nat → Prop} (h : Str w p A n c l a) (hk : Keeps S w w') (hp : ¬ S p) (hs : ∀ ad, A = some ad → ¬ S ad.block) : Str w' p A n c l a := by
  refine ⟨hk.blk h.blk hp, ?_, h.wf, h.len, h.at0⟩
  refine ⟨h.reads.1, fun hn => ?_⟩
  obtain ⟨ad, e, hb, ht, hc⟩ := h.reads.2 hn
  exact ⟨ad, e, Nat.lt_of_lt_of_le hb hk.size, ht, fun j u hu => (hk.cell (by rw [block_of_add]; exact hb) (by rw [block_of_add]; exact hs ad e)).trans (hc j u hu)⟩
theorem Str.fresh (h : Str w p A n c l a) (hk : Below w.heap.size w w') : Str w' p A n c l a :=
  ⟨(hk.block p h.blk.lt).trans h.blk, h.reads.fresh hk, h.wf, h.len, h.at0⟩
theorem Str.set (h : Str w p A n c l a) (a' : Int) (h0 : 0 ≤ a') : Str (w.setCell ⟨p, 1, none⟩ (.int .i64 a')) p A n c l a' :=
  ⟨h.blk.set_ 1 _, h.reads.setCell (fun h => h rfl) _, h.wf, h.len, h0⟩
theorem Str.drew (h : Str w p A n c l a) : Str w.drew p A n c l a := ⟨h.blk.drew, h.reads.drew, h.wf, h.len, h.at0⟩
theorem Str.drewN (h : Str w p A n c l a) (k : Nat) : Str (w.drewN k) p A n c l a := ⟨h.blk.drewN k, h.reads.drewN k, h.wf, h.len, h.at0⟩
theorem Str.alloc (h : Str w p A n c l a) (o : Obj) : Str (w.alloc o) p A n c l a := ⟨h.blk.alloc o, h.reads.alloc o, h.wf, h.len, h.at0⟩
theorem Str.setFar (h : Str w p A n c l a) {q : Addr} (hq : w.heap.size ≤ q.block) (u : Value) : Str (w.setCell q u) p A n c l a := by
  have := h.blk.lt
  refine ⟨h.blk.far (by omega) u, ?_, h.wf, h.len, h.at0⟩
  exact h.reads.keep (by simp [World.setCell]) fun r hr _ => World.cell?_setCell_other w q r u (fun e => by subst e; omega)
end

/-- What a method of the stream leaves: some number with a property, the stream moved on by at most m places, all else kept. -/
def StrPost (w : World) (p : Nat) (A : Option Addr) (n c : Nat) (l : List Int) (a m : Int) (R : Int → Prop) (e : Ending) (w' : World) : Prop :=
  ∃ v a', e = .returned (.int .i64 v) ∧ R v ∧ a ≤ a' ∧ a' ≤ a + m ∧ Str w' p A n c l a' ∧ Keeps (· = p) w w'

set_option maxHeartbeats 400000 in
theorem next_any (w : World) (p : Nat) (A : Option Addr) (n c : Nat) (l : List Int) (a m : Int) (h : Str w p A n c l a) (ha : a ≤ 1000000000) (hm : -9223372036854775808 ≤ m ∧ m ≤ 9223372036854775807) :
    Calls Tryz.prog 14 #[.pointer (some ⟨p, 0, none⟩), .int .i64 m] w (StrPost w p A n c l a 1 fun v => 0 ≤ v ∧ (1 ≤ m → v < m) ∧ (m < 1 → v = 0)) := by
  have c0 := h.blk.cell 0
  have c1 := h.blk.cell 1
  have f1 := h.blk.frozen 1
  have a0 := h.at0
  have hl := h.len
  by_cases hn : n = 0
  · subst hn
    go_enter Tryz.func14, Tryz.ntmps14
    go_wp2_with (go_at_call 31; refine (below_any _ _ _ hm).mono ?_; rintro e w' ⟨rfl, rfl⟩)
    go_ret
    exact ⟨_, a + 1, rfl, belowF_range _ m, by omega, by omega, h.set _ (by omega), Keeps.setCell (Keeps.refl (· = p) w) (fun _ => rfl) _⟩
  · have e1 : a % n < n := Int.emod_lt_of_pos a (show (0 : Int) < n by omega)
    have e0 : 0 ≤ a % n := Int.emod_nonneg a (show (n : Int) ≠ 0 by omega)
    obtain ⟨ad, u, rfl, hb, ht, hu, hc⟩ := h.reads.at_ (k := (a % n).toNat) (by omega)
    have hll : (a % n).toNat < l.length := by have := h.reads.1; simp [ints] at this; omega
    have hw := h.wf _ (List.getElem_mem hll)
    rw [ints_get l _ hll] at hu
    obtain ⟨x, hx⟩ : ∃ x, x = l[(a % n).toNat] := ⟨_, rfl⟩
    rw [← hx] at hu hw
    injection hu with hu
    subst hu
    clear hx
    have hc1 : (w.setCell ⟨p, 1, none⟩ (.int .i64 (a + 1))).cell? (ad.add (a % n).toNat) = some (.int .i64 x) := by
      rw [World.cell?_setCell_other _ _ _ _ (fun e => by have := congrArg Addr.block e; rw [block_of_add] at this; exact ht this.symm)]
      exact hc
    clear hc ht
    go_enter Tryz.func14, Tryz.ntmps14
    go_wp2_with fail
    go_quiet (fail)
    go_wp2_with fail
    go_quiet (fail)
    go_wp2_with fail
    refine (below_any _ _ _ (by omega)).mono ?_
    rintro e w' ⟨rfl, rfl⟩
    go_wp2_with fail
    refine (below_any _ _ _ hm).mono ?_
    rintro e w' ⟨rfl, rfl⟩
    go_wp2_with fail
    go_ret
    exact ⟨_, a + 1, rfl, belowF_range _ m, by omega, by omega, (h.set _ (by omega)).drewN _, (Keeps.setCell (Keeps.refl (· = p) w) (fun _ => rfl) _).drewN _⟩

set_option maxHeartbeats 400000 in
theorem range_any (w : World) (p : Nat) (A : Option Addr) (n c : Nat) (l : List Int) (a lo hi : Int) (h : Str w p A n c l a) (ha : a ≤ 1000000000)
    (h1 : -1000000000000 ≤ lo) (h2 : lo ≤ hi) (h3 : hi ≤ 1000000000000) :
    Calls Tryz.prog 12 #[.pointer (some ⟨p, 0, none⟩), .int .i64 lo, .int .i64 hi] w (StrPost w p A n c l a 1 fun v => lo ≤ v ∧ v ≤ hi) := by
  go_enter Tryz.func12, Tryz.ntmps12
  go_wp2_with fail
  refine (next_any w p A n c l a _ h ha (by omega)).mono ?_
  rintro e w' ⟨v, a', rfl, ⟨r1, r2, r3⟩, g1, g2, hs, hk⟩
  have r4 := r2 (by omega)
  clear r2 r3
  go_wp2_with fail
  go_ret
  exact ⟨_, a', rfl, ⟨by omega, by omega⟩, g1, g2, hs, hk⟩

set_option maxHeartbeats 400000 in
theorem flip_any (w : World) (p : Nat) (A : Option Addr) (n c : Nat) (l : List Int) (a m : Int) (h : Str w p A n c l a) (ha : a ≤ 1000000000) (hm : -9223372036854775808 ≤ m ∧ m ≤ 9223372036854775807) :
    Calls Tryz.prog 29 #[.pointer (some ⟨p, 0, none⟩), .int .i64 m] w fun e w' => ∃ b a', e = .returned (.bool b) ∧ a ≤ a' ∧ a' ≤ a + 1 ∧ Str w' p A n c l a' ∧ Keeps (· = p) w w' := by
  go_enter Tryz.func29, Tryz.ntmps29
  go_wp2_with fail
  refine (next_any w p A n c l a _ h ha hm).mono ?_
  rintro e w' ⟨v, a', rfl, ⟨r1, r2, r3⟩, g1, g2, hs, hk⟩
  clear r2 r3
  go_wp2_with fail
  go_ret
  exact ⟨_, a', rfl, g1, g2, hs, hk⟩

set_option maxHeartbeats 400000 in
theorem pick_any (w : World) (p : Nat) (A : Option Addr) (n c : Nat) (l : List Int) (a : Int) (h : Str w p A n c l a) (ha : a ≤ 1000000000)
    (C : Addr) (k cap : Nat) (xs : List Int) (T : Nat → Prop) (hx : Reads w T 1 (some C) k (ints xs)) (hT : ¬ T p) (hk0 : 0 < k) (hk1 : k ≤ 1000000) :
    Calls Tryz.prog 18 #[.pointer (some ⟨p, 0, none⟩), .slice (some C) k cap] w (StrPost w p A n c l a 1 fun v => v ∈ xs) := by
  go_enter Tryz.func18, Tryz.ntmps18
  go_wp2_with fail
  refine (next_any w p A n c l a _ h ha (by omega)).mono ?_
  rintro e w' ⟨v, a', rfl, ⟨r1, r2, r3⟩, g1, g2, hs, hk⟩
  have r4 := r2 (by omega)
  clear r2 r3
  have hx' := hx.keeps hk (fun i hi => by rintro rfl; exact hT hi)
  obtain ⟨v, rfl⟩ := Int.eq_ofNat_of_zero_le r1
  obtain ⟨ad, u, he, _, _, hu, hc⟩ := hx'.at_ (k := v) (by omega)
  injection he with he
  subst he
  have hv : v < xs.length := by have := hx.1; simp [ints] at this; omega
  rw [ints_get xs _ hv] at hu
  have hmem := List.getElem_mem hv
  injection hu with hu
  rw [← hu] at hc
  obtain ⟨y, hy⟩ : ∃ y, y = xs[v] := ⟨_, rfl⟩
  rw [← hy] at hc hmem
  clear hy hu
  go_wp2_with fail
  go_ret
  exact ⟨_, a', rfl, hmem, g1, g2, hs, hk⟩

set_option maxHeartbeats 400000 in
theorem word_any (w : World) (p : Nat) (A : Option Addr) (n c : Nat) (l : List Int) (a : Int) (h : Str w p A n c l a) (ha : a ≤ 900000000) :
    Calls Tryz.prog 13 #[.pointer (some ⟨p, 0, none⟩)] w (StrPost w p A n c l a 3 fun v => -2147483648 ≤ v ∧ v ≤ 2147483647) := by
  go_enter Tryz.func13, Tryz.ntmps13
  go_wp2_with fail
  refine (next_any w p A n c l a _ h (by omega) (by omega)).mono ?_
  rintro e w' ⟨v, a', rfl, ⟨r1, r2, r3⟩, g1, g2, hs, hk⟩
  clear r2 r3
  go_wp2_with fail
  · refine (next_any _ p A n c l a' _ hs (by omega) (by omega)).mono ?_
    rintro e w2 ⟨v2, a2, rfl, ⟨q1, q2, q3⟩, k1, k2, hs2, hk2⟩
    have q4 := q2 (by omega)
    clear q2 q3
    go_wp2_with fail
    go_ret
    exact ⟨_, a2, rfl, ⟨by omega, by omega⟩, by omega, by omega, hs2, hk.tr hk2⟩
  · refine (next_any _ p A n c l a' _ hs (by omega) (by omega)).mono ?_
    rintro e w2 ⟨v2, a2, rfl, ⟨q1, q2, q3⟩, k1, k2, hs2, hk2⟩
    have q4 := q2 (by omega)
    clear q2 q3
    go_wp2_with fail
    go_ret
    exact ⟨_, a2, rfl, ⟨by omega, by omega⟩, by omega, by omega, hs2, hk.tr hk2⟩
  · refine (next_any _ p A n c l a' _ hs (by omega) (by omega)).mono ?_
    rintro e w2 ⟨v2, a2, rfl, ⟨q1, q2, q3⟩, k1, k2, hs2, hk2⟩
    have q4 := q2 (by omega)
    clear q2 q3
    go_wp2_with fail
    refine (next_any _ p A n c l a2 _ hs2 (by omega) (by omega)).mono ?_
    rintro e w3 ⟨v3, a3, rfl, ⟨u1, u2, u3⟩, l1, l2, hs3, hk3⟩
    have u4 := u2 (by omega)
    clear u2 u3
    go_wp2_with fail
    go_ret
    exact ⟨_, a3, rfl, ⟨by omega, by omega⟩, by omega, by omega, hs3, (hk.tr hk2).tr hk3⟩
  · refine (range_any _ p A n c l a' _ _ hs (by omega) (by omega) (by omega) (by omega)).mono ?_
    rintro e w2 ⟨v2, a2, rfl, ⟨q1, q2⟩, k1, k2, hs2, hk2⟩
    go_wp2_with fail
    go_ret
    exact ⟨_, a2, rfl, ⟨by omega, by omega⟩, by omega, by omega, hs2, hk.tr hk2⟩

end Go.Proofs.YtempdomhbfokmaaGreatDoor

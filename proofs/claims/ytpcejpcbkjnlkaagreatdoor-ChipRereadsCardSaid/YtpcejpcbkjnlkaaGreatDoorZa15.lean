/- Instructions; the coder that makes them; add, reg. What coder.op gives; the state inside it. Instructions that Check accepts, in plain words. -/
import Derived.Test.YtpcejpcbkjnlkaaGreatDoorZa13
import Derived.Test.YtpcejpcbkjnlkaaGreatDoorZa14
import Derived.Laws.Tables
import Derived.Deep.RegionHeld3
set_option linter.unusedVariables false
namespace Go.Proofs.YtpcejpcbkjnlkaaGreatDoor
open Go.RowKit

structure Ins where
  op : Int
  k : Int
  d : Int
  a : Int
  b : Int
  c : Int
  p : Int
  n : Int
  m : Int
def Ins.cells (x : Ins) : Array Value := #[.int .i64 x.op, .int .i64 x.k, .int .i64 x.d, .int .i64 x.a, .int .i64 x.b, .int .i64 x.c, .int .i64 x.p, .int .i64 x.n, .int .i64 x.m]
def Ins.val (x : Ins) : Value := .agg x.cells
def insL (xs : List Ins) : List Value := xs.flatMap fun x => x.cells.toList
theorem insL_length (xs : List Ins) : (insL xs).length = xs.length * 9 := by
  induction xs with
  | nil => rfl
  | cons x xs ih => rw [insL, List.flatMap_cons, List.length_append, show (xs.flatMap fun x => x.cells.toList).length = xs.length * 9 from ih]; simp [Ins.cells]; omega
theorem insL_snoc (xs : List Ins) (x : Ins) : insL (xs ++ [x]) = insL xs ++ x.cells.toList := by simp [insL]
theorem ins_info : (Tryz.prog.info? 44).map (fun i => (i.zero, i.size, i.bytes)) = some (some (.agg #[.int .i64 0, .int .i64 0, .int .i64 0, .int .i64 0, .int .i64 0, .int .i64 0, .int .i64 0, .int .i64 0, .int .i64 0]), 9, 72) := by kernel_rfl
theorem ins_one (x : Ins) : ∀ u ∈ x.cells.toList, u.oneCell' = true := by
  intro u hu
  simp only [Ins.cells, List.mem_cons, List.not_mem_nil, or_false] at hu
  rcases hu with rfl | rfl | rfl | rfl | rfl | rfl | rfl | rfl | rfl <;> rfl
theorem reads_ins (w : World) (x : Ins) : Reads (w.alloc (.cells x.cells 44)) (· = w.heap.size) 9 (some ⟨w.heap.size, 0, none⟩) 1 x.cells.toList := by
  refine ⟨by simp [Ins.cells], fun _ => ⟨_, rfl, by simp, rfl, fun j u hu => ?_⟩⟩
  have h : Blk (w.alloc (.cells x.cells 44)) w.heap.size 44 x.cells := Blk.new w _ _
  rw [Addr.add_lit, h.cell]
  simpa using hu
/-- the coder at block q: its stream, its machine, its code, the words that are set -/
def coderCells (p : Nat) (m : Mach) (v : Value) (st : Int) : Array Value := #[.pointer (some ⟨p, 0, none⟩), .int .i64 m.main, .int .i64 m.banks, .int .i64 m.bank, .int .i64 m.lanes, .int .i64 m.queues, v, .int .i64 st]
structure Cod (W : World) (B p q : Nat) (A : Option Addr) (n c : Nat) (l : List Int) (a : Int) (m : Mach) (st : Int) (v : Value) (xs : List Ins) : Prop where
  str : Str W p A n c l a
  low : Low A n B
  blk : Blk W q 51 (coderCells p m v st)
  own : Own W (fun g => B ≤ g ∧ g ≠ q) 44 9 v xs.length (insL xs)
  pB : p < B
  Bq : B ≤ q
section
variable {W W' : World} {B p q : Nat} {A : Option Addr} {n c : Nat} {l : List Int} {a a2 : Int} {m : Mach} {st : Int} {v : Value} {xs : List Ins}
theorem Cod.moved (h : Cod W B p q A n c l a m st v xs) (hs : Str W' p A n c l a2) (hk : Keeps (· = p) W W') : Cod W' B p q A n c l a2 m st v xs := by
  have := h.pB
  have := h.Bq
  exact ⟨hs, h.low, hk.blk h.blk (by omega), h.own.keeps hk (fun i hi => by omega), h.pB, h.Bq⟩
theorem Cod.fresh (h : Cod W B p q A n c l a m st v xs) (hb : Below W.heap.size W W') : Cod W' B p q A n c l a m st v xs := h.moved (h.str.fresh hb) (Keeps.of_below hb _)
theorem Cod.alloc (h : Cod W B p q A n c l a m st v xs) (o : Obj) : Cod (W.alloc o) B p q A n c l a m st v xs := h.fresh ((Below.refl _ _).alloc (Nat.le_refl _) o)
theorem Cod.drewN (h : Cod W B p q A n c l a m st v xs) (k : Nat) : Cod (W.drewN k) B p q A n c l a m st v xs := h.fresh ⟨rfl, rfl, rfl, Nat.le_refl _, fun _ _ => rfl⟩
theorem Cod.drew (h : Cod W B p q A n c l a m st v xs) : Cod W.drew B p q A n c l a m st v xs := h.drewN 1
/-- the append and its store -/
theorem Cod.push (h : Cod W B p q A n c l a m st v xs) {v' : Value} {x : Ins} (o : Obj) (happ : Appended (W.alloc o) W' (fun g => B ≤ g ∧ g ≠ q) 44 9 v v' (xs.length + 1) (insL xs ++ x.cells.toList)) :
    Cod (W'.setCell ⟨q, 6, none⟩ v') B p q A n c l a m st v' (xs ++ [x]) ∧ Keeps (B ≤ ·) W (W'.setCell ⟨q, 6, none⟩ v') := by
  have hp := h.pB
  have hq := h.Bq
  have hql := h.blk.lt
  have hne : ∀ g, v.ownBlock = some g → B ≤ g ∧ g ≠ q := fun g e => h.own.2 g e
  have hK : Keeps (fun g => B ≤ g ∧ g ≠ q) W W' := ((Keeps.refl _ W).alloc o).tr ((Keeps.refl _ _).grown happ.2.1 (fun k e _ => hne k e))
  have hset : Keeps (· = q) W' (W'.setCell ⟨q, 6, none⟩ v') := Keeps.setCell (p := ⟨q, 6, none⟩) (Keeps.refl (· = q) W') (fun _ => rfl) _
  have kp : Keeps (B ≤ ·) W (W'.setCell ⟨q, 6, none⟩ v') := (hK.mono (S' := (B ≤ ·)) (fun i _ hi => hi.1)).trans hset (fun i hi e => by have e : i = q := e; show B ≤ i; omega)
  have ho : Own W' (fun g => B ≤ g ∧ g ≠ q) 44 9 v' (xs ++ [x]).length (insL (xs ++ [x])) := by
    have := happ.1.more (T' := fun g => B ≤ g ∧ g ≠ q) fun g _ e => by
      rcases e with e | e
      · exact e
      · subst e; simp; omega
    rw [List.length_append, insL_snoc]
    exact this
  refine ⟨⟨h.str.far kp (by omega) (fun ad hn e => by have := h.low ad hn e; omega), h.low, ?_, ho.setCell (p := ⟨q, 6, none⟩) (fun e => e.2 rfl) _, hp, hq⟩, kp⟩
  exact (hK.blk h.blk (fun e => e.2 rfl)).set_ 6 v'
end
/-! ### a struct stored into its block -/
theorem step_store_blk {ops : Array Oper} {o : Oper} {a : Act} {w : World} {K : Act → World → Prop} {Q : Exit → Act → World → Prop} {E : Prop} (hgd : o.guard = none) (ty : TypeId) (x y : Operand) (ho : o.op = .store ty x y)
    (g : Nat) (cells : Array Value) (hx : a.eval x = .pointer (some ⟨g, 0, none⟩)) (hy : a.eval y = .agg cells) (t : TypeId) (old : Array Value) (hg : Blk w g t old) (hi : (Tryz.prog.info? ty).map (·.size) = some cells.size)
    (hold : old.size = cells.size) (h1 : cells.all (·.oneCell') = true) (h : ∀ w', Blk w' g t cells → Keeps (· = g) w w' → K (a.put o.dst undef) w') :
    if Region.wanted o (yielded ops a.tmps) = true then Oper.wp Tryz.prog o a w K Q else E := by
  have hw : Region.wanted o (yielded ops a.tmps) = true := by simp [Region.wanted, hgd]
  rw [if_pos hw]
  exact wp_store_row ty x y ho g cells hx hy t old hg hi hold h1 (h _ (setRow_blk hg) (setRow_keeps _ _ _))
set_option maxRecDepth 100000 in
set_option maxHeartbeats 2000000 in
theorem add_any (w : World) {B p q : Nat} {A : Option Addr} {n c : Nat} {l : List Int} {a : Int} {m : Mach} {st : Int} {v : Value} {xs : List Ins} (h : Cod w B p q A n c l a m st v xs) (hl : xs.length ≤ 1000000) (x : Ins) :
    Calls Tryz.prog 17 #[.pointer (some ⟨q, 0, none⟩), .agg x.cells] w fun e w' => e = .returned (.tuple #[]) ∧ ∃ v', Cod w' B p q A n c l a m st v' (xs ++ [x]) ∧ Keeps (B ≤ ·) w w' := by
  obtain ⟨i0, hi0, hz0, hz1, hz2⟩ := info_parts ins_info
  obtain ⟨V, cv, rfl, -, -⟩ := h.own.shape
  have hql := h.blk.lt
  have hvl : ∀ g, (Value.slice V xs.length cv).ownBlock = some g → g < w.heap.size ∧ g ≠ q := fun g e => ⟨h.own.lt e, (h.own.2 g e).2⟩
  have hown := ((h.own.alloc (.cells x.cells 44)).alloc (.cells x.cells 44)).drew
  have hrd := (reads_ins (w.alloc (.cells x.cells 44)) x).drew
  rw [World.size_alloc] at hrd
  have hk : Blk (w.alloc (.cells x.cells 44)).drew q 51 (coderCells p m (.slice V xs.length cv) st) := (h.blk.alloc _).drew
  have hb : Blk (w.alloc (.cells x.cells 44)).drew w.heap.size 44 x.cells := Blk.new w _ _
  have HC := Lib.hid (h.alloc (.cells x.cells 44)).drew
  have HPW := Lib.hid (fun (W' : World) (h' : Keeps (B ≤ ·) (w.alloc (.cells x.cells 44)).drew W') => (((Keeps.refl (B ≤ ·) w).alloc (.cells x.cells 44)).drew).tr h')
  have c6 : (w.alloc (.cells x.cells 44)).cell? ⟨q, 6, none⟩ = some (.slice V xs.length cv) := hk.cell 6
  have b0 : (w.alloc (.cells x.cells 44)).cell? ⟨w.heap.size, 0, none⟩ = some (.int .i64 x.op) := hb.cell 0
  have b1 : (w.alloc (.cells x.cells 44)).cell? ⟨w.heap.size, 1, none⟩ = some (.int .i64 x.k) := hb.cell 1
  have b2 : (w.alloc (.cells x.cells 44)).cell? ⟨w.heap.size, 2, none⟩ = some (.int .i64 x.d) := hb.cell 2
  have b3 : (w.alloc (.cells x.cells 44)).cell? ⟨w.heap.size, 3, none⟩ = some (.int .i64 x.a) := hb.cell 3
  have b4 : (w.alloc (.cells x.cells 44)).cell? ⟨w.heap.size, 4, none⟩ = some (.int .i64 x.b) := hb.cell 4
  have b5 : (w.alloc (.cells x.cells 44)).cell? ⟨w.heap.size, 5, none⟩ = some (.int .i64 x.c) := hb.cell 5
  have b6 : (w.alloc (.cells x.cells 44)).cell? ⟨w.heap.size, 6, none⟩ = some (.int .i64 x.p) := hb.cell 6
  have b7 : (w.alloc (.cells x.cells 44)).cell? ⟨w.heap.size, 7, none⟩ = some (.int .i64 x.n) := hb.cell 7
  have b8 : (w.alloc (.cells x.cells 44)).cell? ⟨w.heap.size, 8, none⟩ = some (.int .i64 x.m) := hb.cell 8
  have HK := Lib.hid hk
  have HB := Lib.hid hb
  have HVL := Lib.hid hvl
  generalize hNN : xs.length = N at *
  have HN := Lib.hid hNN
  clear h hk hb hvl hNN
  go_enter Tryz.func17, Tryz.ntmps17
  go_wp2_with fail
  have c6a : ((w.alloc (.cells x.cells 44)).alloc (.cells x.cells 44)).cell? ⟨q, 6, none⟩ = some (.slice V N cv) := (HK.out.alloc _).cell 6
  go_region_law ((
    refine step_append_any _ (by rfl) _ _ 29 (by rfl) 44 i0 _ 9 72 Tryz.underlying29 hi0 hz0 hz1 hz2 rfl (by omega) (.slice V N cv) N (insL xs) (by rfl) hown _ 1 1 _ (by rfl) hrd (ins_one x) (by unfold maxLen; omega) (by omega) ?_
    intro v' w8 happ
    have k8 := (HK.out.alloc _).grown happ.2.1 (fun e => (HVL.out _ e.symm).2 rfl)
    have f8 := k8.frozen 6
    have c8' : w8.cell? ⟨q, 6, none⟩ = some (.slice V N cv) := k8.cell 6
    obtain ⟨A8, c8, rfl, -, -⟩ := happ.1.shape))
  all_goals (
    have HAP := Lib.hid happ
    clear happ k8 f8 c8'
    go_wp2_with fail
    go_end0
    have hap := HAP.out
    have hc := HC.out
    rw [← HN.out] at hap hc
    obtain ⟨p1, p2⟩ := hc.push (.cells x.cells 44) (show Appended ((w.alloc (.cells x.cells 44)).drew.alloc (.cells x.cells 44)) w8 _ _ _ _ _ _ _ from hap)
    rw [HN.out] at p1 p2
    exact ⟨rfl, _, p1, HPW.out _ p2⟩)
set_option maxRecDepth 100000 in
set_option maxHeartbeats 1000000 in
theorem reg_any (w : World) {B p q : Nat} {A : Option Addr} {n c : Nat} {l : List Int} {a : Int} {m : Mach} {st : Int} {v : Value} {xs : List Ins} (h : Cod w B p q A n c l a m st v xs) (ha : a ≤ 1000000000) :
    Calls Tryz.prog 36 #[.pointer (some ⟨q, 0, none⟩)] w fun e w' => ∃ (y a' : Int), e = .returned (.int .i64 y) ∧ (0 ≤ y ∧ y ≤ 15) ∧ a ≤ a' ∧ a' ≤ a + 1 ∧ Cod w' B p q A n c l a' m st v xs ∧ Keeps (· = p) w w' := by
  have c0 : w.cell? ⟨q, 0, none⟩ = some (.pointer (some ⟨p, 0, none⟩)) := h.blk.cell 0
  have H := Lib.hid h
  clear h
  go_enter Tryz.func36, Tryz.ntmps36
  go_wp2_with fail
  refine (pick_lit w p A n c l a H.out.str (by omega) [0, 1, 1, 2, 2, 3, 4, 5, 15] 9 rfl (by omega) (by omega) _ rfl _ rfl).mono ?_
  rintro e w7 ⟨z, a8, rfl, mz, z1, z2, hs8, k8⟩
  simp only [List.mem_cons, List.not_mem_nil, or_false] at mz
  have H8 := Lib.hid (H.out.moved hs8 k8)
  have K8 := Lib.hid k8
  have MZ := Lib.hid (show 0 ≤ z ∧ z ≤ 15 by omega)
  clear hs8 k8 mz c0
  go_wp2_with fail
  go_ret
  exact ⟨z, a8, rfl, MZ.out, z1, z2, H8.out, K8.out⟩
end Go.Proofs.YtpcejpcbkjnlkaaGreatDoor

namespace Go.Proofs.YtpcejpcbkjnlkaaGreatDoor
open Go.RowKit

def operandsF (k : Int) : Int := if k = 15 then 3 else if 11 ≤ k then 1 else 2
set_option maxHeartbeats 400000 in
theorem operands_any (k : Int) (w : World) : Calls Tryz.prog 73 #[.int .i64 k] w fun e w' => e = .returned (.int .i64 (operandsF k)) ∧ w = w' := by
  have HO : Hid (operandsF k = if k = 15 then 3 else if 11 ≤ k then 1 else 2) := Lib.hid rfl
  generalize operandsF k = r at *
  by_cases h1 : k = 15
  · have hz : (k == 15) = true := by simpa using h1
    have HH := Lib.hid h1
    clear h1
    go_enter Tryz.func73, Tryz.ntmps73
    go_wp2
    go_ret
    exact ⟨by rw [HO.out, if_pos HH.out]; rfl, rfl⟩
  have hz : (k == 15) = false := by simpa using h1
  by_cases h2 : 11 ≤ k
  · have HH := Lib.hid h1
    clear h1
    go_enter Tryz.func73, Tryz.ntmps73
    go_wp2
    go_ret
    exact ⟨by rw [HO.out, if_neg HH.out, if_pos (by omega)]; rfl, rfl⟩
  · have HH := Lib.hid h1
    clear h1
    go_enter Tryz.func73, Tryz.ntmps73
    go_wp2
    go_ret
    exact ⟨by rw [HO.out, if_neg HH.out, if_neg (by omega)]; rfl, rfl⟩
/-- what op gives -/
structure OpGen (kind regs : Int) (x : Ins) : Prop where
  op : x.op = kind
  k : 4 ≤ x.k ∧ x.k ≤ 15
  d : 1 ≤ x.d ∧ x.d < regs
  a : 0 ≤ x.a ∧ x.a < regs
  b : (1 < operandsF x.k ∧ 0 ≤ x.b ∧ x.b < regs) ∨ (operandsF x.k ≤ 1 ∧ x.b = 0)
  c : (2 < operandsF x.k ∧ 0 ≤ x.c ∧ x.c < regs) ∨ (operandsF x.k ≤ 2 ∧ x.c = 0)
  p : x.p = 0
  nm : (x.k = 12 ∧ -9 ≤ x.n ∧ x.n ≤ x.m ∧ x.m ≤ 9) ∨ (x.k = 13 ∧ 1 ≤ x.n ∧ x.n ≤ 31 ∧ x.m = 0) ∨ (x.k = 14 ∧ 1 ≤ x.n ∧ x.n ≤ 2147483647 ∧ x.m = 0) ∨ (x.k ≠ 12 ∧ x.k ≠ 13 ∧ x.k ≠ 14 ∧ x.n = 0 ∧ x.m = 0)
def zeroIns : Ins := ⟨0, 0, 0, 0, 0, 0, 0, 0, 0⟩
/-- inside op -/
structure OpS (w W : World) (B p q : Nat) (A : Option Addr) (n c : Nat) (l : List Int) (a : Int) (m : Mach) (st : Int) (v : Value) (xs : List Ins) (q6 q7 : Nat) (x : Ins) : Prop where
  cod : Cod W B p q A n c l a m st v xs
  k6 : Blk W q6 44 zeroIns.cells
  k7 : Blk W q7 44 x.cells
  kp : Keeps (· = p) w W
  l6 : w.heap.size ≤ q6
  l67 : q6 < q7
  lB : B ≤ w.heap.size
section
variable {w W W' : World} {B p q : Nat} {A : Option Addr} {n c : Nat} {l : List Int} {a a2 : Int} {m : Mach} {st : Int} {v : Value} {xs : List Ins} {q6 q7 : Nat} {x : Ins}
theorem OpS.moved (h : OpS w W B p q A n c l a m st v xs q6 q7 x) (hs : Str W' p A n c l a2) (hk : Keeps (· = p) W W') : OpS w W' B p q A n c l a2 m st v xs q6 q7 x := by
  have := h.cod.pB
  have := h.lB
  have := h.l6
  have := h.l67
  exact ⟨h.cod.moved hs hk, hk.blk h.k6 (by omega), hk.blk h.k7 (by omega), h.kp.tr hk, h.l6, h.l67, h.lB⟩
theorem OpS.drewN (h : OpS w W B p q A n c l a m st v xs q6 q7 x) (k : Nat) : OpS w (W.drewN k) B p q A n c l a m st v xs q6 q7 x := ⟨h.cod.drewN k, h.k6, h.k7, h.kp.drewN k, h.l6, h.l67, h.lB⟩
theorem OpS.drew (h : OpS w W B p q A n c l a m st v xs q6 q7 x) : OpS w W.drew B p q A n c l a m st v xs q6 q7 x := h.drewN 1
theorem OpS.alloc (h : OpS w W B p q A n c l a m st v xs q6 q7 x) (o : Obj) : OpS w (W.alloc o) B p q A n c l a m st v xs q6 q7 x := ⟨h.cod.alloc o, h.k6.alloc o, h.k7.alloc o, h.kp.alloc o, h.l6, h.l67, h.lB⟩
theorem OpS.set (h : OpS w W B p q A n c l a m st v xs q6 q7 x) (i : Nat) (u : Value) (x' : Ins) (hx : x.cells.setIfInBounds i u = x'.cells) (hql : q < w.heap.size) (hvl : ∀ g, v.ownBlock = some g → g < w.heap.size) : OpS w (W.setCell ⟨q7, i, none⟩ u) B p q A n c l a m st v xs q6 q7 x' := by
  have := h.cod.pB
  have := h.lB
  have := h.l6
  have := h.l67
  have hk : Keeps (· = q7) W (W.setCell ⟨q7, i, none⟩ u) := Keeps.setCell (p := ⟨q7, i, none⟩) (Keeps.refl (· = q7) W) (fun _ => rfl) _
  have k7 := h.k7.set_ i u
  rw [hx] at k7
  have ho : Own (W.setCell ⟨q7, i, none⟩ u) (fun g => B ≤ g ∧ g ≠ q) 44 9 v xs.length (insL xs) :=
    ((show Own W (fun g => (B ≤ g ∧ g ≠ q) ∧ g < w.heap.size) 44 9 v xs.length (insL xs) from ⟨h.cod.own.1, fun g hg => ⟨h.cod.own.2 g hg, hvl g hg⟩⟩).keeps hk (fun i hi e => by omega)).more fun g _ hg => hg.1
  exact ⟨⟨h.cod.str.far hk (by omega) (fun ad hn e => by have := h.cod.low ad hn e; omega), h.cod.low, hk.blk h.cod.blk (by omega), ho, h.cod.pB, h.cod.Bq⟩, hk.blk h.k6 (by omega), k7, h.kp.trans hk (fun i hi e => by omega), h.l6, h.l67, h.lB⟩
end
end Go.Proofs.YtpcejpcbkjnlkaaGreatDoor

namespace Go.Proofs.YtpcejpcbkjnlkaaGreatDoor

/-- which fields an instruction uses, and what they are -/
structure Frm where
  word : List UInt8
  k : Bool
  d : Int
  a : Int
  b : Int
  c : Int
  n : Int
  m : Int
  p : Bool
def argsF (k : Int) : Int := if k = 15 then 3 else if 4 ≤ k ∧ k ≤ 10 then 2 else if 11 ≤ k ∧ k ≤ 14 then 1 else 0
def operF (word : List UInt8) (k reg : Int) (p : Bool) : Frm :=
  ⟨word, true, reg, reg, if 2 ≤ argsF k then reg else 0, if argsF k = 3 then reg else 0, if k = 12 ∨ k = 13 ∨ k = 14 then 5 else 0, if k = 12 then 5 else 0, p⟩
def formF (op k : Int) : Option Frm :=
  if op = 1 then some ⟨[110, 117, 109], false, 1, 0, 0, 0, 5, 0, true⟩ else
  if op = 2 then some (operF [111, 112] k 1 true) else
  if op = 3 then some ⟨[108, 111, 111, 112], false, 1, 0, 0, 5, 5, 5, false⟩ else
  if op = 4 then some ⟨[101, 110, 100], false, 0, 0, 0, 0, 0, 0, false⟩ else
  if op = 5 then some ⟨[108, 100, 109], false, 1, 1, 0, 0, 5, 0, true⟩ else
  if op = 6 then some ⟨[115, 116, 109], false, 0, 1, 1, 0, 5, 0, true⟩ else
  if op = 7 then some ⟨[108, 100, 115], false, 1, 1, 0, 3, 5, 0, true⟩ else
  if op = 8 then some ⟨[115, 116, 115], false, 0, 1, 1, 3, 5, 0, true⟩ else
  if op = 9 then some ⟨[118, 108, 100], false, 2, 1, 0, 3, 5, 0, false⟩ else
  if op = 10 then some ⟨[118, 115, 116], false, 0, 1, 2, 3, 5, 0, false⟩ else
  if op = 11 then some (operF [118, 111, 112] k 2 false) else
  if op = 12 then some ⟨[118, 100, 117, 112], false, 2, 1, 0, 0, 0, 0, false⟩ else
  if op = 13 then some ⟨[118, 103, 101, 116], false, 1, 2, 0, 0, 5, 0, false⟩ else
  if op = 14 then some ⟨[119, 116, 115], false, 0, 1, 0, 3, 5, 5, false⟩ else
  if op = 15 then some ⟨[109, 97, 99], false, 0, 2, 0, 0, 0, 0, false⟩ else
  if op = 16 then some ⟨[99, 108, 114], false, 0, 0, 0, 0, 0, 0, false⟩ else
  if op = 17 then some ⟨[97, 99, 99], false, 2, 0, 0, 0, 0, 0, false⟩ else
  if op = 18 then some ⟨[116, 114], true, 4, 1, 1, 3, 5, 5, false⟩ else
  if op = 19 then some ⟨[119, 97, 105, 116], false, 4, 0, 0, 0, 0, 0, false⟩ else none
theorem form_op {op k : Int} {f : Frm} (h : formF op k = some f) : 1 ≤ op ∧ op ≤ 19 := by
  by_cases h0 : 1 ≤ op ∧ op ≤ 19
  · exact h0
  · exfalso
    have e : formF op k = none := by
      unfold formF
      rw [if_neg (by omega), if_neg (by omega), if_neg (by omega), if_neg (by omega), if_neg (by omega), if_neg (by omega), if_neg (by omega), if_neg (by omega), if_neg (by omega), if_neg (by omega), if_neg (by omega), if_neg (by omega), if_neg (by omega), if_neg (by omega), if_neg (by omega), if_neg (by omega), if_neg (by omega), if_neg (by omega), if_neg (by omega)]
    rw [e] at h
    cases h
theorem form_case {P : Int → Frm → Prop} {op k : Int} {f : Frm} (h : formF op k = some f)
    (h1 : P 1 ⟨[110, 117, 109], false, 1, 0, 0, 0, 5, 0, true⟩)
    (h2 : P 2 (operF [111, 112] k 1 true))
    (h3 : P 3 ⟨[108, 111, 111, 112], false, 1, 0, 0, 5, 5, 5, false⟩)
    (h4 : P 4 ⟨[101, 110, 100], false, 0, 0, 0, 0, 0, 0, false⟩)
    (h5 : P 5 ⟨[108, 100, 109], false, 1, 1, 0, 0, 5, 0, true⟩)
    (h6 : P 6 ⟨[115, 116, 109], false, 0, 1, 1, 0, 5, 0, true⟩)
    (h7 : P 7 ⟨[108, 100, 115], false, 1, 1, 0, 3, 5, 0, true⟩)
    (h8 : P 8 ⟨[115, 116, 115], false, 0, 1, 1, 3, 5, 0, true⟩)
    (h9 : P 9 ⟨[118, 108, 100], false, 2, 1, 0, 3, 5, 0, false⟩)
    (h10 : P 10 ⟨[118, 115, 116], false, 0, 1, 2, 3, 5, 0, false⟩)
    (h11 : P 11 (operF [118, 111, 112] k 2 false))
    (h12 : P 12 ⟨[118, 100, 117, 112], false, 2, 1, 0, 0, 0, 0, false⟩)
    (h13 : P 13 ⟨[118, 103, 101, 116], false, 1, 2, 0, 0, 5, 0, false⟩)
    (h14 : P 14 ⟨[119, 116, 115], false, 0, 1, 0, 3, 5, 5, false⟩)
    (h15 : P 15 ⟨[109, 97, 99], false, 0, 2, 0, 0, 0, 0, false⟩)
    (h16 : P 16 ⟨[99, 108, 114], false, 0, 0, 0, 0, 0, 0, false⟩)
    (h17 : P 17 ⟨[97, 99, 99], false, 2, 0, 0, 0, 0, 0, false⟩)
    (h18 : P 18 ⟨[116, 114], true, 4, 1, 1, 3, 5, 5, false⟩)
    (h19 : P 19 ⟨[119, 97, 105, 116], false, 4, 0, 0, 0, 0, 0, false⟩) : P op f := by
  have ho := form_op h
  rcases (show op = 1 ∨ op = 2 ∨ op = 3 ∨ op = 4 ∨ op = 5 ∨ op = 6 ∨ op = 7 ∨ op = 8 ∨ op = 9 ∨ op = 10 ∨ op = 11 ∨ op = 12 ∨ op = 13 ∨ op = 14 ∨ op = 15 ∨ op = 16 ∨ op = 17 ∨ op = 18 ∨ op = 19 by omega) with rfl | rfl | rfl | rfl | rfl | rfl | rfl | rfl | rfl | rfl | rfl | rfl | rfl | rfl | rfl | rfl | rfl | rfl | rfl
  · injection h with h; rw [← h]; exact h1
  · injection h with h; rw [← h]; exact h2
  · injection h with h; rw [← h]; exact h3
  · injection h with h; rw [← h]; exact h4
  · injection h with h; rw [← h]; exact h5
  · injection h with h; rw [← h]; exact h6
  · injection h with h; rw [← h]; exact h7
  · injection h with h; rw [← h]; exact h8
  · injection h with h; rw [← h]; exact h9
  · injection h with h; rw [← h]; exact h10
  · injection h with h; rw [← h]; exact h11
  · injection h with h; rw [← h]; exact h12
  · injection h with h; rw [← h]; exact h13
  · injection h with h; rw [← h]; exact h14
  · injection h with h; rw [← h]; exact h15
  · injection h with h; rw [← h]; exact h16
  · injection h with h; rw [← h]; exact h17
  · injection h with h; rw [← h]; exact h18
  · injection h with h; rw [← h]; exact h19
def fieldOk (banks queues kind v : Int) : Prop :=
  (kind = 0 → v = 0) ∧ (kind = 1 → 0 ≤ v ∧ v ≤ 15) ∧ (kind = 2 → 0 ≤ v ∧ v ≤ 7) ∧ (kind = 3 → 0 ≤ v ∧ v ≤ banks - 1) ∧ (kind = 4 → 0 ≤ v ∧ v ≤ queues - 1) ∧ (kind = 5 → -2147483648 ≤ v ∧ v ≤ 2147483647)
def extraOk (bank lanes : Int) (x : Ins) : Prop :=
  ((x.op = 2 ∨ x.op = 11) → 0 < argsF x.k ∧ (x.k = 12 → x.n ≤ x.m) ∧ (x.k = 13 → 1 ≤ x.n ∧ x.n ≤ 31) ∧ (x.k = 14 → 1 ≤ x.n)) ∧ (x.op = 3 → (-1000 ≤ x.c ∧ x.c ≤ 1000) ∧ 0 ≤ x.m ∧ x.m ≤ 1000000) ∧
  (x.op = 13 → 0 ≤ x.n ∧ x.n ≤ lanes - 1) ∧ (x.op = 14 → 0 ≤ x.m ∧ x.m ≤ bank) ∧ (x.op = 18 → (1 ≤ x.k ∧ x.k ≤ 2) ∧ 1 ≤ x.m ∧ x.m ≤ bank)
structure FormOk (banks bank lanes queues : Int) (f : Frm) (x : Ins) : Prop where
  k : f.k = false → x.k = 0
  p : f.p = false → x.p = 0
  fd : fieldOk banks queues f.d x.d
  fa : fieldOk banks queues f.a x.a
  fb : fieldOk banks queues f.b x.b
  fc : fieldOk banks queues f.c x.c
  fn : fieldOk banks queues f.n x.n
  fm : fieldOk banks queues f.m x.m
  pr : 0 ≤ x.p ∧ x.p ≤ 16
  ex : extraOk bank lanes x
def InsOk (banks bank lanes queues : Int) (x : Ins) : Prop := ∃ f, formF x.op x.k = some f ∧ FormOk banks bank lanes queues f x
theorem fieldOk.more {b q b' q' k v : Int} (h : fieldOk b q k v) (hb : b ≤ b') (hq : q ≤ q') : fieldOk b' q' k v :=
  ⟨h.1, h.2.1, h.2.2.1, fun e => ⟨(h.2.2.2.1 e).1, by have := (h.2.2.2.1 e).2; omega⟩, fun e => ⟨(h.2.2.2.2.1 e).1, by have := (h.2.2.2.2.1 e).2; omega⟩, h.2.2.2.2.2⟩
theorem extraOk.more {b l b' l' : Int} {x : Ins} (h : extraOk b l x) (hb : b ≤ b') (hl : l ≤ l') : extraOk b' l' x :=
  ⟨h.1, h.2.1, fun e => ⟨(h.2.2.1 e).1, by have := (h.2.2.1 e).2; omega⟩, fun e => ⟨(h.2.2.2.1 e).1, by have := (h.2.2.2.1 e).2; omega⟩, fun e => ⟨(h.2.2.2.2 e).1, (h.2.2.2.2 e).2.1, by have := (h.2.2.2.2 e).2.2; omega⟩⟩
theorem InsOk.more {b k l q b' k' l' q' : Int} {x : Ins} (h : InsOk b k l q x) (hb : b ≤ b') (hk : k ≤ k') (hl : l ≤ l') (hq : q ≤ q') : InsOk b' k' l' q' x := by
  obtain ⟨f, e, h⟩ := h
  exact ⟨f, e, h.k, h.p, h.fd.more hb hq, h.fa.more hb hq, h.fb.more hb hq, h.fc.more hb hq, h.fn.more hb hq, h.fm.more hb hq, h.pr, h.ex.more hk hl⟩
/-- an instruction of the generator's that is no loop and no end, for a machine of two banks of 255 words at least -/
def PlainIns (m : Mach) (x : Ins) : Prop := InsOk 2 255 m.lanes m.queues x ∧ x.p = 0 ∧ x.op ≠ 3 ∧ x.op ≠ 4
section
variable {m : Mach} {y z u t : Int}
theorem plain_num (h1 : 1 ≤ y ∧ y ≤ 5) (h2 : -2147483648 ≤ z ∧ z ≤ 2147483647) : PlainIns m ⟨1, 0, y, 0, 0, 0, 0, z, 0⟩ := by (refine ⟨⟨_, rfl, fun _ => by first | rfl | contradiction, fun _ => by first | rfl | contradiction, ?_, ?_, ?_, ?_, ?_, ?_, by simp, ?_⟩, rfl, by simp, by simp⟩ <;> (first | (show fieldOk _ _ _ _; dsimp only; refine ⟨fun _ => ?_, fun _ => ?_, fun _ => ?_, fun _ => ?_, fun _ => ?_, fun _ => ?_⟩ <;> omega) | (show extraOk _ _ _; unfold extraOk; dsimp only; refine ⟨fun _ => ?_, fun _ => ?_, fun _ => ?_, fun _ => ?_, fun _ => ?_⟩ <;> omega)))
theorem plain_ldm (h1 : 0 ≤ y ∧ y ≤ 15) (h2 : 0 ≤ z ∧ z < 24) : PlainIns m ⟨5, 0, y, 0, 0, 0, 0, z, 0⟩ := by (refine ⟨⟨_, rfl, fun _ => by first | rfl | contradiction, fun _ => by first | rfl | contradiction, ?_, ?_, ?_, ?_, ?_, ?_, by simp, ?_⟩, rfl, by simp, by simp⟩ <;> (first | (show fieldOk _ _ _ _; dsimp only; refine ⟨fun _ => ?_, fun _ => ?_, fun _ => ?_, fun _ => ?_, fun _ => ?_, fun _ => ?_⟩ <;> omega) | (show extraOk _ _ _; unfold extraOk; dsimp only; refine ⟨fun _ => ?_, fun _ => ?_, fun _ => ?_, fun _ => ?_, fun _ => ?_⟩ <;> omega)))
theorem plain_stm (h1 : 0 ≤ y ∧ y ≤ 15) (h2 : 0 ≤ z ∧ z < 24) : PlainIns m ⟨6, 0, 0, 0, y, 0, 0, z, 0⟩ := by (refine ⟨⟨_, rfl, fun _ => by first | rfl | contradiction, fun _ => by first | rfl | contradiction, ?_, ?_, ?_, ?_, ?_, ?_, by simp, ?_⟩, rfl, by simp, by simp⟩ <;> (first | (show fieldOk _ _ _ _; dsimp only; refine ⟨fun _ => ?_, fun _ => ?_, fun _ => ?_, fun _ => ?_, fun _ => ?_, fun _ => ?_⟩ <;> omega) | (show extraOk _ _ _; unfold extraOk; dsimp only; refine ⟨fun _ => ?_, fun _ => ?_, fun _ => ?_, fun _ => ?_, fun _ => ?_⟩ <;> omega)))
theorem plain_lds (h1 : 0 ≤ y ∧ y ≤ 15) (h3 : 0 ≤ u ∧ u ≤ 1) (h2 : -1 ≤ z ∧ z ≤ 256) : PlainIns m ⟨7, 0, y, 0, 0, u, 0, z, 0⟩ := by (refine ⟨⟨_, rfl, fun _ => by first | rfl | contradiction, fun _ => by first | rfl | contradiction, ?_, ?_, ?_, ?_, ?_, ?_, by simp, ?_⟩, rfl, by simp, by simp⟩ <;> (first | (show fieldOk _ _ _ _; dsimp only; refine ⟨fun _ => ?_, fun _ => ?_, fun _ => ?_, fun _ => ?_, fun _ => ?_, fun _ => ?_⟩ <;> omega) | (show extraOk _ _ _; unfold extraOk; dsimp only; refine ⟨fun _ => ?_, fun _ => ?_, fun _ => ?_, fun _ => ?_, fun _ => ?_⟩ <;> omega)))
theorem plain_sts (h1 : 0 ≤ y ∧ y ≤ 15) (h3 : 0 ≤ u ∧ u ≤ 1) (h2 : -1 ≤ z ∧ z ≤ 256) : PlainIns m ⟨8, 0, 0, 0, y, u, 0, z, 0⟩ := by (refine ⟨⟨_, rfl, fun _ => by first | rfl | contradiction, fun _ => by first | rfl | contradiction, ?_, ?_, ?_, ?_, ?_, ?_, by simp, ?_⟩, rfl, by simp, by simp⟩ <;> (first | (show fieldOk _ _ _ _; dsimp only; refine ⟨fun _ => ?_, fun _ => ?_, fun _ => ?_, fun _ => ?_, fun _ => ?_, fun _ => ?_⟩ <;> omega) | (show extraOk _ _ _; unfold extraOk; dsimp only; refine ⟨fun _ => ?_, fun _ => ?_, fun _ => ?_, fun _ => ?_, fun _ => ?_⟩ <;> omega)))
theorem plain_vld (h1 : 0 ≤ y ∧ y < 8) (h3 : 0 ≤ u ∧ u ≤ 1) (h2 : -1 ≤ z ∧ z ≤ 256) : PlainIns m ⟨9, 0, y, 0, 0, u, 0, z, 0⟩ := by (refine ⟨⟨_, rfl, fun _ => by first | rfl | contradiction, fun _ => by first | rfl | contradiction, ?_, ?_, ?_, ?_, ?_, ?_, by simp, ?_⟩, rfl, by simp, by simp⟩ <;> (first | (show fieldOk _ _ _ _; dsimp only; refine ⟨fun _ => ?_, fun _ => ?_, fun _ => ?_, fun _ => ?_, fun _ => ?_, fun _ => ?_⟩ <;> omega) | (show extraOk _ _ _; unfold extraOk; dsimp only; refine ⟨fun _ => ?_, fun _ => ?_, fun _ => ?_, fun _ => ?_, fun _ => ?_⟩ <;> omega)))
theorem plain_vst (h1 : 0 ≤ y ∧ y < 8) (h3 : 0 ≤ u ∧ u ≤ 1) (h2 : -1 ≤ z ∧ z ≤ 256) : PlainIns m ⟨10, 0, 0, 0, y, u, 0, z, 0⟩ := by (refine ⟨⟨_, rfl, fun _ => by first | rfl | contradiction, fun _ => by first | rfl | contradiction, ?_, ?_, ?_, ?_, ?_, ?_, by simp, ?_⟩, rfl, by simp, by simp⟩ <;> (first | (show fieldOk _ _ _ _; dsimp only; refine ⟨fun _ => ?_, fun _ => ?_, fun _ => ?_, fun _ => ?_, fun _ => ?_, fun _ => ?_⟩ <;> omega) | (show extraOk _ _ _; unfold extraOk; dsimp only; refine ⟨fun _ => ?_, fun _ => ?_, fun _ => ?_, fun _ => ?_, fun _ => ?_⟩ <;> omega)))
theorem plain_wts (h1 : 0 ≤ y ∧ y < 4) (h3 : 0 ≤ u ∧ u ≤ 1) (h2 : -1 ≤ z ∧ z ≤ 256) : PlainIns m ⟨14, 0, 0, 0, 0, u, 0, z, y⟩ := by (refine ⟨⟨_, rfl, fun _ => by first | rfl | contradiction, fun _ => by first | rfl | contradiction, ?_, ?_, ?_, ?_, ?_, ?_, by simp, ?_⟩, rfl, by simp, by simp⟩ <;> (first | (show fieldOk _ _ _ _; dsimp only; refine ⟨fun _ => ?_, fun _ => ?_, fun _ => ?_, fun _ => ?_, fun _ => ?_, fun _ => ?_⟩ <;> omega) | (show extraOk _ _ _; unfold extraOk; dsimp only; refine ⟨fun _ => ?_, fun _ => ?_, fun _ => ?_, fun _ => ?_, fun _ => ?_⟩ <;> omega)))
theorem plain_tr (h0 : 0 ≤ y ∧ y < m.queues) (h1 : 1 ≤ t ∧ t ≤ 2) (h3 : 0 ≤ u ∧ u ≤ 1) (h2 : 0 ≤ z ∧ z < 24) {s : Int} (h4 : 1 ≤ s ∧ s ≤ 16) : PlainIns m ⟨18, t, y, 0, 0, u, 0, z, s⟩ := by
  refine ⟨⟨_, rfl, fun h => (by contradiction), fun _ => rfl, ?_, ?_, ?_, ?_, ?_, ?_, by simp, ?_⟩, rfl, by simp, by simp⟩ <;> (first | (show fieldOk _ _ _ _; dsimp only; refine ⟨fun _ => ?_, fun _ => ?_, fun _ => ?_, fun _ => ?_, fun _ => ?_, fun _ => ?_⟩ <;> omega) | (show extraOk _ _ _; unfold extraOk; dsimp only; refine ⟨fun _ => ?_, fun _ => ?_, fun _ => ?_, fun _ => ?_, fun _ => ?_⟩ <;> omega))
theorem plain_wait (h0 : 0 ≤ y ∧ y < m.queues) : PlainIns m ⟨19, 0, y, 0, 0, 0, 0, 0, 0⟩ := by (refine ⟨⟨_, rfl, fun _ => by first | rfl | contradiction, fun _ => by first | rfl | contradiction, ?_, ?_, ?_, ?_, ?_, ?_, by simp, ?_⟩, rfl, by simp, by simp⟩ <;> (first | (show fieldOk _ _ _ _; dsimp only; refine ⟨fun _ => ?_, fun _ => ?_, fun _ => ?_, fun _ => ?_, fun _ => ?_, fun _ => ?_⟩ <;> omega) | (show extraOk _ _ _; unfold extraOk; dsimp only; refine ⟨fun _ => ?_, fun _ => ?_, fun _ => ?_, fun _ => ?_, fun _ => ?_⟩ <;> omega)))
theorem plain_dup (h0 : 0 ≤ y ∧ y < 8) (h1 : 0 ≤ z ∧ z ≤ 15) : PlainIns m ⟨12, 0, y, z, 0, 0, 0, 0, 0⟩ := by (refine ⟨⟨_, rfl, fun _ => by first | rfl | contradiction, fun _ => by first | rfl | contradiction, ?_, ?_, ?_, ?_, ?_, ?_, by simp, ?_⟩, rfl, by simp, by simp⟩ <;> (first | (show fieldOk _ _ _ _; dsimp only; refine ⟨fun _ => ?_, fun _ => ?_, fun _ => ?_, fun _ => ?_, fun _ => ?_, fun _ => ?_⟩ <;> omega) | (show extraOk _ _ _; unfold extraOk; dsimp only; refine ⟨fun _ => ?_, fun _ => ?_, fun _ => ?_, fun _ => ?_, fun _ => ?_⟩ <;> omega)))
theorem plain_get (h0 : 0 ≤ y ∧ y ≤ 15) (h1 : 0 ≤ z ∧ z < 8) (h2 : 0 ≤ u ∧ u < m.lanes) (hl : m.lanes ≤ 100) : PlainIns m ⟨13, 0, y, z, 0, 0, 0, u, 0⟩ := by (refine ⟨⟨_, rfl, fun _ => by first | rfl | contradiction, fun _ => by first | rfl | contradiction, ?_, ?_, ?_, ?_, ?_, ?_, by simp, ?_⟩, rfl, by simp, by simp⟩ <;> (first | (show fieldOk _ _ _ _; dsimp only; refine ⟨fun _ => ?_, fun _ => ?_, fun _ => ?_, fun _ => ?_, fun _ => ?_, fun _ => ?_⟩ <;> omega) | (show extraOk _ _ _; unfold extraOk; dsimp only; refine ⟨fun _ => ?_, fun _ => ?_, fun _ => ?_, fun _ => ?_, fun _ => ?_⟩ <;> omega)))
theorem plain_mac (h0 : 0 ≤ y ∧ y < 8) : PlainIns m ⟨15, 0, 0, y, 0, 0, 0, 0, 0⟩ := by (refine ⟨⟨_, rfl, fun _ => by first | rfl | contradiction, fun _ => by first | rfl | contradiction, ?_, ?_, ?_, ?_, ?_, ?_, by simp, ?_⟩, rfl, by simp, by simp⟩ <;> (first | (show fieldOk _ _ _ _; dsimp only; refine ⟨fun _ => ?_, fun _ => ?_, fun _ => ?_, fun _ => ?_, fun _ => ?_, fun _ => ?_⟩ <;> omega) | (show extraOk _ _ _; unfold extraOk; dsimp only; refine ⟨fun _ => ?_, fun _ => ?_, fun _ => ?_, fun _ => ?_, fun _ => ?_⟩ <;> omega)))
theorem plain_clr : PlainIns m ⟨16, 0, 0, 0, 0, 0, 0, 0, 0⟩ := by (refine ⟨⟨_, rfl, fun _ => by first | rfl | contradiction, fun _ => by first | rfl | contradiction, ?_, ?_, ?_, ?_, ?_, ?_, by simp, ?_⟩, rfl, by simp, by simp⟩ <;> (first | (show fieldOk _ _ _ _; dsimp only; refine ⟨fun _ => ?_, fun _ => ?_, fun _ => ?_, fun _ => ?_, fun _ => ?_, fun _ => ?_⟩ <;> omega) | (show extraOk _ _ _; unfold extraOk; dsimp only; refine ⟨fun _ => ?_, fun _ => ?_, fun _ => ?_, fun _ => ?_, fun _ => ?_⟩ <;> omega)))
theorem plain_acc (h0 : 0 ≤ y ∧ y < 8) : PlainIns m ⟨17, 0, y, 0, 0, 0, 0, 0, 0⟩ := by (refine ⟨⟨_, rfl, fun _ => by first | rfl | contradiction, fun _ => by first | rfl | contradiction, ?_, ?_, ?_, ?_, ?_, ?_, by simp, ?_⟩, rfl, by simp, by simp⟩ <;> (first | (show fieldOk _ _ _ _; dsimp only; refine ⟨fun _ => ?_, fun _ => ?_, fun _ => ?_, fun _ => ?_, fun _ => ?_, fun _ => ?_⟩ <;> omega) | (show extraOk _ _ _; unfold extraOk; dsimp only; refine ⟨fun _ => ?_, fun _ => ?_, fun _ => ?_, fun _ => ?_, fun _ => ?_⟩ <;> omega)))
end
theorem oper_field {reg v b q : Int} (hr : reg = 1 ∨ reg = 2) {c : Prop} [Decidable c] (h1 : c → 0 ≤ v ∧ v < if reg = 1 then 16 else 8) (h2 : ¬ c → v = 0) : fieldOk b q (if c then reg else 0) v := by
  by_cases hc : c
  · rw [if_pos hc]
    have := h1 hc
    rcases hr with rfl | rfl
    · rw [if_pos rfl] at this
      refine ⟨fun _ => ?_, fun _ => ?_, fun _ => ?_, fun _ => ?_, fun _ => ?_, fun _ => ?_⟩ <;> omega
    · rw [if_neg (by omega)] at this
      refine ⟨fun _ => ?_, fun _ => ?_, fun _ => ?_, fun _ => ?_, fun _ => ?_, fun _ => ?_⟩ <;> omega
  · rw [if_neg hc]
    have := h2 hc
    refine ⟨fun _ => ?_, fun _ => ?_, fun _ => ?_, fun _ => ?_, fun _ => ?_, fun _ => ?_⟩ <;> omega
theorem num_field {v b q : Int} {c : Prop} [Decidable c] (h1 : c → -2147483648 ≤ v ∧ v ≤ 2147483647) (h2 : ¬ c → v = 0) : fieldOk b q (if c then 5 else 0) v := by
  by_cases hc : c
  · rw [if_pos hc]
    have := h1 hc
    refine ⟨fun _ => ?_, fun _ => ?_, fun _ => ?_, fun _ => ?_, fun _ => ?_, fun _ => ?_⟩ <;> omega
  · rw [if_neg hc]
    have := h2 hc
    refine ⟨fun _ => ?_, fun _ => ?_, fun _ => ?_, fun _ => ?_, fun _ => ?_, fun _ => ?_⟩ <;> omega
theorem args_operands {k : Int} (h : 4 ≤ k ∧ k ≤ 15) : argsF k = operandsF k := by
  unfold argsF operandsF
  by_cases h1 : k = 15
  · rw [if_pos h1, if_pos h1]
  · rw [if_neg h1, if_neg h1]
    by_cases h2 : 11 ≤ k
    · rw [if_neg (by omega), if_pos ⟨h2, by omega⟩, if_pos h2]
    · rw [if_pos ⟨h.1, by omega⟩, if_neg h2]
theorem operands_pos (k : Int) : 1 ≤ operandsF k ∧ operandsF k ≤ 3 := by
  unfold operandsF
  by_cases h1 : k = 15
  · rw [if_pos h1]; omega
  · rw [if_neg h1]
    by_cases h2 : 11 ≤ k
    · rw [if_pos h2]; omega
    · rw [if_neg h2]; omega
theorem plain_op {kind regs : Int} {m : Mach} {x : Ins} (h : OpGen kind regs x) (hk : (kind = 2 ∧ regs ≤ 16) ∨ (kind = 11 ∧ regs ≤ 8)) : PlainIns m x := by
  obtain ⟨op, k, d, a, b, c, p, n, mm⟩ := x
  have h1 := h.op
  have h2 := h.k
  have h3 := h.d
  have h4 := h.a
  have h5 := h.b
  have h6 := h.c
  have h7 := h.p
  have h8 := h.nm
  dsimp only at h1 h2 h3 h4 h5 h6 h7 h8
  have ha := args_operands h2
  have ho := operands_pos k
  subst h1 h7
  have hx : extraOk 255 m.lanes ⟨op, k, d, a, b, c, 0, n, mm⟩ := by
    refine ⟨fun _ => ?_, fun e => ?_, fun e => ?_, fun e => ?_, fun e => ?_⟩
    · dsimp only
      rw [ha]
      refine ⟨by omega, fun e => ?_, fun e => ?_, fun e => ?_⟩ <;> omega
    all_goals (dsimp only at e; omega)
  rcases hk with ⟨rfl, hr⟩ | ⟨rfl, hr⟩
  · refine ⟨⟨operF [111, 112] k 1 true, rfl, fun e => ?_, fun e => ?_, ?_, ?_, ?_, ?_, ?_, ?_, ⟨by dsimp only; omega, by dsimp only; omega⟩, hx⟩, rfl, by dsimp only; omega, by dsimp only; omega⟩
    · exact absurd e (by simp [operF])
    · rfl
    · refine ⟨fun _ => ?_, fun _ => ?_, fun _ => ?_, fun _ => ?_, fun _ => ?_, fun _ => ?_⟩ <;> simp only [operF] at * <;> omega
    · refine ⟨fun _ => ?_, fun _ => ?_, fun _ => ?_, fun _ => ?_, fun _ => ?_, fun _ => ?_⟩ <;> simp only [operF] at * <;> omega
    · exact oper_field (Or.inl rfl) (fun e => by rw [ha] at e; rw [if_pos rfl]; dsimp only; omega) (fun e => by rw [ha] at e; dsimp only; omega)
    · exact oper_field (Or.inl rfl) (fun e => by rw [ha] at e; rw [if_pos rfl]; dsimp only; omega) (fun e => by rw [ha] at e; dsimp only; omega)
    · exact num_field (fun e => by dsimp only; omega) (fun e => by dsimp only; omega)
    · exact num_field (fun e => by dsimp only; omega) (fun e => by dsimp only; omega)
  · refine ⟨⟨operF [118, 111, 112] k 2 false, rfl, fun e => ?_, fun e => ?_, ?_, ?_, ?_, ?_, ?_, ?_, ⟨by dsimp only; omega, by dsimp only; omega⟩, hx⟩, rfl, by dsimp only; omega, by dsimp only; omega⟩
    · exact absurd e (by simp [operF])
    · rfl
    · refine ⟨fun _ => ?_, fun _ => ?_, fun _ => ?_, fun _ => ?_, fun _ => ?_, fun _ => ?_⟩ <;> simp only [operF] at * <;> omega
    · refine ⟨fun _ => ?_, fun _ => ?_, fun _ => ?_, fun _ => ?_, fun _ => ?_, fun _ => ?_⟩ <;> simp only [operF] at * <;> omega
    · exact oper_field (Or.inr rfl) (fun e => by rw [ha] at e; rw [if_neg (by omega)]; dsimp only; omega) (fun e => by rw [ha] at e; dsimp only; omega)
    · exact oper_field (Or.inr rfl) (fun e => by rw [ha] at e; rw [if_neg (by omega)]; dsimp only; omega) (fun e => by rw [ha] at e; dsimp only; omega)
    · exact num_field (fun e => by dsimp only; omega) (fun e => by dsimp only; omega)
    · exact num_field (fun e => by dsimp only; omega) (fun e => by dsimp only; omega)
/-- what memory gives -/
def MemGen (m : Mach) (ys : List Ins) : Prop := (∃ x, ys = [x] ∧ PlainIns m x) ∨ ∃ x y, ys = [x, y] ∧ PlainIns m x ∧ PlainIns m y
end Go.Proofs.YtpcejpcbkjnlkaaGreatDoor

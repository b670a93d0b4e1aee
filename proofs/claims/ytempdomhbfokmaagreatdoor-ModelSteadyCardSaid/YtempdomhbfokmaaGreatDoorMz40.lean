/- nat.wide: a range over slices.Backward. -/
import Derived.RangeFuncBox
import Derived.RangeFuncLeaves
import Derived.RangeFuncWrites
import Derived.Shelf.Abstract
import Derived.WalkKit
import Derived.OwnWalkIn
import Derived.TacticsInMore
import Derived.LoopNIn
import Derived.LoopIn
import Derived.Test.YtempdomhbfokmaaGreatDoorMz39
namespace Go.Proofs.YtempdomhbfokmaaGreatDoor
open Go.RowKit Go.Shelf

/-- all blocks below B but g stay -/
structure KBut (B g : Nat) (w w' : World) : Prop where
  os : w'.os = w.os
  tape : w'.tape = w.tape
  output : w'.output = w.output
  size : w.heap.size ≤ w'.heap.size
  block : ∀ k, k < B → k ≠ g → w'.heap[k]? = w.heap[k]?
theorem KBut.refl (B g : Nat) (w : World) : KBut B g w w := ⟨rfl, rfl, rfl, Nat.le_refl _, fun _ _ _ => rfl⟩
theorem KBut.trans {B g : Nat} {a b c : World} (h : KBut B g a b) (k : KBut B g b c) : KBut B g a c :=
  ⟨k.os.trans h.os, k.tape.trans h.tape, k.output.trans h.output, Nat.le_trans h.size k.size, fun i h1 h2 => (k.block i h1 h2).trans (h.block i h1 h2)⟩
theorem KBut.cell {B g : Nat} {a b : World} (h : KBut B g a b) {p : Addr} (h1 : p.block < B) (h2 : p.block ≠ g) : b.cell? p = a.cell? p := World.cell?_of_block (h.block p.block h1 h2)
theorem KBut.grown {B g : Nat} {w a b : World} (h : KBut B g w a) {row : Option Nat} (hg : a.grownBy b row) (hB : B ≤ a.heap.size) (hr : ∀ k, row = some k → B ≤ k ∨ k = g) : KBut B g w b :=
  ⟨hg.os.trans h.os, hg.tape.trans h.tape, hg.output.trans h.output, Nat.le_trans h.size hg.size,
   fun i h1 h2 => (hg.block i (by omega) (fun e => by rcases hr i e.symm with h | h <;> omega)).trans (h.block i h1 h2)⟩
theorem KBut.setCell {B g : Nat} {w a : World} (h : KBut B g w a) (o : Nat) (u : Value) : KBut B g w (a.setCell ⟨g, o, none⟩ u) :=
  ⟨h.os, h.tape, h.output, by simpa [World.setCell] using h.size, fun i h1 h2 => (Below.heap_setCell a ⟨g, o, none⟩ u i h2).trans (h.block i h1 h2)⟩
theorem kbut_t {B g : Nat} {a b c : World} (h : KBut B g a b) (k : KBut B g b c) : KBut B g a c := h.trans k
theorem kbut_b {B g : Nat} {w : World} (hn : B ≤ w.heap.size) (W : World) (l : Nat) (o o' : Obj) (hl : w.heap.size ≤ l) (h : W.heap[l]? = some o) (_ : o.isCells = false) (_ : o.isWalk = false) : KBut B g W (W.putObj l o') :=
  (KBut.refl B g W).grown (grownBy_putObj' W l o') (by have := (Array.getElem?_eq_some_iff.1 h).1; omega) (fun k e => by cases e; left; omega)

abbrev Elem := { p : Nat × Nat // p.2 < 1000000000 }
def encE (x : Elem) : Array Value := #[.int .i64 x.val.1, .int .u32 x.val.2]
def foldE (l : List Elem) : Nat := l.foldl (fun n x => n * 1000000000 + x.val.2) 0
theorem foldE_snoc (l : List Elem) (x : Elem) : foldE (l ++ [x]) = foldE l * 1000000000 + x.val.2 := by simp [foldE]
theorem foldE_lt (l : List Elem) (h : l.length < 2) : foldE l < 1000000000 := by
  match l, h with
  | [], _ => decide
  | [x], _ => have := x.property; simpa [foldE] using this

attribute [local go_sem] Oper.semAt_some
set_option maxRecDepth 100000 in
set_option maxHeartbeats 4000000 in
theorem backN_in (F : Fence) (n : Nat) (h7 : F.fn 164) (hro : F.round = none) (hn : 1 ≤ n) (y Bs B g : Nat) (A : Option Addr) (c : Nat) (l : List Nat) (hl2 : l.length ≤ 2) (hd : digs l) (hBs1 : Bs < B) (hBs2 : Bs ≠ g) (J Jx : List Elem → World → Prop)
    (hY : ∀ pre x W, J pre W → pre.length < 2 → YieldAt F (n - 1) Tryz.prog y (encE x) W fun e W' =>
      (e = .returned (.bool true) ∧ J (pre ++ [x]) W' ∧ KBut B g W W') ∨ (e = .returned (.bool false) ∧ Jx (pre ++ [x]) W'))
    (W : World) (hBs : W.cell? ⟨Bs, 0, none⟩ = some (.slice A l.length c)) (hr : Reads W (fun b => b < B ∧ b ≠ g) 1 A l.length (ns l)) (h0 : J [] W) :
    CallsIn F n Tryz.prog 164 #[.func (.yield y) #[] #[], .pointer (some ⟨Bs, 0, none⟩)] W fun e W' => (∃ v, e = .returned v) ∧
      ((∃ ys, foldE ys = val l ∧ J ys W') ∨ (∃ pre, True ∧ Jx pre W')) := by
  refine callsIn_of_wp Tryz.func164 rfl h7 ?_ hro
  simp only [Tryz.ntmps164, List.size_toArray, List.length_cons, List.length_nil, Nat.reduceAdd, Nat.reduceSub, Array.replicate_succ, Array.replicate_zero, List.push_toArray, List.append_toArray, List.nil_append, List.cons_append]
  have hlw : wrap64 ((l.length : Int) - 1) = (l.length : Int) - 1 := IntWalk.wrap64_in _ ⟨by omega, by omega⟩
  gi_wp2
  gi_loopw [3] (fun i wr => ∃ (k : Nat) (pre : List Elem), i = .int .i64 ((k : Int) - 1) ∧ k ≤ l.length ∧ pre.length + k = l.length ∧ Hid (foldE pre = val (l.drop k)) ∧ Hid (J pre wr) ∧ Hid (KBut B g W wr)) (fun i _ => (intOf i + 1).toNat)
  case atStart => exact ⟨l.length, [], by go_num, Nat.le_refl _, by simp, Lib.hid (by rw [List.drop_of_length_le (Nat.le_refl _)]; rfl), Lib.hid h0, Lib.hid (KBut.refl _ _ _)⟩
  case round =>
    obtain ⟨k, pre, rfl, hk, hpl, HF, HJ, HK⟩ := hrel
    by_cases hk0 : k = 0
    · subst hk0
      gi_wp2
      go_end0
      exact ⟨⟨_, rfl⟩, .inl ⟨pre, HF.out, HJ.out⟩⟩
    · obtain ⟨m, rfl⟩ : ∃ m, k = m + 1 := ⟨k - 1, by omega⟩
      have i1 : ((m + 1 : Nat) : Int) - 1 = m := by omega
      rw [i1]
      have hlt : m < l.length := by omega
      obtain ⟨ad, u, e, hbk, ⟨hb1, hb2⟩, hu, hc⟩ := hr.at_ hlt
      rw [ns_get l m hlt] at hu
      injection hu with hu
      subst hu
      subst e
      have hdx := digs_get hd m hlt
      have hcb : wr.cell? ⟨Bs, 0, none⟩ = some (.slice (some ad) l.length c) := (HK.out.cell (p := ⟨Bs, 0, none⟩) hBs1 hBs2).trans hBs
      have hca : wr.cell? (ad.add m) = some (.int .u32 (l[m] : Int)) := (HK.out.cell (p := ad.add m) (by rw [block_of_add]; exact hb1) (by rw [block_of_add]; exact hb2)).trans hc
      have hfs : foldE (pre ++ [⟨(m, l[m]), hdx⟩]) = val (l.drop m) := by
        rw [foldE_snoc, HF.out, List.drop_eq_getElem_cons hlt, val, Nat.add_comm, Nat.mul_comm]
        rfl
      have HFS := Lib.hid hfs
      have hY2 := Lib.hid (hY pre ⟨(m, l[m]), hdx⟩ wr HJ.out (by omega))
      unfold encE at hY2
      dsimp only at hY2
      have hlen := hpl
      have i2 : (m : Int) < l.length := by omega
      have hmw : wrap64 ((m : Int) - 1) = (m : Int) - 1 := IntWalk.wrap64_in _ ⟨by omega, by omega⟩
      generalize l[m] = d at *
      obtain ⟨fn, tmps, assign, body, hy, hR⟩ := hY2.out
      clear hfs hk0 i1
      gi_wp2
      refine hR.mono ?_
      rintro e W3 (⟨rfl, hJ3, hk3⟩ | ⟨rfl, hJx3⟩)
      · have HJ3 := Lib.hid hJ3
        have HK3 := Lib.hid hk3
        clear hJ3 hk3
        gi_wp2
        go_roundw
        case rel => exact ⟨m, _, rfl, by omega, by simp; omega, HFS, HJ3, Lib.hid (HK.out.trans HK3.out)⟩
        case measure => simp [intOf]
      · gi_wp2
        refine bodyPost_ret (results_none rfl _ _ _) rfl ?_
        exact ⟨⟨_, rfl⟩, .inr ⟨_, trivial, hJx3⟩⟩
set_option maxHeartbeats 1000000 in
theorem backward_in (F : Fence) (n : Nat) (h5 : F.fn 125) (hro : F.round = none) (a : Option Addr) (len cap : Nat) (w : World) :
    CallsIn F n Tryz.prog 125 #[.slice a len cap] w fun e w' => e = .returned (.func (.func 164) #[] #[.pointer (some ⟨w.heap.size, 0, none⟩)]) ∧ w' = w.alloc (.cells #[.slice a len cap] 79) := by
  refine callsIn_of_wp Tryz.func125 rfl h5 ?_ hro
  simp only [Tryz.ntmps125, List.size_toArray, List.length_cons, List.length_nil, Nat.reduceAdd, Nat.reduceSub, Array.replicate_succ, Array.replicate_zero, List.push_toArray, List.append_toArray, List.nil_append, List.cons_append]
  gi_wp2
  go_ret
  exact ⟨rfl, rfl⟩
theorem back_stops (F : Fence) (n : Nat) (h7 : F.fn 164) (hro : F.round = none) (hn : 1 ≤ n) (Bs B g : Nat) (A : Option Addr) (c : Nat) (l : List Nat) (hl2 : l.length ≤ 2) (hd : digs l) (hBs1 : Bs < B) (hBs2 : Bs ≠ g) (w : World) (hB : B ≤ w.heap.size)
    (hs : w.cell? ⟨Bs, 0, none⟩ = some (.slice A l.length c)) (hr : Reads w (fun b => b < B ∧ b ≠ g) 1 A l.length (ns l)) :
    SeqStopsK F n Tryz.prog 164 #[.pointer (some ⟨Bs, 0, none⟩)] encE (KBut B g) (fun ys => foldE ys = val l) (fun _ => True) 2 w := fun y J Jx W hW _ _ hY h0 =>
  backN_in F n h7 hro hn y Bs B g A c l hl2 hd hBs1 hBs2 J Jx hY W ((hW.cell (p := ⟨Bs, 0, none⟩) (Nat.lt_of_lt_of_le hBs1 hB)).trans hs) (hr.fresh hW) h0
set_option maxRecDepth 100000 in
set_option maxHeartbeats 4000000 in
theorem wide_in (F : Fence) (n : Nat) (h3 : F.fn 88) (h5 : F.fn 125) (h7 : F.fn 164) (hro : F.round = none) (hn : 3 ≤ n) (A : Option Addr) (cap : Nat) (l : List Nat) (hl2 : l.length ≤ 2) (hd : digs l) (w : World) (hr : Reads w (· < w.heap.size) 1 A l.length (ns l)) :
    CallsIn F n Tryz.prog 88 #[.slice A l.length cap] w fun e W' => e = .returned (.int .u64 (val l : Int)) ∧ Below w.heap.size w W' := by
  have h1 : 1 ≤ n := by omega
  refine callsIn_of_wp_marks Tryz.func88 rfl h3 ?_ hro
  simp only [Tryz.ntmps88, List.size_toArray, List.length_cons, List.length_nil, Nat.reduceAdd, Nat.reduceSub, Array.replicate_succ, Array.replicate_zero, List.push_toArray, List.append_toArray, List.nil_append, List.cons_append]
  gi_wp2_with (gi_at_call 125; refine (backward_in F (n - 1) h5 hro _ _ _ _).mono ?_; rintro e w' ⟨rfl, rfl⟩)
  have bS := Boxed.new w 106 (.int .u64 0)
  have bN := Boxed.new (w.alloc (.cells #[.int .u64 0] 106)) 79 (.slice A l.length cap)
  rw [World.size_alloc] at bN
  have hB0 : Below w.heap.size w ((w.alloc (.cells #[.int .u64 0] 106)).alloc (.cells #[.slice A l.length cap] 79)) := ((Below.refl _ w).alloc (Nat.le_refl _) _).alloc (by simp) _
  have hr2 : Reads ((w.alloc (.cells #[.int .u64 0] 106)).alloc (.cells #[.slice A l.length cap] 79)) (fun b => b < w.heap.size + 2 ∧ b ≠ w.heap.size) 1 A l.length (ns l) := ((hr.alloc _).alloc _).more fun b _ h => ⟨by omega, by omega⟩
  have hl4 : ((w.alloc (.cells #[.int .u64 0] 106)).alloc (.cells #[.slice A l.length cap] 79)).heap.size = w.heap.size + 2 := by simp
  refine wpIn_rangeFunc_ownG hro h1 (gf := 164) (lb := #[.pointer (some ⟨w.heap.size + 1, 0, none⟩)]) rfl h7 (enters_of Tryz.func164 (by kernel_rfl) rfl)
    (back_stops F (n - 1) h7 hro (by omega) (w.heap.size + 1) (w.heap.size + 2) w.heap.size A cap l hl2 hd (by omega) (by omega) _ (by rw [hl4]; exact Nat.le_refl _) bN.cell hr2) kbut_t (kbut_b (by rw [hl4]; exact Nat.le_refl _)) (Below.refl _ _) (fun _ => rfl)
    (fun pre W => (W.cell? ⟨w.heap.size, 0, none⟩ = some (.int .u64 ((foldE pre : Nat) : Int)) ∧ W.frozen? ⟨w.heap.size, 0, none⟩ = false) ∧ Below w.heap.size w W)
    (fun _ _ _ => False)
    (OwnFrom.and (Own.from (fun s A B row hs hg hr => ⟨cell_kept hs.1 hg hr, (frozen_kept hs.1 hg hr).trans hs.2⟩) _) (ownFrom_below (Nat.le_refl _) (by simp; omega)))
    (fun _ _ _ _ _ hs _ _ => hs)
    ⟨⟨by simp [foldE], (bS.alloc _).frozen⟩, hB0⟩
    (fun x => { tmps := #[.slice A l.length cap, undef, .int .u64 0, .pointer (some ⟨w.heap.size, 0, none⟩), undef, .int .u32 x.val.2, .slice A l.length cap, .func (.func 164) #[] #[.pointer (some ⟨w.heap.size + 1, 0, none⟩)], .int .i64 x.val.1, .int .u32 x.val.2, undef, undef, undef, undef, undef, undef], defers := [] }) ?assign ?body ?done ?stop
  case assign =>
    intro lp y W K hK
    unfold encE
    gi_wp2
    exact hK
  case body =>
    rintro y pre x W ⟨⟨hc, hf⟩, hB⟩ hlen
    have hfl := foldE_lt pre hlen
    have hxl := x.property
    have hsn := foldE_snoc pre x
    obtain ⟨f, hf2⟩ : ∃ f, f = foldE pre := ⟨_, rfl⟩
    rw [← hf2] at hc hfl hsn
    obtain ⟨xd, hxd⟩ : ∃ xd, xd = x.val.2 := ⟨_, rfl⟩
    rw [← hxd] at hxl hsn ⊢
    obtain ⟨p, hp⟩ : ∃ p, p = f * 1000000000 := ⟨_, rfl⟩
    obtain ⟨s, hs⟩ : ∃ s, s = p + xd := ⟨_, rfl⟩
    rw [← hp, ← hs] at hsn
    have e1 : IntKind.u64.wrap ((f : Int) * 1000000000) = (p : Int) := wrap_mul64 f 1000000000 p hp.symm (by omega)
    have e2 := wrap_add64 p xd s hs.symm (by omega)
    have e3 := wrap_n64 xd (by omega)
    have HSN := Lib.hid hsn
    clear hfl hxl hsn hf2 hxd hp hs
    gi_wp2
    exact ⟨(KeepsOthers.setCell _ _ _).from _, (KBut.refl _ _ W).setCell _ _, ⟨by rw [HSN.out]; simpa using World.cell?_setCell_same' W ⟨w.heap.size, 0, none⟩ (.int .u64 (s : Int)) (by rw [hc]; rfl), by rw [World.frozen?_setCell]; exact hf⟩, hB.setCell (p := ⟨w.heap.size, 0, none⟩) (Nat.le_refl _) _⟩
  case done =>
    rintro D ys W hD hys ⟨⟨hc, _⟩, hB⟩ hK
    rw [hys] at hc
    gi_wp2
    refine ⟨by simp, .inl ⟨_, _, rfl, run_takeDeferred hK, ?_⟩⟩
    exact ⟨_, results_tmp rfl _ _ _, by simp, hB.trans (belowK_b (w := w) (Nat.le_refl _) W D _ _ (by simp at hD; omega) hK rfl rfl)⟩
  case stop =>
    rintro D c pre W _ _ h _
    exact h.elim
theorem wide_any (w : World) (T : Nat → Prop) (v : Value) (n : Nat) (h : NatR w T v n) (hl : (ofN n).length ≤ 2) : Calls Tryz.prog 88 #[v] w fun e W' => e = .returned (.int .u64 (n : Int)) ∧ Below w.heap.size w W' := by
  obtain ⟨A, c, rfl, hr, -⟩ := h.old
  have := (callsIn_wide (n := 3)).1 (wide_in Fence.wide 3 trivial trivial trivial rfl (by omega) A c (ofN n) hl (digs_ofN n) w hr)
  rwa [val_ofN] at this
end Go.Proofs.YtempdomhbfokmaaGreatDoor

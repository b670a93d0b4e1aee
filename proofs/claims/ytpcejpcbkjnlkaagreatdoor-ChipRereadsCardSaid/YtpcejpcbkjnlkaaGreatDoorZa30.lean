/- The text of a code: lines, their lengths, what is read of them again. chip.kind: the regions that draw their order. Printed by gen_kind.py. chip.kind reads the first words of a line. chip.readLine reads a line that line has written. chip.line writes the line of an instruction. -/
import Derived.Test.YtpcejpcbkjnlkaaGreatDoorZa29
import Derived.Test.YtpcejpcbkjnlkaaGreatDoorZa28
import Derived.Lib.SlicesS
import Derived.Test.YtpcejpcbkjnlkaaGreatDoorZa25
import Derived.Test.YtpcejpcbkjnlkaaGreatDoorZa23
import Derived.Laws.ResultCell
import Derived.Deep.CutBlock
set_option linter.unusedVariables false
namespace Go.Proofs.YtpcejpcbkjnlkaaGreatDoor
open Go.RowKit Go.Lib

def frmOf (x : Ins) : Frm := (formF x.op x.k).getD ⟨[], false, 0, 0, 0, 0, 0, 0, false⟩
theorem frmOf_eq {x : Ins} {f : Frm} (h : formF x.op x.k = some f) : frmOf x = f := by unfold frmOf; rw [h]; rfl
def rowB (x : Ins) : List UInt8 := lineB (frmOf x) x ++ [10]
def textB (xs : List Ins) : List UInt8 := xs.flatMap rowB
theorem textB_cons (x : Ins) (xs : List Ins) : textB (x :: xs) = rowB x ++ textB xs := List.flatMap_cons
theorem textB_snoc (xs : List Ins) (x : Ins) : textB (xs ++ [x]) = textB xs ++ rowB x := by
  unfold textB
  rw [List.flatMap_append]
  simp
/-! ### lengths -/
theorem itoa_small {n : Int} (h1 : -9223372036854775808 ≤ n) (h2 : n ≤ 9223372036854775807) : (itoa n).length ≤ 20 := by
  unfold itoa
  split
  · have := dec_length 18 n.natAbs (by omega)
    simp only [List.length_cons]
    omega
  · have := dec_length 18 n.toNat (by omega)
    omega
theorem form_word_len {op k : Int} {f : Frm} (h : formF op k = some f) : 1 ≤ f.word.length ∧ f.word.length ≤ 4 := by
  refine form_case (P := fun _ f => 1 ≤ f.word.length ∧ f.word.length ≤ 4) h ?_ ?_ ?_ ?_ ?_ ?_ ?_ ?_ ?_ ?_ ?_ ?_ ?_ ?_ ?_ ?_ ?_ ?_ ?_ <;> simp [operF]
theorem name_len (k : Int) : (nameB k).length ≤ 6 := by
  unfold nameB
  repeat' split
  all_goals simp
theorem letter_len (k : Int) : (letterB k).length ≤ 1 := by
  unfold letterB
  repeat' split
  all_goals simp
theorem spread_len (n : Nat) : ∀ ws : List (List UInt8), (∀ w ∈ ws, w.length ≤ n) → (spread ws).length ≤ (n + 1) * ws.length
  | [], _ => by simp [spread]
  | w :: ws, h => by
    have h1 := h w List.mem_cons_self
    have h2 := spread_len n ws (fun v hv => h v (List.mem_cons_of_mem w hv))
    rw [show spread (w :: ws) = 32 :: (w ++ spread ws) from rfl, List.length_cons, List.length_append, List.length_cons, Nat.mul_succ]
    omega
theorem kindW_len (f : Frm) (x : Ins) : (kindW f x).length ≤ 1 := by
  unfold kindW
  repeat' split
  all_goals simp
theorem ifW_len (x : Ins) : (ifW x).length = 0 ∨ (ifW x).length = 2 := by
  unfold ifW
  split <;> simp
theorem fieldsF_len (f : Frm) (x : Ins) : (fieldsF f x).length ≤ 6 := List.length_filter_le _ _
/-- the numbers of an instruction are such as the library writes in twenty signs -/
def Short (x : Ins) : Prop := ∀ v ∈ [x.d, x.a, x.b, x.c, x.n, x.m, x.p - 1], -2147483648 ≤ v ∧ v ≤ 2147483647
theorem fields_mem {f : Frm} {x : Ins} {y : Int × Int} (h : y ∈ fieldsF f x) : y.2 ∈ [x.d, x.a, x.b, x.c, x.n, x.m, x.p - 1] := by
  have := (List.mem_filter.1 h).1
  simp only [List.mem_cons, List.not_mem_nil, or_false] at this ⊢
  rcases this with rfl | rfl | rfl | rfl | rfl | rfl <;> simp
theorem rest_len {f : Frm} {x : Ins} (hs : Short x) : ∀ w ∈ restW f x, w.length ≤ 12 := by
  intro w hw
  unfold restW at hw
  rcases List.mem_append.1 hw with hw | hw
  · rcases List.mem_append.1 hw with hw | hw
    · unfold kindW at hw
      split at hw
      · rw [List.mem_singleton] at hw
        subst hw
        split <;> simp
      split at hw
      · rw [List.mem_singleton] at hw
        subst hw
        have := name_len x.k
        omega
      · simp at hw
    · obtain ⟨y, hy, rfl⟩ := List.mem_map.1 hw
      have h1 := letter_len y.1
      have h2 := hs y.2 (fields_mem hy)
      have h3 := itoa_length (n := y.2) (by omega) (by omega)
      rw [List.length_append]
      omega
  · unfold ifW at hw
    split at hw
    · simp at hw
    · rcases List.mem_cons.1 hw with rfl | hw
      · simp
      · rw [List.mem_singleton] at hw
        subst hw
        have h2 := hs (x.p - 1) (by simp)
        have h3 := itoa_length (n := x.p - 1) (by omega) (by omega)
        rw [List.length_cons]
        omega
theorem line_len {f : Frm} {x : Ins} (hf : formF x.op x.k = some f) (hs : Short x) : 1 ≤ (lineB f x).length ∧ (lineB f x).length ≤ 150 := by
  have h1 := form_word_len hf
  have h2 := spread_len 12 (restW f x) (rest_len hs)
  have h3 := kindW_len f x
  have h4 := ifW_len x
  have h5 := fieldsF_len f x
  have h6 : (restW f x).length ≤ 9 := by
    unfold restW
    rw [List.length_append, List.length_append, List.length_map]
    omega
  unfold lineB
  rw [List.length_append]
  omega
theorem textB_len : ∀ (xs : List Ins), (∀ x ∈ xs, (∃ f, formF x.op x.k = some f) ∧ Short x) → (textB xs).length ≤ 151 * xs.length
  | [], _ => by simp [textB]
  | x :: xs, h => by
    obtain ⟨⟨f, hf⟩, hs⟩ := h x List.mem_cons_self
    have h1 := (line_len hf hs).2
    have h2 := textB_len xs (fun y hy => h y (List.mem_cons_of_mem x hy))
    rw [textB_cons, List.length_append, List.length_cons, Nat.mul_succ]
    unfold rowB
    rw [frmOf_eq hf, List.length_append]
    simp only [List.length_cons, List.length_nil]
    omega
/-! ### pieces of a line -/
theorem spread_app (a b : List (List UInt8)) : spread (a ++ b) = spread a ++ spread b := List.flatMap_append
theorem strCells_mk (l : List UInt8) : Lib.strCells ⟨l.toArray⟩ = Lib.byteCells l := by simp [Lib.strCells, Lib.byteCells]
theorem byteCells_app (a b : List UInt8) : Lib.byteCells (a ++ b) = Lib.byteCells a ++ Lib.byteCells b := by simp [Lib.byteCells]
theorem byteCells_len (a : List UInt8) : (Lib.byteCells a).length = a.length := by simp [Lib.byteCells]
def fieldW (y : Int × Int) : List UInt8 := letterB y.1 ++ itoa y.2
/-- a line's word and kind, and its first i fields -/
def preB (f : Frm) (x : Ins) (i : Nat) : List UInt8 := f.word ++ spread (kindW f x) ++ spread (((fieldsF f x).take i).map fieldW)
theorem lineB_pre (f : Frm) (x : Ins) (i : Nat) : ∃ R, lineB f x = preB f x i ++ R := by
  refine ⟨spread (((fieldsF f x).drop i).map fieldW) ++ spread (ifW x), ?_⟩
  have e : (fieldsF f x).map fieldW = ((fieldsF f x).take i).map fieldW ++ ((fieldsF f x).drop i).map fieldW := by rw [← List.map_append, List.take_append_drop]
  unfold lineB preB restW
  rw [show (fun y : Int × Int => letterB y.1 ++ itoa y.2) = fieldW from rfl, e, spread_app, spread_app, spread_app]
  simp only [List.append_assoc]
theorem preB_len {f : Frm} {x : Ins} (hf : formF x.op x.k = some f) (hs : Short x) (i : Nat) : (preB f x i).length ≤ 150 := by
  obtain ⟨R, e⟩ := lineB_pre f x i
  have h := (line_len hf hs).2
  rw [e, List.length_append] at h
  omega
theorem preB_zero (f : Frm) (x : Ins) : preB f x 0 = f.word ++ spread (kindW f x) := by
  unfold preB
  rw [List.take_zero, List.map_nil, show spread [] = [] from rfl, List.append_nil]
theorem preB_succ (f : Frm) (x : Ins) (i : Nat) (hi : i < (fieldsF f x).length) : preB f x (i + 1) = preB f x i ++ 32 :: fieldW (fieldsF f x)[i] := by
  unfold preB
  rw [List.take_succ_eq_append_getElem hi, List.map_append, spread_app]
  simp [spread]
theorem lineB_end (f : Frm) (x : Ins) : lineB f x = preB f x (fieldsF f x).length ++ spread (ifW x) := by
  unfold lineB preB restW
  rw [List.take_length, spread_app, spread_app]
  simp only [List.append_assoc]
  rfl
theorem slots_at (f : Frm) (x : Ins) (i : Nat) (hi : i < (slotsF f).length) : ∃ hi' : i < (fieldsF f x).length, (fieldsF f x)[i] = ((slotsF f)[i].1, fieldAt x (slotsF f)[i].2) := by
  have e := slots_fields f x
  have hl : (fieldsF f x).length = (slotsF f).length := by rw [← e, List.length_map]
  refine ⟨by omega, ?_⟩
  have : (fieldsF f x)[i]? = ((slotsF f).map (fun y => (y.1, fieldAt x y.2)))[i]? := by rw [e]
  rw [List.getElem?_map, List.getElem?_eq_getElem hi, List.getElem?_eq_getElem (by omega)] at this
  exact Option.some.inj this
theorem slots_length (f : Frm) (x : Ins) : (slotsF f).length = (fieldsF f x).length := by rw [← slots_fields f x, List.length_map]
theorem fieldAt_short {x : Ins} (hs : Short x) (o : Nat) : -2147483648 ≤ fieldAt x o ∧ fieldAt x o ≤ 2147483647 := by
  unfold fieldAt
  repeat' split
  all_goals exact hs _ (by simp)
/-! ### what Check accepts -/
theorem fieldOk.range5 {b q k v : Int} (h : fieldOk b q k v) (hk : 0 ≤ k ∧ k ≤ 5) (hb : b ≤ 100) (hq : q ≤ 100) : -2147483648 ≤ v ∧ v ≤ 2147483647 := by
  obtain ⟨h0, h1, h2, h3, h4, h5⟩ := h
  rcases (show k = 0 ∨ k = 1 ∨ k = 2 ∨ k = 3 ∨ k = 4 ∨ k = 5 by omega) with rfl | rfl | rfl | rfl | rfl | rfl
  · have := h0 rfl; omega
  · have := h1 rfl; omega
  · have := h2 rfl; omega
  · have := h3 rfl; omega
  · have := h4 rfl; omega
  · exact h5 rfl
theorem form_range {op k : Int} {f : Frm} (h : formF op k = some f) : (0 ≤ f.d ∧ f.d ≤ 5) ∧ (0 ≤ f.a ∧ f.a ≤ 5) ∧ (0 ≤ f.b ∧ f.b ≤ 5) ∧ (0 ≤ f.c ∧ f.c ≤ 5) ∧ (0 ≤ f.n ∧ f.n ≤ 5) ∧ (0 ≤ f.m ∧ f.m ≤ 5) := by
  obtain ⟨-, h1, h2, h3, h4, h5, h6, -⟩ := form_small h
  refine ⟨?_, ?_, ?_, ?_, ?_, ?_⟩ <;> omega
theorem InsOk.short {b k l q : Int} {x : Ins} (h : InsOk b k l q x) (hb : b ≤ 100) (hq : q ≤ 100) : Short x := by
  obtain ⟨f, hf, ho⟩ := h
  obtain ⟨r1, r2, r3, r4, r5, r6⟩ := form_range hf
  have hp := ho.pr
  intro v hv
  simp only [List.mem_cons, List.not_mem_nil, or_false] at hv
  rcases hv with rfl | rfl | rfl | rfl | rfl | rfl | rfl
  · exact ho.fd.range5 r1 hb hq
  · exact ho.fa.range5 r2 hb hq
  · exact ho.fb.range5 r3 hb hq
  · exact ho.fc.range5 r4 hb hq
  · exact ho.fn.range5 r5 hb hq
  · exact ho.fm.range5 r6 hb hq
  · omega
/-! ### reading a line again -/
theorem text_cut {x : Ins} {f : Frm} (h : formF x.op x.k = some f) (xs : List Ins) : cut (textB (x :: xs)) [10] = (lineB f x, textB xs, true) := by
  rw [textB_cons]
  unfold rowB
  rw [frmOf_eq h, List.append_assoc]
  exact cut_line (line_ne h)
theorem hasPrefix_app (a b : List UInt8) : hasPrefix (a ++ b) a = true := by
  unfold hasPrefix
  exact List.isPrefixOf_iff_prefix.2 (List.prefix_append a b)
theorem trimPrefix_app (a b : List UInt8) : trimPrefix (a ++ b) a = b := by
  unfold trimPrefix
  rw [if_pos (hasPrefix_app a b)]
  exact List.drop_left
theorem form_zero {op k : Int} {f : Frm} (h : formF op k = some f) : ∃ g, formF op 0 = some g ∧ g.word = f.word ∧ g.k = f.k := by
  refine form_case (P := fun op f => ∃ g, formF op 0 = some g ∧ g.word = f.word ∧ g.k = f.k) h ?_ ?_ ?_ ?_ ?_ ?_ ?_ ?_ ?_ ?_ ?_ ?_ ?_ ?_ ?_ ?_ ?_ ?_ ?_ <;> exact ⟨_, rfl, rfl, rfl⟩
theorem form_all {op : Int} (h : 1 ≤ op ∧ op ≤ 19) : ∃ f, formF op 0 = some f := by
  rcases (show op = 1 ∨ op = 2 ∨ op = 3 ∨ op = 4 ∨ op = 5 ∨ op = 6 ∨ op = 7 ∨ op = 8 ∨ op = 9 ∨ op = 10 ∨ op = 11 ∨ op = 12 ∨ op = 13 ∨ op = 14 ∨ op = 15 ∨ op = 16 ∨ op = 17 ∨ op = 18 ∨ op = 19 by omega) with rfl | rfl | rfl | rfl | rfl | rfl | rfl | rfl | rfl | rfl | rfl | rfl | rfl | rfl | rfl | rfl | rfl | rfl | rfl <;> exact ⟨_, rfl⟩
theorem word_ne {o op k : Int} {f g : Frm} (h : formF op k = some f) (ho : 1 ≤ o ∧ o ≤ 19) (hg : formF o 0 = some g) (hne : o ≠ op) : g.word ≠ f.word := by
  obtain ⟨f0, h0, e, -⟩ := form_zero h
  have hr := form_op h
  have ht := word_tells ⟨(o - 1).toNat, by omega⟩ ⟨(op - 1).toNat, by omega⟩ (by intro e; have := congrArg Fin.val e; dsimp only at this; omega)
  dsimp only at ht
  rw [show (((o - 1).toNat : Nat) : Int) + 1 = o by omega, show (((op - 1).toNat : Nat) : Int) + 1 = op by omega, hg, h0] at ht
  intro e2
  exact ht (by rw [Option.map_some, Option.map_some, e2, e])
theorem bytes_ne {a b : List UInt8} (h : a ≠ b) : (⟨a.toArray⟩ : ByteArray) ≠ ⟨b.toArray⟩ := by
  intro e
  injection e with e
  exact h (by simpa using congrArg Array.toList e)
/-- a field is set -/
def putF (z : Ins) (o : Nat) (v : Int) : Ins :=
  if o = 2 then { z with d := v } else if o = 3 then { z with a := v } else if o = 4 then { z with b := v } else if o = 5 then { z with c := v } else if o = 7 then { z with n := v } else { z with m := v }
def readF (x : Ins) (l : List (Int × Nat)) : Ins := l.foldl (fun z y => putF z y.2 (fieldAt x y.2)) ⟨x.op, x.k, 0, 0, 0, 0, 0, 0, 0⟩
theorem readF_snoc (x : Ins) (l : List (Int × Nat)) (y : Int × Nat) : readF x (l ++ [y]) = putF (readF x l) y.2 (fieldAt x y.2) := by
  unfold readF
  rw [List.foldl_append]
  rfl
theorem putF_cells (z : Ins) (o : Nat) (v : Int) (h : o = 2 ∨ o = 3 ∨ o = 4 ∨ o = 5 ∨ o = 7 ∨ o = 8) : z.cells.setIfInBounds o (.int .i64 v) = (putF z o v).cells := by
  rcases h with rfl | rfl | rfl | rfl | rfl | rfl <;> rfl
theorem readF_all {b q l k : Int} {f : Frm} {x : Ins} (h : FormOk b k l q f x) : readF x (slotsF f) = { x with p := 0 } := by
  obtain ⟨z1, z2, z3, z4, z5, z6⟩ := h.zeros
  unfold readF slotsF
  rw [List.foldl_filter]
  simp only [slotsA, List.foldl_cons, List.foldl_nil]
  have e : ∀ (c : Int) (o : Nat) (z : Ins) (v : Int), (c = 0 → putF z o v = z) → (if (decide ((c, o).1 ≠ 0)) = true then putF z (c, o).2 v else z) = putF z o v := by
    intro c o z v hz
    by_cases hc : c = 0
    · rw [if_neg (by simpa using hc), hz hc]
    · rw [if_pos (by simpa using hc)]
  rw [e f.d 2 _ _ (fun h0 => by show Ins.mk _ _ x.d _ _ _ _ _ _ = _; rw [z1 h0])]
  rw [e f.a 3 _ _ (fun h0 => by show Ins.mk _ _ _ x.a _ _ _ _ _ = _; rw [z2 h0]; rfl)]
  rw [e f.b 4 _ _ (fun h0 => by show Ins.mk _ _ _ _ x.b _ _ _ _ = _; rw [z3 h0]; rfl)]
  rw [e f.c 5 _ _ (fun h0 => by show Ins.mk _ _ _ _ _ x.c _ _ _ = _; rw [z4 h0]; rfl)]
  rw [e f.n 7 _ _ (fun h0 => by show Ins.mk _ _ _ _ _ _ _ x.n _ = _; rw [z5 h0]; rfl)]
  rw [e f.m 8 _ _ (fun h0 => by show Ins.mk _ _ _ _ _ _ _ _ x.m = _; rw [z6 h0]; rfl)]
  rfl
/-! ### names -/
theorem in_out {k : Int} (h : 1 ≤ k ∧ k ≤ 2) : idxOfS [⟨#[105, 110]⟩, ⟨#[111, 117, 116]⟩] ⟨(if k = 1 then [105, 110] else [111, 117, 116] : List UInt8).toArray⟩ = k - 1 := by
  rcases (show k = 1 ∨ k = 2 by omega) with rfl | rfl <;> decide
def namesB : List ByteArray := ([4, 5, 6, 7, 8, 9, 10, 11, 12, 13, 14, 15] : List Int).map fun i => ⟨(nameB i).toArray⟩
theorem names_idx {k : Int} (h : 4 ≤ k ∧ k ≤ 15) : idxOfS namesB ⟨(nameB k).toArray⟩ = k - 4 := by
  rcases (show k = 4 ∨ k = 5 ∨ k = 6 ∨ k = 7 ∨ k = 8 ∨ k = 9 ∨ k = 10 ∨ k = 11 ∨ k = 12 ∨ k = 13 ∨ k = 14 ∨ k = 15 by omega) with rfl | rfl | rfl | rfl | rfl | rfl | rfl | rfl | rfl | rfl | rfl | rfl <;> decide
end Go.Proofs.YtpcejpcbkjnlkaaGreatDoor

namespace Go.Proofs.YtpcejpcbkjnlkaaGreatDoor
open Go.RowKit

theorem name_some (i : Nat) (hi : i < 12) : nameL[i]? = some (nameL.getD i undef) := by
  rw [List.getD_eq_getElem?_getD, List.getElem?_eq_getElem (show i < nameL.length from hi)]
  rfl
theorem names_cell (j : Nat) (hj : j < 12) : nameL[j]? = some (.string (namesB.getD j ByteArray.empty)) := by
  rcases (show j = 0 ∨ j = 1 ∨ j = 2 ∨ j = 3 ∨ j = 4 ∨ j = 5 ∨ j = 6 ∨ j = 7 ∨ j = 8 ∨ j = 9 ∨ j = 10 ∨ j = 11 by omega) with rfl | rfl | rfl | rfl | rfl | rfl | rfl | rfl | rfl | rfl | rfl | rfl <;> rfl
def kindS13 (W : World) (m r : Nat) (o k : Int) (_ : Nat) (w : World) : Prop := Blk w m 44 #[.int .i64 o, .int .i64 k, .int .i64 0, .int .i64 0, .int .i64 0, .int .i64 0, .int .i64 0, .int .i64 0, .int .i64 0] ∧ Keeps (· = r) W w ∧ ∃ old, old.size = 9 ∧ Blk w r 44 old
noncomputable def kindR13 : Code := (Tryz.f50.body.bind (findRg 13)).getD .skip
def kindR13V (r m : Nat) (o k : Int) : Nat → Value → World → Prop
  | 0 => fun x _ => x = .agg #[.int .i64 o, .int .i64 k, .int .i64 0, .int .i64 0, .int .i64 0, .int .i64 0, .int .i64 0, .int .i64 0, .int .i64 0]
  | 1 => fun x _ => x = .pointer (some ⟨m, 1, none⟩)
  | 2 => fun x _ => x = .int .i64 k
  | 3 => fun x _ => x = .bool true
  | 4 => fun x w => Blk w r 44 #[.int .i64 o, .int .i64 k, .int .i64 0, .int .i64 0, .int .i64 0, .int .i64 0, .int .i64 0, .int .i64 0, .int .i64 0]
  | 5 => fun x _ => x = .int .i64 2
  | 6 => fun x _ => x = .bool true
  | _ => fun _ _ => True
theorem kindR13V_stab {r m : Nat} {o k : Int} (i : Nat) (x : Value) (w w' : World) (hb : (fun w w' => Blk w r 44 #[.int .i64 o, .int .i64 k, .int .i64 0, .int .i64 0, .int .i64 0, .int .i64 0, .int .i64 0, .int .i64 0, .int .i64 0] → Blk w' r 44 #[.int .i64 o, .int .i64 k, .int .i64 0, .int .i64 0, .int .i64 0, .int .i64 0, .int .i64 0, .int .i64 0, .int .i64 0]) w w') (h : kindR13V r m o k i x w) : kindR13V r m o k i x w' := by
  by_cases h4 : i = 4
  · subst h4
    have hb : Blk w r 44 #[.int .i64 o, .int .i64 k, .int .i64 0, .int .i64 0, .int .i64 0, .int .i64 0, .int .i64 0, .int .i64 0, .int .i64 0] → Blk w' r 44 #[.int .i64 o, .int .i64 k, .int .i64 0, .int .i64 0, .int .i64 0, .int .i64 0, .int .i64 0, .int .i64 0, .int .i64 0] := hb
    exact hb h
  unfold kindR13V at h ⊢
  split at h <;> first | exact h | contradiction
set_option maxRecDepth 100000 in
set_option maxHeartbeats 8000000 in
theorem kindR13_ok (W : World) {r m : Nat} {o k : Int} {s0 s1 s3 s4 s5 s7 s8 s9 s10 s11 s12 s13 s14 s15 s16 s17 s18 s19 s20 s21 s22 s23 s24 s25 s26 s27 s28 s29 s30 s31 s32 s33 s34 s35 s36 s37 s38 s39 s40 s41 s42 s43 s44 s45 s46 s47 s48 s49 s50 s51 s52 s53 s54 s55 s56 s57 s58 s59 : Value} (Q : Exit → Act → World → Prop) (hx : Blk W m 44 #[.int .i64 o, .int .i64 k, .int .i64 0, .int .i64 0, .int .i64 0, .int .i64 0, .int .i64 0, .int .i64 0, .int .i64 0]) (hr : ∃ old, old.size = 9 ∧ Blk W r 44 old) (hne : m ≠ r) (hk0 : 0 < k)
    (hQ : ∀ (w' : World) (y44 y45 y46 y47 : Value), Blk w' r 44 #[.int .i64 o, .int .i64 k, .int .i64 0, .int .i64 0, .int .i64 0, .int .i64 0, .int .i64 0, .int .i64 0, .int .i64 0] → Keeps (· = r) W w' → Q .normal ⟨#[s0, s1, .pointer (some ⟨r, 0, none⟩), .int .i64 2, .bool true, s5, .pointer (some ⟨m, 0, none⟩), s7, s8, s9, s10, s11, s12, s13, s14, s15, s16, s17, s18, s19, s20, s21, s22, s23, s24, s25, s26, s27, s28, s29, s30, s31, s32, s33, s34, s35, s36, s37, s38, s39, s40, s41, s42, s43, y44, y45, y46, y47, s48, s49, s50, s51, s52, s53, s54, s55, s56, s57, s58, s59], []⟩ w') :
    Code.wp Tryz.prog kindR13 Q ⟨#[s0, s1, .pointer (some ⟨r, 0, none⟩), s3, s4, s5, .pointer (some ⟨m, 0, none⟩), s7, s8, s9, s10, s11, s12, s13, s14, s15, s16, s17, s18, s19, s20, s21, s22, s23, s24, s25, s26, s27, s28, s29, s30, s31, s32, s33, s34, s35, s36, s37, s38, s39, s40, s41, s42, s43, s44, s45, s46, s47, s48, s49, s50, s51, s52, s53, s54, s55, s56, s57, s58, s59], []⟩ W := by
  conv => arg 2; whnf
  have HQ := Lib.hid hQ
  have hkd : decide (0 < k) = true := by simpa using hk0
  have hS0 : (kindS13 W m r o k) 0 W.drew := ⟨hx.drew, (Keeps.refl _ W).drew, by obtain ⟨old, h1, h2⟩ := hr; exact ⟨old, h1, h2.drew⟩⟩
  clear hQ hx hr
  refine wp_region_rely (fun u => ⟨#[s0, s1, .pointer (some ⟨r, 0, none⟩), u 5, u 6, s5, .pointer (some ⟨m, 0, none⟩), s7, s8, s9, s10, s11, s12, s13, s14, s15, s16, s17, s18, s19, s20, s21, s22, s23, s24, s25, s26, s27, s28, s29, s30, s31, s32, s33, s34, s35, s36, s37, s38, s39, s40, s41, s42, s43, u 0, u 1, u 2, u 3, s48, s49, s50, s51, s52, s53, s54, s55, s56, s57, s58, s59], []⟩) (kindS13 W m r o k) (fun w w' => Blk w r 44 #[.int .i64 o, .int .i64 k, .int .i64 0, .int .i64 0, .int .i64 0, .int .i64 0, .int .i64 0, .int .i64 0, .int .i64 0] → Blk w' r 44 #[.int .i64 o, .int .i64 k, .int .i64 0, .int .i64 0, .int .i64 0, .int .i64 0, .int .i64 0, .int .i64 0, .int .i64 0]) (kindR13V r m o k) 7 (by kernel_rfl) rfl (by kernel_rfl) (by kernel_rfl) (fun _ => by kernel_rfl) hS0 kindR13V_stab ?_ ?_
  · intro jj oo ho kk w u hkk hS hw
    have hi : jj < 7 := (List.getElem?_eq_some_iff.1 ho).1
    rcases (show jj = 0 ∨ jj = 1 ∨ jj = 2 ∨ jj = 3 ∨ jj = 4 ∨ jj = 5 ∨ jj = 6 by omega) with rfl | rfl | rfl | rfl | rfl | rfl | rfl
    · have e := Option.some.inj (ho : some _ = some oo)
      subst e
      clear ho
      refine Or.inl ⟨by rfl, ?_⟩
      have hS2 := hS
      obtain ⟨hx, hk, old, ho8, hr⟩ := hS
      have c0 := hx.cell 0
      have c1 := hx.cell 1
      have c2 := hx.cell 2
      have c3 := hx.cell 3
      have c4 := hx.cell 4
      have c5 := hx.cell 5
      have c6 := hx.cell 6
      have c7 := hx.cell 7
      have c8 := hx.cell 8
      dsimp only
      go_simp
      exact ⟨rfl, hS2⟩
    · have e := Option.some.inj (ho : some _ = some oo)
      subst e
      clear ho
      refine Or.inl ⟨by rfl, ?_⟩
      have hS2 := hS
      obtain ⟨hx, hk, old, ho8, hr⟩ := hS
      dsimp only
      go_simp
      exact ⟨rfl, hS2⟩
    · have e := Option.some.inj (ho : some _ = some oo)
      subst e
      clear ho
      refine Or.inl ⟨by rfl, ?_⟩
      have h1 : u 1 = .pointer (some ⟨m, 1, none⟩) := hw 1 (by kernel_rfl)
      have hS2 := hS
      obtain ⟨hx, hk, old, ho8, hr⟩ := hS
      have c1 := hx.cell 1
      dsimp only
      rw [h1]
      go_simp
      exact ⟨rfl, hS2⟩
    · have e := Option.some.inj (ho : some _ = some oo)
      subst e
      clear ho
      refine Or.inl ⟨by rfl, ?_⟩
      have h2 : u 2 = .int .i64 k := hw 2 (by kernel_rfl)
      have hS2 := hS
      obtain ⟨hx, hk, old, ho8, hr⟩ := hS
      dsimp only
      rw [h2]
      go_simp
      exact ⟨rfl, hS2⟩
    · have e := Option.some.inj (ho : some _ = some oo)
      subst e
      clear ho
      refine Or.inl ⟨by rfl, ?_⟩
      have h0 : u 0 = .agg #[.int .i64 o, .int .i64 k, .int .i64 0, .int .i64 0, .int .i64 0, .int .i64 0, .int .i64 0, .int .i64 0, .int .i64 0] := hw 0 (by kernel_rfl)
      have hS2 := hS
      obtain ⟨hx, hk, old, ho8, hr⟩ := hS
      dsimp only
      rw [h0]
      refine wp_store_row _ _ _ (by rfl) r #[.int .i64 o, .int .i64 k, .int .i64 0, .int .i64 0, .int .i64 0, .int .i64 0, .int .i64 0, .int .i64 0, .int .i64 0] (by rfl) (by rfl) 44 old hr (by kernel_rfl) ho8 (by simp [Value.oneCell']) ?_
      have hb1 := setRow_blk hr (cs := #[.int .i64 o, .int .i64 k, .int .i64 0, .int .i64 0, .int .i64 0, .int .i64 0, .int .i64 0, .int .i64 0, .int .i64 0])
      have hb2 := setRow_keeps w r #[.int .i64 o, .int .i64 k, .int .i64 0, .int .i64 0, .int .i64 0, .int .i64 0, .int .i64 0, .int .i64 0, .int .i64 0]
      refine ⟨undef, rfl, hb1, ⟨hb2.blk hx (fun e => hne e), hk.trans hb2 (fun i hi e => e), _, by rfl, hb1⟩, fun _ => hb1⟩
    · have e := Option.some.inj (ho : some _ = some oo)
      subst e
      clear ho
      refine Or.inl ⟨by rfl, ?_⟩
      have hS2 := hS
      obtain ⟨hx, hk, old, ho8, hr⟩ := hS
      dsimp only
      go_simp
      exact ⟨rfl, hS2⟩
    · have e := Option.some.inj (ho : some _ = some oo)
      subst e
      clear ho
      refine Or.inl ⟨by rfl, ?_⟩
      have h3 : u 3 = .bool true := hw 3 (by kernel_rfl)
      have hS2 := hS
      obtain ⟨hx, hk, old, ho8, hr⟩ := hS
      dsimp only
      rw [h3]
      go_simp
      exact ⟨rfl, hS2⟩
  · intro w u hS hV
    have h4 : Blk w r 44 #[.int .i64 o, .int .i64 k, .int .i64 0, .int .i64 0, .int .i64 0, .int .i64 0, .int .i64 0, .int .i64 0, .int .i64 0] := hV 4 (by omega)
    have h5 : u 5 = .int .i64 2 := hV 5 (by omega)
    have h6 : u 6 = .bool true := hV 6 (by omega)
    rw [h5, h6]
    exact HQ.out w _ _ _ _ h4 hS.2.1
noncomputable def kindR14 : Code := (Tryz.f50.body.bind (findRg 14)).getD .skip
def kindR14V (g n : Nat) (k : Int) : Nat → Value → World → Prop
  | 0 => fun x w => ∃ a : Nat, x = .slice (some ⟨a, 0, none⟩) 12 12 ∧ ∀ i : Nat, i < 12 → w.cell? ⟨a, i, none⟩ = nameL[i]?
  | 1 => fun x _ => x = .slice (some ⟨g, 0, none⟩) n n
  | 2 => fun x _ => x = .pointer (some ⟨g, 1, none⟩)
  | 3 => fun x _ => x = .string ⟨(nameB k).toArray⟩
  | 4 => fun x _ => x = .int .i64 (k - 4)
  | 5 => fun x _ => x = .int .i64 (k - 4)
  | _ => fun _ _ => True
theorem kindR14V_stab {g n : Nat} {k : Int} (i : Nat) (x : Value) (w w' : World) (hb : (fun w w' => Below w.heap.size w w') w w') (h : kindR14V g n k i x w) : kindR14V g n k i x w' := by
  by_cases h0 : i = 0
  · subst h0
    have hb : Below w.heap.size w w' := hb
    obtain ⟨a, e, hc⟩ := h
    exact ⟨a, e, fun i hi => (hb.cell (World.block_lt_of_cell? w _ (by rw [hc i hi]; exact name_some i hi))).trans (hc i hi)⟩
  unfold kindR14V at h ⊢
  split at h <;> first | exact h | contradiction
set_option maxRecDepth 100000 in
set_option maxHeartbeats 8000000 in
theorem kindR14_ok (W : World) {g n : Nat} {k : Int} {s1 s2 s3 s4 s5 s6 s7 s8 s9 s10 s11 s12 s13 s14 s15 s16 s17 s18 s19 s20 s21 s22 s23 s24 s25 s26 s27 s28 s29 s30 s31 s32 s33 s34 s35 s36 s37 s38 s39 s40 s41 s42 s43 s44 s45 s46 s47 s48 s49 s50 s51 s52 s53 s54 s55 s56 s57 s58 s59 : Value} (Q : Exit → Act → World → Prop) (hn : 1 < n) (hc : W.cell? ⟨g, 1, none⟩ = some (.string ⟨(nameB k).toArray⟩)) (hk : 4 ≤ k ∧ k ≤ 15)
    (hQ : ∀ (w' : World) (y48 y49 y50 y51 y52 : Value), Below W.heap.size W w' → Q .normal ⟨#[.slice (some ⟨g, 0, none⟩) n n, s1, s2, s3, s4, s5, s6, s7, s8, .int .i64 (k - 4), s10, s11, s12, s13, s14, s15, s16, s17, s18, s19, s20, s21, s22, s23, s24, s25, s26, s27, s28, s29, s30, s31, s32, s33, s34, s35, s36, s37, s38, s39, s40, s41, s42, s43, s44, s45, s46, s47, y48, y49, y50, y51, y52, s53, s54, s55, s56, s57, s58, s59], []⟩ w') :
    Code.wp Tryz.prog kindR14 Q ⟨#[.slice (some ⟨g, 0, none⟩) n n, s1, s2, s3, s4, s5, s6, s7, s8, s9, s10, s11, s12, s13, s14, s15, s16, s17, s18, s19, s20, s21, s22, s23, s24, s25, s26, s27, s28, s29, s30, s31, s32, s33, s34, s35, s36, s37, s38, s39, s40, s41, s42, s43, s44, s45, s46, s47, s48, s49, s50, s51, s52, s53, s54, s55, s56, s57, s58, s59], []⟩ W := by
  conv => arg 2; whnf
  have HQ := Lib.hid hQ
  have HC := Lib.hid hc
  have HI := Lib.hid (names_idx hk)
  have hn1 : (1 : Int) < (n : Int) := by omega
  have hS0 : (fun _ w => Below W.heap.size W w) 0 W.drew := (Below.refl _ W).drew
  clear hQ hc hk
  refine wp_region_rely (fun u => ⟨#[.slice (some ⟨g, 0, none⟩) n n, s1, s2, s3, s4, s5, s6, s7, s8, u 5, s10, s11, s12, s13, s14, s15, s16, s17, s18, s19, s20, s21, s22, s23, s24, s25, s26, s27, s28, s29, s30, s31, s32, s33, s34, s35, s36, s37, s38, s39, s40, s41, s42, s43, s44, s45, s46, s47, u 0, u 1, u 2, u 3, u 4, s53, s54, s55, s56, s57, s58, s59], []⟩) (fun _ w => Below W.heap.size W w) (fun w w' => Below w.heap.size w w') (kindR14V g n k) 6 (by kernel_rfl) rfl (by kernel_rfl) (by kernel_rfl) (fun _ => by kernel_rfl) hS0 kindR14V_stab ?_ ?_
  · intro jj oo ho kk w u hkk hS hw
    have hi : jj < 6 := (List.getElem?_eq_some_iff.1 ho).1
    rcases (show jj = 0 ∨ jj = 1 ∨ jj = 2 ∨ jj = 3 ∨ jj = 4 ∨ jj = 5 by omega) with rfl | rfl | rfl | rfl | rfl | rfl
    · have e := Option.some.inj (ho : some _ = some oo)
      subst e
      clear ho
      refine Or.inl ⟨by rfl, ?_⟩
      dsimp only
      go_simp
      refine (names_any w).mono ?_
      rintro e w1 ⟨rfl, t, rfl⟩
      refine ⟨⟨w.heap.size, rfl, fun i _ => ?_⟩, hS.alloc hS.size _, (Below.refl _ w).alloc (Nat.le_refl _) _⟩
      rw [(Blk.new w t nameL.toArray).cell i]
      simp
    · have e := Option.some.inj (ho : some _ = some oo)
      subst e
      clear ho
      refine Or.inl ⟨by rfl, ?_⟩
      dsimp only
      go_simp
      first | exact ⟨rfl, hS, Below.refl _ w⟩ | exact ⟨rfl, Below.refl _ w⟩ | exact ⟨hS, Below.refl _ w⟩ | exact Below.refl _ w
    · have e := Option.some.inj (ho : some _ = some oo)
      subst e
      clear ho
      refine Or.inl ⟨by rfl, ?_⟩
      have h1 : u 1 = .slice (some ⟨g, 0, none⟩) n n := hw 1 (by kernel_rfl)
      dsimp only
      rw [h1]
      go_simp
      first | exact ⟨rfl, hS, Below.refl _ w⟩ | exact ⟨rfl, Below.refl _ w⟩ | exact ⟨hS, Below.refl _ w⟩ | exact Below.refl _ w
    · have e := Option.some.inj (ho : some _ = some oo)
      subst e
      clear ho
      refine Or.inl ⟨by rfl, ?_⟩
      have h2 : u 2 = .pointer (some ⟨g, 1, none⟩) := hw 2 (by kernel_rfl)
      dsimp only
      rw [h2]
      have c0 := below_cell hS HC.out
      go_simp
      first | exact ⟨rfl, hS, Below.refl _ w⟩ | exact ⟨rfl, Below.refl _ w⟩ | exact ⟨hS, Below.refl _ w⟩ | exact Below.refl _ w
    · have e := Option.some.inj (ho : some _ = some oo)
      subst e
      clear ho
      refine Or.inl ⟨by rfl, ?_⟩
      have h3 : u 3 = .string ⟨(nameB k).toArray⟩ := hw 3 (by kernel_rfl)
      obtain ⟨a, h0, hca⟩ : kindR14V g n k 0 (u 0) w := hw 0 (by kernel_rfl)
      dsimp only
      rw [h3, h0]
      go_simp
      refine (Tryz.slices_Index_string a 0 12 12 namesB _ w (by decide) (by omega) (fun j hj => ?_)).mono ?_
      · have hj : j < 12 := hj
        rw [Nat.zero_add, hca j hj]
        exact names_cell j hj
      rintro e w1 ⟨rfl, rfl⟩
      rw [show namesB.take 12 = namesB from rfl, HI.out]
      exact ⟨rfl, hS, Below.refl _ _⟩
    · have e := Option.some.inj (ho : some _ = some oo)
      subst e
      clear ho
      refine Or.inl ⟨by rfl, ?_⟩
      have h4 : u 4 = .int .i64 (k - 4) := hw 4 (by kernel_rfl)
      dsimp only
      rw [h4]
      go_simp
      first | exact ⟨rfl, hS, Below.refl _ w⟩ | exact ⟨rfl, Below.refl _ w⟩ | exact ⟨hS, Below.refl _ w⟩ | exact Below.refl _ w
  · intro w u hS hV
    have h5 : u 5 = .int .i64 (k - 4) := hV 5 (by omega)
    rw [h5]
    exact HQ.out w _ _ _ _ _ hS
end Go.Proofs.YtpcejpcbkjnlkaaGreatDoor

namespace Go.Proofs.YtpcejpcbkjnlkaaGreatDoor
open Go.RowKit

def strV (ws : List (List UInt8)) : List Value := ws.map fun v => .string ⟨v.toArray⟩
theorem strV_get (ws : List (List UInt8)) (i : Nat) (hi : i < ws.length) : (strV ws).toArray[i]? = some (.string ⟨ws[i].toArray⟩) := by simp [strV, hi]
theorem results_cell_tmp2 {P : Program} {fn : Func} {p u v : Tmp} {ty : TypeId} (h : fn.results = #[.cell p ty, .tmp u, .tmp v]) (tmps : Array Value) (w : World) (g : Nat) (t : TypeId) (cs : Array Value) (d : TypeDesc)
    (hp : tmps.getD p undef = .pointer (some ⟨g, 0, none⟩)) (hg : Blk w g t cs)
    (hu : P.underlying ty = some d) (hd : (match d with | .struct _ | .array _ _ => true | _ => false) = true) (hi : (P.info? ty).map (·.size) = some cs.size) :
    (results fn tmps).run P w = .ok (.tuple #[.agg cs, tmps.getD u undef, tmps.getD v undef]) w := by
  have e : (results fn tmps).run P w = ((asAddr (tmps.getD p undef)).run P w).andThen fun a w₁ => ((loadVar ty a).run P w₁).andThen fun v' w₂ => .ok (.tuple #[v', tmps.getD u undef, tmps.getD v undef]) w₂ := by
    simp only [results, h]
    simp [Sem.run_bind, Result.andThen]
  rw [e, hp]
  simp [asAddr, Result.andThen, run_loadVar_row w g t ty cs (0, 0) d hg hu hd hi]
theorem results_row_tmp1 {P : Program} {fn : Func} {p u : Tmp} {ty : TypeId} (h : fn.results = #[.cell p ty, .tmp u]) (tmps : Array Value) (w : World) (g : Nat) (t : TypeId) (cs : Array Value) (d : TypeDesc)
    (hp : tmps.getD p undef = .pointer (some ⟨g, 0, none⟩)) (hg : Blk w g t cs)
    (hu : P.underlying ty = some d) (hd : (match d with | .struct _ | .array _ _ => true | _ => false) = true) (hi : (P.info? ty).map (·.size) = some cs.size) :
    (results fn tmps).run P w = .ok (.tuple #[.agg cs, tmps.getD u undef]) w := by
  rw [results_cell_tmp h, hp]
  simp [asAddr, Result.andThen, run_loadVar_row w g t ty cs (0, 0) d hg hu hd hi]
theorem form_k {op k : Int} {f : Frm} (h : formF op k = some f) : f.k = false → op ≠ 18 ∧ op ≠ 2 ∧ op ≠ 11 := by
  refine form_case (P := fun op f => f.k = false → op ≠ 18 ∧ op ≠ 2 ∧ op ≠ 11) h ?_ ?_ ?_ ?_ ?_ ?_ ?_ ?_ ?_ ?_ ?_ ?_ ?_ ?_ ?_ ?_ ?_ ?_ ?_ <;> (intro e; first | (cases e; done) | decide)
theorem kindW_word {b k l q : Int} {f : Frm} {x : Ins} (hf : formF x.op x.k = some f) (ho : FormOk b k l q f x) (hk : f.k = true) : ∃ W, kindW f x = [W] ∧ ((x.op = 18 ∧ (1 ≤ x.k ∧ x.k ≤ 2) ∧ W = if x.k = 1 then [105, 110] else [111, 117, 116]) ∨ (x.op ≠ 18 ∧ (4 ≤ x.k ∧ x.k ≤ 15) ∧ W = nameB x.k)) := by
  unfold kindW
  by_cases h18 : x.op = 18
  · rw [if_pos h18]
    exact ⟨_, rfl, Or.inl ⟨h18, (ho.ex.2.2.2.2 h18).1, rfl⟩⟩
  · rw [if_neg h18, hk, if_pos rfl]
    refine ⟨_, rfl, Or.inr ⟨h18, ?_, rfl⟩⟩
    rcases (form_small hf).2.2.2.2.2.2.2 hk with e | e | e
    · exact args_range (ho.ex.1 (.inl e)).1
    · exact args_range (ho.ex.1 (.inr e)).1
    · exact absurd e h18
theorem below_keeps3 {a b c : World} {g : Nat} (h : Below a.heap.size a b) (k : Keeps (· = g) b c) (hg : a.heap.size ≤ g) : Below a.heap.size a c :=
  ⟨k.os.trans h.os, k.tape.trans h.tape, k.output.trans h.output, Nat.le_trans h.size k.size, fun i hi => (k.block i (by have := h.size; omega) (fun e => by have e : i = g := e; omega)).trans (h.block i hi)⟩
theorem below_keeps2 {a b c : World} {g : Nat} (h : Below a.heap.size a b) (k : Keeps (· = g) b c) (hg : g = a.heap.size) : Below a.heap.size a c := below_keeps3 h k (by omega)
set_option maxRecDepth 100000 in
set_option maxHeartbeats 16000000 in
theorem kind_any {b k l q : Int} (x : Ins) (f : Frm) (hf : formF x.op x.k = some f) (ho : FormOk b k l q f x) (g n : Nat) (rest : List (List UInt8)) (hrest : rest = restW f x) (w : World) (hg : Blk w g 9 (strV (f.word :: rest)).toArray) (hn : n = rest.length + 1) (hn1 : n ≤ 100) :
    Calls Tryz.prog 50 #[.slice (some ⟨g, 0, none⟩) n n] w fun e w' => e = .returned (.tuple #[.agg #[.int .i64 x.op, .int .i64 x.k, .int .i64 0, .int .i64 0, .int .i64 0, .int .i64 0, .int .i64 0, .int .i64 0, .int .i64 0], .int .i64 ((1 + (kindW f x).length : Nat) : Int), .bool true]) ∧ Below w.heap.size w w' := by
  have hi9 : (Tryz.prog.info? 44).map (·.size) = some 9 := by kernel_rfl
  have hi9f : (Tryz.prog.info? 104).map (·.size) = some 9 := by kernel_rfl
  have HG := Lib.hid hg
  have HRS := Lib.hid hrest
  have HF := Lib.hid hf
  have HO := Lib.hid ho
  have HB0 := Lib.hid ((Below.refl w.heap.size w).alloc (Nat.le_refl _) (.cells #[.int .i64 0, .int .i64 0, .int .i64 0, .int .i64 0, .int .i64 0, .int .i64 0, .int .i64 0, .int .i64 0, .int .i64 0] 44))
  have HR0 := Lib.hid (Blk.new w 44 #[.int .i64 0, .int .i64 0, .int .i64 0, .int .i64 0, .int .i64 0, .int .i64 0, .int .i64 0, .int .i64 0, .int .i64 0])
  have HNN := Lib.hid hn
  have hop := form_op hf
  clear hg hf ho hrest hn
  go_enter Tryz.func50, Tryz.ntmps50
  go_upto_region 1 with (fail)
  obtain ⟨W0, hW0⟩ : ∃ W0, W0 = w.alloc (.cells #[.int .i64 0, .int .i64 0, .int .i64 0, .int .i64 0, .int .i64 0, .int .i64 0, .int .i64 0, .int .i64 0, .int .i64 0] 44) := ⟨_, rfl⟩
  have z0 : w.heap.size < W0.heap.size := by rw [hW0]; simp
  rw [← hW0] at HB0 HR0 ⊢
  clear hW0
  obtain ⟨R, hR⟩ : ∃ R, R = w.heap.size := ⟨_, rfl⟩
  rw [← hR] at HR0 ⊢
  have HRw := Lib.hid hR
  clear hR
  go_wp2_with fail
  go_loopw [5] (fun ov wr => ∃ o : Int, 1 ≤ o ∧ o ≤ x.op ∧ ov = .int .i64 o ∧ Below W0.heap.size W0 wr) (fun ov _ => (20 - intOf ov).toNat)
  case atStart => exact ⟨1, by omega, by omega, rfl, Below.refl _ _⟩
  obtain ⟨o, h1, h2, rfl, hbr⟩ := hrel
  have HBr := Lib.hid hbr
  have zr := hbr.size
  clear hbr
  obtain ⟨fo, hfo⟩ := form_all (op := o) ⟨h1, by omega⟩
  have HFO := Lib.hid (fun W => AE.form_any W ⟨o, 0, 0, 0, 0, 0, 0, 0, 0⟩ fo hfo (fun _ => Or.inl rfl))
  have HX := Lib.hid (Blk.new wr 44 #[.int .i64 o, .int .i64 0, .int .i64 0, .int .i64 0, .int .i64 0, .int .i64 0, .int .i64 0, .int .i64 0, .int .i64 0])
  have HBX := Lib.hid (HBr.out.alloc zr (.cells #[.int .i64 o, .int .i64 0, .int .i64 0, .int .i64 0, .int .i64 0, .int .i64 0, .int .i64 0, .int .i64 0, .int .i64 0] 44))
  have hgw : Hid (∀ W, Below W0.heap.size W0 W → Blk W g 9 (strV (f.word :: rest)).toArray ∧ Blk W R 44 #[.int .i64 0, .int .i64 0, .int .i64 0, .int .i64 0, .int .i64 0, .int .i64 0, .int .i64 0, .int .i64 0, .int .i64 0]) := Lib.hid (fun W hb => ⟨HG.out.below (HB0.out.trans (hb.mono (by omega))) HG.out.lt, HR0.out.below hb HR0.out.lt⟩)
  unfold Ins.cells Frm.cells at HFO
  have ho19 : o ≤ 19 := by omega
  have HFo := Lib.hid hfo
  clear hfo
  go_wp2_with fail
  refine (HFO.out _).mono ?_
  rintro e w3 ⟨rfl, hb3⟩
  have HX3 := Lib.hid (HX.out.below hb3 HX.out.lt)
  have HB3 := Lib.hid (HBX.out.trans (hb3.mono HBX.out.size))
  have HF3 := Lib.hid (Blk.new w3 104 #[.string ⟨fo.word.toArray⟩, .bool fo.k, .int .i64 fo.d, .int .i64 fo.a, .int .i64 fo.b, .int .i64 fo.c, .int .i64 fo.n, .int .i64 fo.m, .bool fo.p])
  have z3 : wr.heap.size < w3.heap.size := by have := hb3.size; simp at this; omega
  clear hb3 HX HBX HFO
  go_upto_region 6 with (fail)
  have HB4 := Lib.hid (HB3.out.alloc (by omega) (.cells #[.string ⟨fo.word.toArray⟩, .bool fo.k, .int .i64 fo.d, .int .i64 fo.a, .int .i64 fo.b, .int .i64 fo.c, .int .i64 fo.n, .int .i64 fo.m, .bool fo.p] 104))
  have HX4 := Lib.hid (HX3.out.alloc (.cells #[.string ⟨fo.word.toArray⟩, .bool fo.k, .int .i64 fo.d, .int .i64 fo.a, .int .i64 fo.b, .int .i64 fo.c, .int .i64 fo.n, .int .i64 fo.m, .bool fo.p] 104))
  obtain ⟨W4, hW4⟩ : ∃ W4, W4 = w3.alloc (.cells #[.string ⟨fo.word.toArray⟩, .bool fo.k, .int .i64 fo.d, .int .i64 fo.a, .int .i64 fo.b, .int .i64 fo.c, .int .i64 fo.n, .int .i64 fo.m, .bool fo.p] 104) := ⟨_, rfl⟩
  rw [← hW4] at HB4 HX4 HF3 ⊢
  have z4 : w3.heap.size < W4.heap.size := by rw [hW4]; simp
  clear hW4 HB3 HX3
  have f0 : W4.cell? ⟨w3.heap.size, 0, none⟩ = some (.string ⟨fo.word.toArray⟩) := HF3.out.cell 0
  have g0 : W4.cell? ⟨g, 0, none⟩ = some (.string ⟨f.word.toArray⟩) := (hgw.out _ HB4.out).1.cell 0
  have hn0 : 0 < n := by have := HNN.out; omega
  by_cases hox : o = x.op
  case neg =>
    have hne : (fo.word == f.word) = false := beq_eq_false_iff_ne.2 (word_ne HF.out ⟨h1, ho19⟩ HFo.out hox)
    have hlt : o < x.op := by omega
    clear hox
    go_quiet (fail)
    have HB5 : Hid (Below W0.heap.size W0 (W4.drewN nq)) := Lib.hid (HB4.out.trans ⟨rfl, rfl, rfl, Nat.le_refl _, fun _ _ => rfl⟩)
    generalize W4.drewN nq = w5 at *
    go_wp2_with fail
    go_roundw
    case rel => exact ⟨o + 1, by omega, by omega, by go_num, HB5.out⟩
    case measure => simp [intOf]; omega
  case pos =>
    obtain ⟨f0', hf0', e1, e2⟩ := form_zero HF.out
    obtain rfl : fo = f0' := Option.some.inj (HFo.out.symm.trans (by rw [hox]; exact hf0'))
    rw [e1] at f0
    have f1 : W4.cell? ⟨w3.heap.size, 1, none⟩ = some (.bool f.k) := by rw [← e2]; exact HF3.out.cell 1
    clear e1 e2 hf0' HFo
    have HOX := Lib.hid hox
    subst hox
    go_quiet (fail)
    have HB5 : Hid (Below W0.heap.size W0 (W4.drewN nq)) := Lib.hid (HB4.out.trans ⟨rfl, rfl, rfl, Nat.le_refl _, fun _ _ => rfl⟩)
    have HX5 : Hid (Blk (W4.drewN nq) wr.heap.size 44 #[.int .i64 x.op, .int .i64 0, .int .i64 0, .int .i64 0, .int .i64 0, .int .i64 0, .int .i64 0, .int .i64 0, .int .i64 0]) := Lib.hid HX4.out
    have f1 : (W4.drewN nq).cell? ⟨w3.heap.size, 1, none⟩ = some (.bool f.k) := f1
    have HGR := Lib.hid (hgw.out _ HB5.out)
    clear f0 g0 HB4 HX4 HF3
    generalize W4.drewN nq = w5 at *
    have HBw := Lib.hid (HB0.out.trans (HB5.out.mono (by omega)))
    have hXR : wr.heap.size ≠ R := by have := HR0.out.lt; omega
    have hX5 := HX5.out.lt
    cases hfk : f.k with
    | false =>
      rw [hfk] at f1
      have hk0 := HO.out.k hfk
      have HK0 := Lib.hid hk0
      have HKW : Hid (kindW f x = []) := Lib.hid (by
        unfold kindW
        rw [if_neg (form_k HF.out hfk).1, hfk, if_neg (by decide)])
      clear hfk hk0
      go_wp2_with (first | (refine wpList_load_blk rfl 44 _ rfl wr.heap.size rfl 44 _ _ HX5.out Tryz.underlying44 rfl hi9 ?_) | (refine wpList_store_blk rfl 44 _ _ rfl R _ rfl rfl 44 _ HGR.out.2 hi9 rfl (by simp [Value.oneCell']) ?_; intro w7 q7 k7))
      (try simp only [Exit.inBlock, Exit.then])
      refine bodyPost_ret (v := .tuple #[.agg #[.int .i64 x.op, .int .i64 0, .int .i64 0, .int .i64 0, .int .i64 0, .int .i64 0, .int .i64 0, .int .i64 0, .int .i64 0], .int .i64 1, .bool true]) ?_ ?_ ?_
      · exact results_cell_tmp2 (p := 2) (u := 3) (v := 4) (ty := 44) (fn := Tryz.f50) rfl _ _ R 44 #[.int .i64 x.op, .int .i64 0, .int .i64 0, .int .i64 0, .int .i64 0, .int .i64 0, .int .i64 0, .int .i64 0, .int .i64 0] _ rfl q7 Tryz.underlying44 rfl hi9
      · rfl
      · rw [HK0.out, HKW.out]
        exact ⟨rfl, below_keeps2 HBw.out k7 HRw.out⟩
    | true =>
      rw [hfk] at f1
      obtain ⟨W, hW, hcase⟩ := kindW_word HF.out HO.out hfk
      have HKW := Lib.hid hW
      obtain ⟨rs, hrs⟩ : ∃ rs, rest = W :: rs := by
        rw [HRS.out]
        unfold restW
        rw [hW]
        exact ⟨_, rfl⟩
      have hn2 : 2 ≤ n := by have := HNN.out; rw [hrs, List.length_cons] at this; omega
      have g1 : w5.cell? ⟨g, 1, none⟩ = some (.string ⟨W.toArray⟩) := by
        have := HGR.out.1.cell 1
        rw [hrs] at this
        exact this
      clear hfk hW hrs
      rcases hcase with ⟨h18, hk12, hWk⟩ | ⟨h18, hk415, hWk⟩
      · have t18 : (x.op == 18) = true := by simpa using h18
        have HA := Lib.hid ((Below.refl w5.heap.size w5).alloc (Nat.le_refl _) (.cells #[.string ⟨#[105, 110]⟩, .string ⟨#[111, 117, 116]⟩] 9))
        have HXA := Lib.hid (HX5.out.below HA.out HX5.out.lt)
        have HRA := Lib.hid (HGR.out.2.below HA.out HGR.out.2.lt)
        have ga : (w5.alloc (.cells #[.string ⟨#[105, 110]⟩, .string ⟨#[111, 117, 116]⟩] 9)).cell? ⟨g, 1, none⟩ = some (.string ⟨W.toArray⟩) := below_cell HA.out g1
        have x1 : (w5.alloc (.cells #[.string ⟨#[105, 110]⟩, .string ⟨#[111, 117, 116]⟩] 9)).cell? ⟨wr.heap.size, 1, none⟩ = some (.int .i64 0) := HXA.out.cell 1
        have y1 : (w5.alloc (.cells #[.string ⟨#[105, 110]⟩, .string ⟨#[111, 117, 116]⟩] 9)).frozen? ⟨wr.heap.size, 1, none⟩ = false := HXA.out.frozen 1
        have HIO := Lib.hid (in_out hk12)
        rw [← hWk] at HIO
        have HIX := Lib.hid (Tryz.slices_Index_string w5.heap.size 0 2 2 [⟨#[105, 110]⟩, ⟨#[111, 117, 116]⟩] ⟨W.toArray⟩ (w5.alloc (.cells #[.string ⟨#[105, 110]⟩, .string ⟨#[111, 117, 116]⟩] 9)) (by decide) (by omega) (fun j hj => by
          have hj : j < 2 := hj
          have hb := (Blk.new w5 9 #[.string ⟨#[105, 110]⟩, .string ⟨#[111, 117, 116]⟩]).cell (0 + j)
          rw [hb]
          rcases (show j = 0 ∨ j = 1 by omega) with rfl | rfl <;> rfl))
        have e1 : wrap64 x.k = x.k := IntWalk.wrap64_in _ ⟨by omega, by omega⟩
        have HK12 := Lib.hid hk12
        clear h18 hk12 hWk g1
        go_wp2_with fail
        refine HIX.out.mono ?_
        rintro e w6 ⟨rfl, rfl⟩
        rw [show ([⟨#[105, 110]⟩, ⟨#[111, 117, 116]⟩] : List ByteArray).take 2 = [⟨#[105, 110]⟩, ⟨#[111, 117, 116]⟩] from rfl, HIO.out]
        generalize hwa : w5.alloc (.cells #[.string ⟨#[105, 110]⟩, .string ⟨#[111, 117, 116]⟩] 9) = wa at *
        clear hwa HIX
        have HX6 := Lib.hid (HXA.out.set_ 1 (.int .i64 x.k))
        have HK6 := Lib.hid (Keeps.setCell (p := ⟨wr.heap.size, 1, none⟩) (Keeps.refl (· = wr.heap.size) wa) (fun _ => rfl) (.int .i64 x.k))
        go_upto_region 13 with (fail)
        refine kindR13_ok _ (r := R) (m := wr.heap.size) (o := x.op) (k := x.k) _ HX6.out ⟨_, rfl, HK6.out.blk HRA.out (fun e => hXR e.symm)⟩ hXR (by have := HK12.out; omega) ?_
        intro w7 y44 y45 y46 y47 hb7 hk7
        (try go_wp2_with fail)
        (try simp only [Exit.inBlock, Exit.then])
        refine bodyPost_ret (v := .tuple #[.agg #[.int .i64 x.op, .int .i64 x.k, .int .i64 0, .int .i64 0, .int .i64 0, .int .i64 0, .int .i64 0, .int .i64 0, .int .i64 0], .int .i64 2, .bool true]) ?_ ?_ ?_
        · exact results_cell_tmp2 (p := 2) (u := 3) (v := 4) (ty := 44) (fn := Tryz.f50) rfl _ _ R 44 #[.int .i64 x.op, .int .i64 x.k, .int .i64 0, .int .i64 0, .int .i64 0, .int .i64 0, .int .i64 0, .int .i64 0, .int .i64 0] _ rfl hb7 Tryz.underlying44 rfl hi9
        · rfl
        · rw [HKW.out]
          refine ⟨rfl, below_keeps2 (below_keeps3 (HBw.out.trans (HA.out.mono ?_)) HK6.out ?_) hk7 HRw.out⟩
          · have := HBw.out.size; omega
          · have := HRw.out; omega
      · have t18 : (x.op == 18) = false := by simpa using h18
        have hn1' : 1 < n := by omega
        rw [hWk] at g1
        clear h18 hWk
        go_upto_region 14 with (fail)
        refine kindR14_ok w5 (g := g) (n := n) (k := x.k) _ hn1' g1 hk415 ?_
        intro w6 y48 y49 y50 y51 y52 hb6
        have HX6 := Lib.hid (HX5.out.below hb6 HX5.out.lt)
        have HR6 := Lib.hid (HGR.out.2.below hb6 HGR.out.2.lt)
        have HB6 := Lib.hid (HBw.out.trans (hb6.mono (by have := HBw.out.size; omega)))
        have x1 : w6.cell? ⟨wr.heap.size, 1, none⟩ = some (.int .i64 0) := HX6.out.cell 1
        have y1 : w6.frozen? ⟨wr.heap.size, 1, none⟩ = false := HX6.out.frozen 1
        have e1 : wrap64 (4 + (x.k - 4)) = x.k := (IntWalk.wrap64_in _ ⟨by omega, by omega⟩).trans (by omega)
        have e3 : IntKind.i64.wrap (4 + (x.k - 4)) = x.k := (IntWalk.i64_in _ ⟨by omega, by omega⟩).trans (by omega)
        have e2 : decide (0 ≤ x.k - 4) = true := by simp; omega
        clear hb6 g1
        go_upto_region 16 with (fail)
        have HX7 : Hid (Blk (w6.setCell ⟨wr.heap.size, 1, none⟩ (.int .i64 x.k)) wr.heap.size 44 #[.int .i64 x.op, .int .i64 x.k, .int .i64 0, .int .i64 0, .int .i64 0, .int .i64 0, .int .i64 0, .int .i64 0, .int .i64 0]) := Lib.hid (HX6.out.set_ 1 (.int .i64 x.k))
        have HK7 := Lib.hid (Keeps.setCell (p := ⟨wr.heap.size, 1, none⟩) (Keeps.refl (· = wr.heap.size) w6) (fun _ => rfl) (.int .i64 x.k))
        have HR7 := Lib.hid (HK7.out.blk HR6.out (fun e => hXR e.symm))
        (try rw [show (4 + (x.k - 4) : Int) = x.k by omega])
        generalize w6.setCell ⟨wr.heap.size, 1, none⟩ (.int .i64 x.k) = w7 at *
        clear x1 y1
        go_wp2_with (first | (refine wpList_load_blk rfl 44 _ rfl wr.heap.size rfl 44 _ _ HX7.out Tryz.underlying44 rfl hi9 ?_) | (refine wpList_store_blk rfl 44 _ _ rfl R _ rfl rfl 44 _ HR7.out hi9 rfl (by simp [Value.oneCell']) ?_; intro w8 q8 k8))
        (try simp only [Exit.inBlock, Exit.then])
        refine bodyPost_ret (v := .tuple #[.agg #[.int .i64 x.op, .int .i64 x.k, .int .i64 0, .int .i64 0, .int .i64 0, .int .i64 0, .int .i64 0, .int .i64 0, .int .i64 0], .int .i64 2, .bool true]) ?_ ?_ ?_
        · exact results_cell_tmp2 (p := 2) (u := 3) (v := 4) (ty := 44) (fn := Tryz.f50) rfl _ _ R 44 #[.int .i64 x.op, .int .i64 x.k, .int .i64 0, .int .i64 0, .int .i64 0, .int .i64 0, .int .i64 0, .int .i64 0, .int .i64 0] _ rfl q8 Tryz.underlying44 rfl hi9
        · rfl
        · rw [HKW.out]
          refine ⟨rfl, below_keeps2 (below_keeps3 HB6.out HK7.out ?_) k8 HRw.out⟩
          have := HRw.out; omega
end Go.Proofs.YtpcejpcbkjnlkaaGreatDoor

namespace Go.Proofs.YtpcejpcbkjnlkaaGreatDoor
open Go.RowKit

theorem word_at (f : Frm) (x : Ins) (i : Nat) : (f.word :: restW f x)[1 + (kindW f x).length + i]? = ((fieldsF f x).map fieldW ++ ifW x)[i]? := by
  rw [show 1 + (kindW f x).length + i = ((kindW f x).length + i) + 1 by omega, List.getElem?_cons_succ]
  unfold restW
  rw [List.append_assoc, List.getElem?_append_right (by omega), Nat.add_sub_cancel_left]
  rfl
theorem strV_at (ws : List (List UInt8)) (i : Nat) (v : List UInt8) (h : ws[i]? = some v) : (strV ws).toArray[i]? = some (.string ⟨v.toArray⟩) := by simp [strV, h]
theorem word_field (f : Frm) (x : Ins) (i : Nat) (hi : i < (fieldsF f x).length) : ((fieldsF f x).map fieldW ++ ifW x)[i]? = some (letterB (fieldsF f x)[i].1 ++ Lib.itoa (fieldsF f x)[i].2) := by
  rw [List.getElem?_append_left (by simpa using hi)]
  simp [hi, fieldW]
theorem word_if (f : Frm) (x : Ins) (hp : x.p ≠ 0) : ((fieldsF f x).map fieldW ++ ifW x)[(fieldsF f x).length]? = some [105, 102] ∧ ((fieldsF f x).map fieldW ++ ifW x)[(fieldsF f x).length + 1]? = some ([114] ++ Lib.itoa (x.p - 1)) := by
  unfold ifW
  rw [if_neg hp]
  constructor
  · rw [List.getElem?_append_right (by simp)]
    simp
  · rw [List.getElem?_append_right (by simp)]
    simp
theorem restW_length (f : Frm) (x : Ins) : (restW f x).length = (kindW f x).length + ((fieldsF f x).length + (ifW x).length) := by
  unfold restW
  rw [List.length_append, List.length_append, List.length_map]
  omega
theorem cutPrefix_any (a b : List UInt8) (w : World) : Calls Tryz.prog 51 #[.string ⟨(a ++ b).toArray⟩, .string ⟨a.toArray⟩] w fun e w' => e = .returned (.tuple #[.string ⟨b.toArray⟩, .bool true]) ∧ w = w' := by
  refine (Tryz.strings_CutPrefix ⟨(a ++ b).toArray⟩ ⟨a.toArray⟩ w).mono ?_
  rintro e w' ⟨rfl, rfl⟩
  rw [show (⟨(a ++ b).toArray⟩ : ByteArray).data.toList = a ++ b by simp, show (⟨a.toArray⟩ : ByteArray).data.toList = a by simp, hasPrefix_app, trimPrefix_app]
  exact ⟨rfl, rfl⟩
theorem readF_cell (z : Ins) (o : Nat) (h : o = 2 ∨ o = 3 ∨ o = 4 ∨ o = 5 ∨ o = 7 ∨ o = 8) : ∃ old, z.cells[o]? = some (.int .i64 old) := by
  rcases h with rfl | rfl | rfl | rfl | rfl | rfl <;> exact ⟨_, rfl⟩
theorem succ_facts (i i1 m : Nat) (h : i ≤ 6) (h1 : i1 = i + 1) (hm : m = i + 2) : wrap64 ((i : Int) + 1) = (i1 : Int) ∧ IntKind.i64.wrap ((i : Int) + 1) = (i1 : Int) ∧ i1 < m :=
  ⟨(IntWalk.wrap64_in _ ⟨by omega, by omega⟩).trans (by omega), (IntWalk.i64_in _ ⟨by omega, by omega⟩).trans (by omega), by omega⟩
theorem pred_facts (p : Int) (h : 0 ≤ p ∧ p ≤ 16) (hp : p ≠ 0) : wrap64 (p - 1 + 1) = p ∧ (p - 1 == -1) = false ∧ -2147483649 ≤ p - 1 ∧ p - 1 ≤ 2147483649 ∧ p - 1 ≤ 2147483647 ∧ wrap64 p = p :=
  ⟨(IntWalk.wrap64_in _ ⟨by omega, by omega⟩).trans (by omega), beq_eq_false_iff_ne.2 (by omega), by omega, by omega, by omega, IntWalk.wrap64_in _ ⟨by omega, by omega⟩⟩
/-- the word that package bytealg reads lies in the world -/
def Mx (w : World) : Prop := ∃ m : Int, w.cell? ⟨0, 0, none⟩ = some (.int .i64 m)
theorem Mx.below {w w' : World} (h : Mx w) (hb : Below w.heap.size w w') : Mx w' := by
  obtain ⟨m, h⟩ := h
  exact ⟨m, below_cell hb h⟩
theorem split_any (f : Frm) (x : Ins) (hf : formF x.op x.k = some f) (hs : Short x) (w : World) (hm : Mx w) (n : Nat) (hn : n = (restW f x).length + 1) :
    Calls Tryz.prog 49 #[.string ⟨(lineB f x).toArray⟩, .string ⟨#[32]⟩] w fun e w' => e = .returned (.slice (some ⟨w.heap.size, 0, none⟩) n n) ∧ w' = w.alloc (.cells (strV (f.word :: restW f x)).toArray 9) := by
  obtain ⟨m, hm⟩ := hm
  have hl := (line_len hf hs).2
  have hsz : (⟨(lineB f x).toArray⟩ : ByteArray).size < 4294967281 := by
    show (lineB f x).toArray.size < _
    simp only [List.size_toArray]
    omega
  have hc : Lib.countB ⟨(lineB f x).toArray⟩ ⟨#[32]⟩ = (restW f x).length := by
    have := line_count hf
    simpa [Lib.countB] using this
  refine (Tryz.strings_Split ⟨(lineB f x).toArray⟩ ⟨#[32]⟩ m w hsz hm (by decide)).mono ?_
  rintro e w' ⟨rfl, rfl⟩
  rw [hc, line_split hf, hn]
  refine ⟨rfl, ?_⟩
  unfold strV
  rw [List.map_map]
  rfl
set_option maxRecDepth 100000 in
set_option maxHeartbeats 16000000 in
theorem readLine_any {b k l q : Int} (x : Ins) (f : Frm) (hf : formF x.op x.k = some f) (ho : FormOk b k l q f x) (hkn : AE.Known x) (hs : Short x) (w : World) (hm : Mx w) (ht : Tb w) :
    Calls Tryz.prog 23 #[.string ⟨(lineB f x).toArray⟩] w fun e w' => e = .returned (.tuple #[.agg #[.int .i64 x.op, .int .i64 x.k, .int .i64 x.d, .int .i64 x.a, .int .i64 x.b, .int .i64 x.c, .int .i64 x.p, .int .i64 x.n, .int .i64 x.m], .bool true]) ∧ Below w.heap.size w w' := by
  have hi9 : (Tryz.prog.info? 44).map (·.size) = some 9 := by kernel_rfl
  have hi9f : (Tryz.prog.info? 104).map (·.size) = some 9 := by kernel_rfl
  have HM := Lib.hid hm
  have HT := Lib.hid ht
  have HF := Lib.hid hf
  have HO := Lib.hid ho
  have HS := Lib.hid hs
  obtain ⟨n, hn⟩ : ∃ n, n = (restW f x).length + 1 := ⟨_, rfl⟩
  have HSP := Lib.hid (fun W h => split_any f x hf hs W h n hn)
  have hnl : n ≤ 100 := by
    have h3 := kindW_len f x
    have h4 := ifW_len x
    have h5 := fieldsF_len f x
    rw [hn, restW_length]
    omega
  have HKD := Lib.hid (fun W g h => kind_any x f hf ho g n (restW f x) rfl W h hn hnl)
  have HFO := Lib.hid (fun W => AE.form_any W ⟨x.op, x.k, 0, 0, 0, 0, 0, 0, 0⟩ f hf hkn)
  have HB0 := Lib.hid ((Below.refl w.heap.size w).alloc (Nat.le_refl _) (.cells #[.int .i64 0, .int .i64 0, .int .i64 0, .int .i64 0, .int .i64 0, .int .i64 0, .int .i64 0, .int .i64 0, .int .i64 0] 44))
  have HR0 := Lib.hid (Blk.new w 44 #[.int .i64 0, .int .i64 0, .int .i64 0, .int .i64 0, .int .i64 0, .int .i64 0, .int .i64 0, .int .i64 0, .int .i64 0])
  obtain ⟨k0, hk0⟩ : ∃ k0, k0 = 1 + (kindW f x).length := ⟨_, rfl⟩
  obtain ⟨m, hmm⟩ : ∃ m, m = (fieldsF f x).length + (ifW x).length := ⟨_, rfl⟩
  have hnk : n = k0 + m := by rw [hn, restW_length, hk0, hmm]; omega
  rw [← hk0] at HKD
  have HNK := Lib.hid hnk
  have HK0 := Lib.hid hk0
  have HMM := Lib.hid hmm
  have hk01 : 1 ≤ k0 := by omega
  have hk0n : k0 ≤ n := by omega
  unfold Ins.cells Frm.cells at HFO
  obtain ⟨S, hS⟩ : ∃ S : ByteArray, S = ⟨(lineB f x).toArray⟩ := ⟨_, rfl⟩
  rw [← hS] at HSP ⊢
  clear hm ht hf ho hs hkn hn hk0 hmm hnk hS
  go_enter Tryz.func23, Tryz.ntmps23
  go_upto_region 1 with (fail)
  obtain ⟨R, hR⟩ : ∃ R, R = w.heap.size := ⟨_, rfl⟩
  have HRw := Lib.hid hR
  have HM0 := Lib.hid (HM.out.below HB0.out)
  have HT0 := Lib.hid (HT.out.below HB0.out)
  obtain ⟨W0, hW0⟩ : ∃ W0, W0 = w.alloc (.cells #[.int .i64 0, .int .i64 0, .int .i64 0, .int .i64 0, .int .i64 0, .int .i64 0, .int .i64 0, .int .i64 0, .int .i64 0] 44) := ⟨_, rfl⟩
  have z0 : R < W0.heap.size := by rw [hR, hW0]; simp
  rw [← hW0] at HB0 HR0 HM0 HT0 ⊢
  rw [← hR] at HR0 ⊢
  clear hW0 hR HM HT
  go_wp2_with fail
  refine (HSP.out W0 HM0.out).mono ?_
  rintro e w1 ⟨rfl, rfl⟩
  have HG1 := Lib.hid (Blk.new W0 9 (strV (f.word :: restW f x)).toArray)
  have HB1 := Lib.hid ((Below.refl W0.heap.size W0).alloc (Nat.le_refl _) (.cells (strV (f.word :: restW f x)).toArray 9))
  have zG : R < W0.heap.size := z0
  obtain ⟨W1, hW1⟩ : ∃ W1, W1 = W0.alloc (.cells (strV (f.word :: restW f x)).toArray 9) := ⟨_, rfl⟩
  rw [← hW1] at HG1 HB1 ⊢
  clear hW1
  go_wp2_with fail
  refine (HKD.out W1 _ HG1.out).mono ?_
  rintro e w2 ⟨rfl, hb2⟩
  have HG2 := Lib.hid (HG1.out.below hb2 HG1.out.lt)
  have HB2 := Lib.hid (HB1.out.trans (hb2.mono HB1.out.size))
  have z2 := HG2.out.lt
  clear hb2 HKD HSP HG1 HB1
  go_upto_region 5 with (fail)
  have HX3 := Lib.hid (Blk.new w2 44 #[.int .i64 x.op, .int .i64 x.k, .int .i64 0, .int .i64 0, .int .i64 0, .int .i64 0, .int .i64 0, .int .i64 0, .int .i64 0])
  have HB3 := Lib.hid (HB2.out.alloc HB2.out.size (.cells #[.int .i64 x.op, .int .i64 x.k, .int .i64 0, .int .i64 0, .int .i64 0, .int .i64 0, .int .i64 0, .int .i64 0, .int .i64 0] 44))
  have HG3 := Lib.hid (HG2.out.alloc (.cells #[.int .i64 x.op, .int .i64 x.k, .int .i64 0, .int .i64 0, .int .i64 0, .int .i64 0, .int .i64 0, .int .i64 0, .int .i64 0] 44))
  obtain ⟨X, hX⟩ : ∃ X, X = w2.heap.size := ⟨_, rfl⟩
  have zX : W0.heap.size < X := by omega
  have zW : W0.heap.size ≤ X := by rw [hX]; exact HB2.out.size
  obtain ⟨W3, hW3⟩ : ∃ W3, W3 = w2.alloc (.cells #[.int .i64 x.op, .int .i64 x.k, .int .i64 0, .int .i64 0, .int .i64 0, .int .i64 0, .int .i64 0, .int .i64 0, .int .i64 0] 44) := ⟨_, rfl⟩
  rw [← hW3] at HX3 HB3 HG3 ⊢
  rw [← hX] at HX3 ⊢
  clear hW3 hX HB2 HG2 z2
  go_cut [4] (fun v wc => (∃ A, v = .slice A m m ∧ (0 < m → A = some ⟨W0.heap.size, k0, none⟩)) ∧ wc = W3)
  case first =>
    have hkm : n - k0 = m := by have := HNK.out; omega
    by_cases h0 : k0 < n
    · go_wp2_with fail
      go_meet
      case rel => exact ⟨⟨_, rfl, fun _ => rfl⟩, rfl⟩
    · obtain rfl : k0 = n := by omega
      go_wp2_with fail
      go_meet
      case rel => exact ⟨⟨_, rfl, fun h => by omega⟩, rfl⟩
  case rest =>
    obtain ⟨⟨A, rfl, hA⟩, hwc⟩ := hcut
    subst hwc
    have HA := Lib.hid hA
    clear hA
    go_wp2_with (refine wpList_load_blk rfl 44 _ rfl X rfl 44 _ _ HX3.out Tryz.underlying44 rfl hi9 ?_)
    refine (HFO.out _).mono ?_
    rintro e w4 ⟨rfl, hb4⟩
    have HX4 := Lib.hid (HX3.out.below hb4 HX3.out.lt)
    have HG4 := Lib.hid (HG3.out.below hb4 HG3.out.lt)
    have HB4 := Lib.hid (HB3.out.trans (hb4.mono HB3.out.size))
    clear hb4 HX3 HG3 HB3 HFO
    go_upto_region 7 with (fail)
    have HF5 := Lib.hid (Blk.new w4 104 #[.string ⟨f.word.toArray⟩, .bool f.k, .int .i64 f.d, .int .i64 f.a, .int .i64 f.b, .int .i64 f.c, .int .i64 f.n, .int .i64 f.m, .bool f.p])
    have HX5 := Lib.hid (HX4.out.alloc (.cells #[.string ⟨f.word.toArray⟩, .bool f.k, .int .i64 f.d, .int .i64 f.a, .int .i64 f.b, .int .i64 f.c, .int .i64 f.n, .int .i64 f.m, .bool f.p] 104))
    have HG5 := Lib.hid (HG4.out.alloc (.cells #[.string ⟨f.word.toArray⟩, .bool f.k, .int .i64 f.d, .int .i64 f.a, .int .i64 f.b, .int .i64 f.c, .int .i64 f.n, .int .i64 f.m, .bool f.p] 104))
    have HB5 := Lib.hid (HB4.out.alloc HB4.out.size (.cells #[.string ⟨f.word.toArray⟩, .bool f.k, .int .i64 f.d, .int .i64 f.a, .int .i64 f.b, .int .i64 f.c, .int .i64 f.n, .int .i64 f.m, .bool f.p] 104))
    obtain ⟨Fb, hFb⟩ : ∃ Fb, Fb = w4.heap.size := ⟨_, rfl⟩
    obtain ⟨W5, hW5⟩ : ∃ W5, W5 = w4.alloc (.cells #[.string ⟨f.word.toArray⟩, .bool f.k, .int .i64 f.d, .int .i64 f.a, .int .i64 f.b, .int .i64 f.c, .int .i64 f.n, .int .i64 f.m, .bool f.p] 104) := ⟨_, rfl⟩
    rw [← hW5] at HF5 HX5 HG5 HB5 ⊢
    rw [← hFb] at HF5 ⊢
    clear hW5 hFb HX4 HG4 HB4
    go_wp2_with (refine wpList_load_blk rfl 104 _ rfl Fb rfl 104 _ _ HF5.out Tryz.underlying104 rfl hi9f ?_)
    refine (fields_any f X W5).mono ?_
    rintro e w7 ⟨K, A', rfl, hK, hA', hb7⟩
    have HK := Lib.hid hK
    have HAt := Lib.hid hA'
    have HX7 := Lib.hid (HX5.out.below hb7 HX5.out.lt)
    have HG7 := Lib.hid (HG5.out.below hb7 HG5.out.lt)
    have HB7 := Lib.hid (HB5.out.trans (hb7.mono HB5.out.size))
    have HX5l : Hid (X < W5.heap.size) := Lib.hid HX5.out.lt
    obtain ⟨A3, c3, rfl, -, -⟩ := hK.shape
    obtain ⟨A4, c4, rfl, -, -⟩ := hA'.shape
    have HSL := Lib.hid (slots_length f x)
    have HSA := Lib.hid (slots_at f x)
    have HSK := Lib.hid (slots_kind HF.out)
    have HSO := Lib.hid (slots_off f)
    clear hK hA' hb7 HX5 HG5 HB5 HF5
    obtain ⟨N, hN⟩ : ∃ N, N = (slotsF f).length := ⟨_, rfl⟩
    have hN6 : N ≤ 6 := by rw [hN]; exact List.length_filter_le _ _
    rw [← hN] at HK HAt ⊢
    have HN := Lib.hid hN
    clear hN
    have HMP : Hid (m = N + (ifW x).length) := Lib.hid (by rw [HMM.out, HN.out, HSL.out])
    have hm8 : m ≤ 8 := by have := HMP.out; have := ifW_len x; omega
    go_upto_region 8 with (fail)
    go_cut [58] (fun v wd => v = .bool false ∧ wd = w7)
    case first =>
      by_cases hp : x.p = 0
      · have hmN : m = N := by rw [HMP.out]; unfold ifW; rw [if_pos hp]; rfl
        clear hp
        subst hmN
        go_wp2_with fail
        go_meet
        case rel => exact ⟨rfl, rfl⟩
      · have hmN : m = N + 2 := by rw [HMP.out]; unfold ifW; rw [if_neg hp]; rfl
        have hne : ¬ m = N := by omega
        have hb2 : ((m : Int) != (N : Int) + 2) = false := by simp [hmN]
        clear hmN hp
        go_wp2_with fail
        go_meet
        case rel => exact ⟨rfl, rfl⟩
    case rest =>
      obtain ⟨rfl, hwd⟩ := hcut
      subst hwd
      go_wp2_with fail
      go_loopw [62] (fun iv wr => ∃ i : Nat, i ≤ N ∧ iv = .int .i64 i ∧ Blk wr X 44 (readF x ((slotsF f).take i)).cells ∧ Keeps (· = X) wc wr) (fun iv _ => N - (intOf iv).toNat)
      case atStart => exact ⟨0, by omega, rfl, HX7.out, Keeps.refl _ _⟩
      obtain ⟨i, hi, rfl, hx, hkr⟩ := hrel
      have HXr := Lib.hid hx
      have HKr := Lib.hid hkr
      have HGr := Lib.hid (hkr.blk HG7.out (fun e => by have e : W0.heap.size = X := e; omega))
      have HBr := Lib.hid (below_keeps3 HB7.out hkr zW)
      have HTr := Lib.hid (HT0.out.below HBr.out)
      have hzr := hkr.size
      clear hx hkr
      by_cases hlt : i < N
      · have hix : i < (slotsF f).length := by rw [← HN.out]; exact hlt
        obtain ⟨hi', he⟩ := HSA.out i hix
        have HK2 := HK.out.keeps HKr.out (fun g hg e => by have := HX5l.out; omega)
        have HA2 := HAt.out.keeps HKr.out (fun g hg e => by have := HX5l.out; omega)
        obtain ⟨gk, capk, hAk, -, -, -, -⟩ := HK2.form (by omega)
        injection hAk with hA1 hA2 hA3
        subst hA1 hA3
        obtain ⟨ga, capa, hAa, -, -, -, -⟩ := HA2.form (by omega)
        injection hAa with hA1 hA4 hA3
        subst hA1 hA3
        obtain rfl : A = some ⟨W0.heap.size, k0, none⟩ := HA.out (by have := HMP.out; omega)
        have him : i < m := by have := HMP.out; omega
        have d1 := HK2.get i hlt
        have d2 := HA2.get i hlt
        have d3 : wr.cell? ⟨W0.heap.size, k0 + i, none⟩ = some (.string ⟨(letterB (fieldsF f x)[i].1 ++ Lib.itoa (fieldsF f x)[i].2).toArray⟩) := (HGr.out.cell _).trans (strV_at _ _ _ (by rw [HK0.out, word_at]; exact word_field f x i hi'))
        rw [show (ints ((slotsF f).map (·.1)))[i]? = some (.int .i64 (slotsF f)[i].1) by simp [ints, hix]] at d1
        rw [show (ptrL X ((slotsF f).map (·.2)))[i]? = some (.pointer (some ⟨X, (slotsF f)[i].2, none⟩)) by simp [ptrL, hix]] at d2
        rw [he] at d3
        have hkk := HSK.out _ (List.getElem_mem hix)
        have hoo := HSO.out _ (List.getElem_mem hix)
        obtain ⟨v1, v2⟩ := fieldAt_short HS.out (slotsF f)[i].2
        have HNX : Hid (readF x ((slotsF f).take (i + 1)) = putF (readF x ((slotsF f).take i)) (slotsF f)[i].2 (fieldAt x (slotsF f)[i].2)) := Lib.hid (by rw [List.take_succ_eq_append_getElem hix, readF_snoc])
        generalize (slotsF f)[i].1 = kd at *
        generalize (slotsF f)[i].2 = o at *
        generalize fieldAt x o = v at *
        have HOO := Lib.hid hoo
        have hkk5 : Hid (kd = 1 ∨ kd = 2 ∨ kd = 3 ∨ kd = 4 ∨ kd = 5) := Lib.hid hkk
        clear HK2 HA2 hA2 hA4 he hi' hix hkk hoo
        go_upto_region 13 with (fail)
        go_quiet (first
          | (go_at_call 45; exact quiet_left (letter_is kd _ hkk5.out))
          | (go_at_call 51; exact quiet_left (cutPrefix_any (letterB kd) (Lib.itoa v) _)))
        have HX8 : Hid (Blk (wr.drewN nq) X 44 (readF x ((slotsF f).take i)).cells) := Lib.hid HXr.out
        have HK8 : Hid (Keeps (· = X) wc (wr.drewN nq)) := Lib.hid (HKr.out.drewN nq)
        have HT8 : Hid (Tb (wr.drewN nq)) := Lib.hid (HTr.out.below ⟨rfl, rfl, rfl, Nat.le_refl _, fun _ _ => rfl⟩)
        generalize wr.drewN nq = w8 at *
        clear d1 d2 d3 HXr HKr HGr HTr hzr
        go_wp2_with fail
        refine (number_any v (-2147483648) 2147483648 (by omega) (by omega) (by omega) (by omega) w8 HT8.out).mono ?_
        rintro e w9 ⟨rfl, hb9⟩
        have HX9 := Lib.hid (HX8.out.below hb9 HX8.out.lt)
        have HK9 := Lib.hid (HK8.out.tr (Keeps.of_below hb9 (· = X)))
        clear hb9 HX8 HK8 HT8
        obtain ⟨old, hold⟩ := readF_cell (readF x ((slotsF f).take i)) o HOO.out
        have c9 : w9.cell? ⟨X, o, none⟩ = some (.int .i64 old) := (HX9.out.cell o).trans hold
        have y9 : w9.frozen? ⟨X, o, none⟩ = false := HX9.out.frozen o
        have HX10 := Lib.hid (HX9.out.set_ o (.int .i64 v))
        have HK10 := Lib.hid (Keeps.setCell (p := ⟨X, o, none⟩) HK9.out (fun _ => rfl) (.int .i64 v))
        clear hold
        go_wp2_with fail
        go_roundw
        case rel => exact ⟨i + 1, by omega, by go_num, by rw [HNX.out, ← putF_cells _ _ _ HOO.out]; exact HX10.out, HK10.out⟩
        case measure => simp [intOf]; omega
      · obtain rfl : i = N := by omega
        have HXe : Hid (Blk wr X 44 #[.int .i64 x.op, .int .i64 x.k, .int .i64 x.d, .int .i64 x.a, .int .i64 x.b, .int .i64 x.c, .int .i64 0, .int .i64 x.n, .int .i64 x.m]) := Lib.hid (by
          have := HXr.out
          rw [HN.out, List.take_length, readF_all HO.out] at this
          exact this)
        have HRr := Lib.hid (HKr.out.blk (HR0.out.below HB7.out HR0.out.lt) (fun e => by have e : R = X := e; omega))
        clear HXr HKr
        by_cases hp : x.p = 0
        · have hmN : m = i := by rw [HMP.out]; unfold ifW; rw [if_pos hp]; rfl
          have HP0 := Lib.hid hp
          have hmi : ¬ (i : Int) < (m : Int) := by omega
          have hmj : ¬ i < m := by omega
          clear hmN hp HK HAt HSL HSA HSK HSO HX7 HB7 HG7 HMM HNK HK0 HM0 HT0 HF HO HS HA HN HMP HGr HTr HX5l
          go_upto_region 25 with (fail)
          go_step
          refine wpList_load_blk rfl 44 _ rfl X rfl 44 _ _ HXe.out Tryz.underlying44 rfl hi9 ?_
          refine wpList_store_blk rfl 44 _ _ rfl R _ rfl rfl 44 _ HRr.out hi9 rfl (by simp [Value.oneCell']) ?_
          intro w9 q9 k9
          have Q9 := Lib.hid q9
          have K9 := Lib.hid k9
          clear q9 k9
          go_step
          go_step
          go_step
          go_step
          (try simp only [Exit.then])
          rename_i hlast
          refine hlast _ _ (wp_ret ?_)
          show bodyPost Tryz.prog Tryz.f23 _ Exit.ret _ _
          refine bodyPost_ret (v := .tuple #[.agg #[.int .i64 x.op, .int .i64 x.k, .int .i64 x.d, .int .i64 x.a, .int .i64 x.b, .int .i64 x.c, .int .i64 0, .int .i64 x.n, .int .i64 x.m], .bool true]) ?_ ?_ ?_
          · exact results_row_tmp1 (p := 2) (u := 3) (ty := 44) (fn := Tryz.f23) rfl _ _ R 44 _ _ rfl Q9.out Tryz.underlying44 rfl hi9
          · rfl
          · rw [HP0.out]
            exact ⟨rfl, below_keeps2 (HB0.out.trans (HBr.out.mono HB0.out.size)) K9.out HRw.out⟩
        · have hmN : m = i + 2 := by rw [HMP.out]; unfold ifW; rw [if_neg hp]; rfl
          obtain rfl : A = some ⟨W0.heap.size, k0, none⟩ := HA.out (by omega)
          have hmi : (i : Int) < (m : Int) := by omega
          have him : i < m := by omega
          have HMN := Lib.hid hmN
          have HHP := Lib.hid hp
          clear hmN hp HK HAt HSA HSK HSO HX7 HB7 HG7 HMM HNK HM0 HF HA HX5l
          go_upto_region 19 with (fail)
          iterate 20 go_step
          have hmN := HMN.out
          have hp := HHP.out
          obtain ⟨i1, hi1⟩ : ∃ i1, i1 = i + 1 := ⟨_, rfl⟩
          have hwi := word_if f x hp
          have g0 : wr.cell? ⟨W0.heap.size, k0 + i, none⟩ = some (.string ⟨#[105, 102]⟩) := (HGr.out.cell _).trans (strV_at _ _ [105, 102] (by rw [HK0.out, word_at, HN.out, HSL.out]; exact hwi.1))
          have g1 : wr.cell? ⟨W0.heap.size, k0 + i1, none⟩ = some (.string ⟨([114] ++ Lib.itoa (x.p - 1)).toArray⟩) := (HGr.out.cell _).trans (strV_at _ _ _ (by rw [hi1, HK0.out, word_at, HN.out, HSL.out]; exact hwi.2))
          have hpr := HO.out.pr
          obtain ⟨e1, e1', him1⟩ := succ_facts i i1 m hN6 hi1 hmN
          obtain ⟨e2, e3, r1, r2, r3, e4⟩ := pred_facts x.p hpr hp
          have E1 := Lib.hid e3
          have R1 := Lib.hid r1
          have R2 := Lib.hid r2
          have R3 := Lib.hid r3
          clear hmN hp hi1 hwi hpr e3 r1 r2 r3
          go_wp2_with fail
          refine (cutPrefix_any [114] (Lib.itoa (x.p - 1)) _).mono ?_
          rintro e w8 ⟨rfl, rfl⟩
          go_wp2_with fail
          refine (number_any (x.p - 1) (-2147483649) 2147483647 R1.out R2.out R1.out R3.out wr HTr.out).mono ?_
          rintro e w9 ⟨rfl, hb9⟩
          have g9 : w9.cell? ⟨W0.heap.size, k0 + i, none⟩ = some (.string ⟨#[105, 102]⟩) := below_cell hb9 g0
          have HX9 := Lib.hid (HXe.out.below hb9 HXe.out.lt)
          have HR9 := Lib.hid (HRr.out.below hb9 HRr.out.lt)
          have HB9 := Lib.hid (HBr.out.trans (hb9.mono HBr.out.size))
          have c9 : w9.cell? ⟨X, 6, none⟩ = some (.int .i64 0) := HX9.out.cell 6
          have y9 : w9.frozen? ⟨X, 6, none⟩ = false := HX9.out.frozen 6
          have e3 := E1.out
          clear hb9 g0 g1
          go_upto_region 25 with (fail)
          have HX10 : Hid (Blk (w9.setCell ⟨X, 6, none⟩ (.int .i64 x.p)) X 44 #[.int .i64 x.op, .int .i64 x.k, .int .i64 x.d, .int .i64 x.a, .int .i64 x.b, .int .i64 x.c, .int .i64 x.p, .int .i64 x.n, .int .i64 x.m]) := Lib.hid (HX9.out.set_ 6 (.int .i64 x.p))
          have HK10 := Lib.hid (Keeps.setCell (p := ⟨X, 6, none⟩) (Keeps.refl (· = X) w9) (fun _ => rfl) (.int .i64 x.p))
          have HR10 := Lib.hid (HK10.out.blk HR9.out (fun e => by have e : R = X := e; omega))
          generalize w9.setCell ⟨X, 6, none⟩ (.int .i64 x.p) = w10 at *
          clear c9 y9
          go_step
          refine wpList_load_blk rfl 44 _ rfl X rfl 44 _ _ HX10.out Tryz.underlying44 rfl hi9 ?_
          refine wpList_store_blk rfl 44 _ _ rfl R _ rfl rfl 44 _ HR10.out hi9 rfl (by simp [Value.oneCell']) ?_
          intro w11 q11 k11
          have Q11 := Lib.hid q11
          have K11 := Lib.hid k11
          clear q11 k11
          go_step
          go_step
          go_step
          go_step
          (try simp only [Exit.then])
          rename_i hlast
          refine hlast _ _ (wp_ret ?_)
          show bodyPost Tryz.prog Tryz.f23 _ Exit.ret _ _
          refine bodyPost_ret (v := .tuple #[.agg #[.int .i64 x.op, .int .i64 x.k, .int .i64 x.d, .int .i64 x.a, .int .i64 x.b, .int .i64 x.c, .int .i64 x.p, .int .i64 x.n, .int .i64 x.m], .bool true]) ?_ ?_ ?_
          · exact results_row_tmp1 (p := 2) (u := 3) (ty := 44) (fn := Tryz.f23) rfl _ _ R 44 _ _ rfl Q11.out Tryz.underlying44 rfl hi9
          · rfl
          · exact ⟨rfl, below_keeps2 (HB0.out.trans ((below_keeps3 HB9.out HK10.out zW).mono HB0.out.size)) K11.out HRw.out⟩
end Go.Proofs.YtpcejpcbkjnlkaaGreatDoor

namespace Go.Proofs.YtpcejpcbkjnlkaaGreatDoor
open Go.RowKit

/-- the world behind the words and the kind -/
structure LineSt (B b X F : Nat) (bs : List Value) (x : Ins) (f : Frm) (w wc : World) (L : List UInt8) : Prop where
  x : Blk wc X 44 x.cells
  f : Blk wc F 104 f.cells
  d : BldrU B b (bs ++ Lib.byteCells L) wc
  bl : Below B w wc
  ot : Lib.OthersKept 5 (some b) w wc
theorem LineSt.write {B b X F : Nat} {bs : List Value} {x : Ins} {f : Frm} {w wc wa wb : World} {L : List UInt8} (h : LineSt B b X F bs x f w wc L) (s : List UInt8) (hXb : X ≠ b) (hFb : F ≠ b) (hBz : B ≤ wc.heap.size) (hB : Below wc.heap.size wc wa)
    (hd : BldrU B b ((bs ++ Lib.byteCells L) ++ Lib.strCells ⟨s.toArray⟩) wb) (hw : Below B wa wb) (ho : Lib.OthersKept 5 (some b) wa wb) : LineSt B b X F bs x f w wb (L ++ s) := by
  refine ⟨(h.x.below hB h.x.lt).others ho (by decide) hXb, (h.f.below hB h.f.lt).others ho (by decide) hFb, ?_, (h.bl.trans (hB.mono hBz)).trans hw, (h.ot.trans (others_below hB)).trans ho⟩
  rw [strCells_mk, List.append_assoc, ← byteCells_app] at hd
  exact hd
set_option maxRecDepth 100000 in
set_option maxHeartbeats 16000000 in
theorem line_any (B b : Nat) (bs : List Value) (x : Ins) (f : Frm) (hf : formF x.op x.k = some f) (hkn : AE.Known x) (hsx : Short x) (hk18 : x.op = 18 → x.k = 1 ∨ x.k = 2) (hkn2 : f.k = true → x.op ≠ 18 → 4 ≤ x.k ∧ x.k ≤ 15) (w : World) (hBw : B ≤ w.heap.size) (hbd : Bldr B b bs w) (ht : ∀ W, Below B w W → Tb W) (hlen : bs.length ≤ 10000000) :
    Calls Tryz.prog 20 #[.pointer (some ⟨b, 0, none⟩), .agg x.cells] w fun e w' => e = .returned (.tuple #[]) ∧ BldrU B b (bs ++ Lib.byteCells (lineB f x ++ [10])) w' ∧ Below B w w' ∧ Lib.OthersKept 5 (some b) w w' := by
  have hi9 : (Tryz.prog.info? 44).map (·.size) = some 9 := by kernel_rfl
  have hi9f : (Tryz.prog.info? 104).map (·.size) = some 9 := by kernel_rfl
  have HFO := Lib.hid (fun W => AE.form_any W x f hf hkn)
  have HX := Lib.hid (Blk.new w 44 x.cells)
  have HD := Lib.hid hbd
  have HT := Lib.hid ht
  have HB0 := Lib.hid ((Below.refl w.heap.size w).alloc (Nat.le_refl _) (.cells x.cells 44))
  have HPL := Lib.hid (preB_len hf hsx)
  have HLL := Lib.hid (line_len hf hsx)
  have HSH := Lib.hid hsx
  have HSK := Lib.hid (slots_kind hf)
  have HFK := Lib.hid (form_small hf).2.2.2.2.2.2.2
  have hwl : (⟨f.word.toArray⟩ : ByteArray).size ≤ 10 := by
    have := (form_word_len hf).2
    show f.word.toArray.size ≤ 10
    simp only [List.size_toArray]
    omega
  clear hbd ht hsx
  obtain ⟨cs, hcs⟩ : ∃ cs, cs = x.cells := ⟨_, rfl⟩
  unfold Ins.cells at HFO HX HB0 ⊢
  unfold Frm.cells at HFO
  go_enter Tryz.func20, Tryz.ntmps20
  go_wp2_with fail
  refine (HFO.out _).mono ?_
  rintro e w1 ⟨rfl, hb1⟩
  have HB1 := Lib.hid (HB0.out.trans (hb1.mono HB0.out.size))
  have HX1 := Lib.hid (show Blk w1 w.heap.size 44 _ from (hb1.block _ HX.out.lt).trans HX.out)
  clear hb1
  go_wp2_with fail
  have hzb := HB1.out.size
  have HB2 := Lib.hid (HB1.out.alloc hzb (.cells f.cells 104))
  have HX2 := Lib.hid (show Blk (w1.alloc (.cells f.cells 104)) w.heap.size 44 _ from (Below.heap_alloc w1 _ _ HX1.out.lt).trans HX1.out)
  have HF2 := Lib.hid (Blk.new w1 104 f.cells)
  unfold Frm.cells at HB2 HX2 HF2
  have HD2 := Lib.hid (HD.out.below HB2.out)
  refine (writeStr_any B b bs _ _ HD2.out (by omega) (Nat.le_trans hBw HB2.out.size)).mono ?_
  rintro e w3 ⟨rfl, hb3, hw3, ho3⟩
  have hlb : b < w.heap.size := HD.out.elim (fun h => h.lt) (fun h => h.lt)
  have hbx : w.heap.size ≠ b := by omega
  have hbf : w1.heap.size ≠ b := by omega
  rw [strCells_mk] at hb3
  have HS3 : Hid (LineSt B b w.heap.size w1.heap.size bs x f w w3 f.word) := Lib.hid ⟨HX2.out.others ho3 (by decide) hbx, HF2.out.others ho3 (by decide) hbf, hb3, (HB2.out.mono hBw).trans hw3, (others_below (e := 5) (b := some b) HB2.out).trans ho3⟩
  clear hb3 hw3 ho3 HX2 HF2 HB2 HX1 HB1 HX HB0 HD2 HFO
  have HWB : Hid (w.heap.size ≤ w1.heap.size) := Lib.hid hzb
  obtain ⟨X, hX⟩ : ∃ X, X = w.heap.size := ⟨_, rfl⟩
  obtain ⟨F, hF⟩ : ∃ F, F = w1.heap.size := ⟨_, rfl⟩
  have HXB : Hid (X ≠ b) := Lib.hid (by rw [hX]; exact hbx)
  have HFB : Hid (F ≠ b) := Lib.hid (by rw [hF]; exact hbf)
  have HXw : Hid (B ≤ X) := Lib.hid (by rw [hX]; exact hBw)
  rw [← hX, ← hF] at HS3 ⊢
  have hz3 : B ≤ w3.heap.size := Nat.le_trans hBw HS3.out.bl.size
  clear hX hF hzb HWB hbx hbf hlb HD
  have c0 : w3.cell? ⟨X, 0, none⟩ = some (.int .i64 x.op) := HS3.out.x.cell 0
  have k1 : w3.cell? ⟨F, 1, none⟩ = some (.bool f.k) := HS3.out.f.cell 1
  go_upto_block 0 with (fail)
  go_cut [] (fun wc => LineSt B b X F bs x f w wc (preB f x 0))
  case first =>
    by_cases h18 : x.op = 18
    · have hkw : kindW f x = [if x.k = 1 then [105, 110] else [111, 117, 116]] := by unfold kindW; rw [if_pos h18]
      rw [h18] at c0
      have HA := Lib.hid ((Below.refl w3.heap.size w3).alloc (Nat.le_refl _) (.cells #[.string ⟨#[32, 105, 110]⟩, .string ⟨#[32, 111, 117, 116]⟩] 9))
      have HD4 := Lib.hid (BuilderAt_below HS3.out.d HA.out)
      have HX4 := Lib.hid (HS3.out.x.below HA.out HS3.out.x.lt)
      have hl0 := HPL.out 0
      rw [preB_zero] at hl0
      have hlw : (bs ++ Lib.byteCells f.word).length ≤ 100000000 := by
        rw [List.length_append, byteCells_len]
        rw [List.length_append] at hl0
        omega
      rcases hk18 h18 with hk | hk
      · rw [hk, if_pos rfl] at hkw
        have HKW := Lib.hid hkw
        have c1 : (w3.alloc (.cells #[.string ⟨#[32, 105, 110]⟩, .string ⟨#[32, 111, 117, 116]⟩] 9)).cell? ⟨X, 1, none⟩ = some (.int .i64 1) := by rw [← hk]; exact HX4.out.cell 1
        clear hkw hk h18 hl0
        go_wp2_with fail
        refine (writeStr_any B b _ _ _ (Or.inr HD4.out) (by show _ + 3 ≤ _; omega) (by simp; omega)).mono ?_
        rintro e w5 ⟨rfl, hb5, hw5, ho5⟩
        go_wp2_with fail
        go_meet
        case rel => rw [preB_zero, HKW.out]; exact HS3.out.write [32, 105, 110] HXB.out HFB.out hz3 HA.out hb5 hw5 ho5
      · rw [hk, if_neg (by decide)] at hkw
        have HKW := Lib.hid hkw
        have c1 : (w3.alloc (.cells #[.string ⟨#[32, 105, 110]⟩, .string ⟨#[32, 111, 117, 116]⟩] 9)).cell? ⟨X, 1, none⟩ = some (.int .i64 2) := by rw [← hk]; exact HX4.out.cell 1
        clear hkw hk h18 hl0
        go_wp2_with fail
        refine (writeStr_any B b _ _ _ (Or.inr HD4.out) (by show _ + 4 ≤ _; omega) (by simp; omega)).mono ?_
        rintro e w5 ⟨rfl, hb5, hw5, ho5⟩
        go_wp2_with fail
        go_meet
        case rel => rw [preB_zero, HKW.out]; exact HS3.out.write [32, 111, 117, 116] HXB.out HFB.out hz3 HA.out hb5 hw5 ho5
    · have h18' : (x.op == 18) = false := by simpa using h18
      cases hfk : f.k with
      | false =>
        have hkw : kindW f x = [] := by unfold kindW; rw [if_neg h18, hfk, if_neg (by decide)]
        rw [hfk] at k1
        have HKW := Lib.hid hkw
        clear hkw hfk h18
        go_wp2_with fail
        go_meet
        case rel => rw [preB_zero, HKW.out, show spread [] = [] from rfl, List.append_nil]; exact HS3.out
      | true =>
        have hkw : kindW f x = [nameB x.k] := by unfold kindW; rw [if_neg h18, hfk, if_pos rfl]
        rw [hfk] at k1
        have HKW := Lib.hid hkw
        have hk := hkn2 hfk h18
        have c1 : w3.cell? ⟨X, 1, none⟩ = some (.int .i64 x.k) := HS3.out.x.cell 1
        have hl0 := HPL.out 0
        rw [preB_zero] at hl0
        have hlw : (bs ++ Lib.byteCells f.word).length ≤ 100000000 := by
          rw [List.length_append, byteCells_len]
          rw [List.length_append] at hl0
          omega
        clear hkw hfk h18 hl0
        go_upto_region 6 with (fail)
        refine lineR6_ok w3 (B := B) (bs := bs ++ Lib.byteCells f.word) (j := (x.k - 4).toNat) (k := x.k) _ hz3 (Or.inr HS3.out.d) (by omega) (by omega) c1 hlw ?_
        intro w5 y34 y35 y36 y37 y38 y39 y40 y41 y42 hb5 hw5 ho5
        rw [str_app [32] (nameB x.k)] at hb5
        (try go_wp2_with fail)
        go_meet
        case rel => rw [preB_zero, HKW.out]; rw [show spread [nameB x.k] = [32] ++ nameB x.k from List.flatMap_singleton _ _]; exact HS3.out.write ([32] ++ nameB x.k) HXB.out HFB.out hz3 (Below.refl _ _) hb5 hw5 ho5
  case rest =>
    have HSc := Lib.hid hcut
    have hzc : B ≤ wc.heap.size := Nat.le_trans hBw hcut.bl.size
    have HBc : Hid (b < wc.heap.size) := Lib.hid hcut.d.lt
    clear hcut HS3 c0 k1 hz3
    go_wp2_with (refine wpList_load_blk rfl 104 _ rfl F rfl 104 _ _ HSc.out.f Tryz.underlying104 rfl hi9f ?_)
    refine (fields_any f X wc).mono ?_
    rintro e w7 ⟨K, A, rfl, hK, hA, hb7⟩
    have HK := Lib.hid hK
    have HA := Lib.hid hA
    have HD7 := Lib.hid (BuilderAt_below HSc.out.d hb7)
    have HX7 := Lib.hid (HSc.out.x.below hb7 HSc.out.x.lt)
    have HB7 := Lib.hid (HSc.out.bl.trans (hb7.mono hzc))
    have HO7 := Lib.hid (HSc.out.ot.trans (others_below hb7))
    have hz7 : B ≤ w7.heap.size := Nat.le_trans hzc hb7.size
    have HSL := Lib.hid (slots_length f x)
    have HSA := Lib.hid (slots_at f x)
    have HSC := Lib.hid (slots_cell f x)
    obtain ⟨A3, c3, rfl, -, -⟩ := hK.shape
    obtain ⟨A4, c4, rfl, -, -⟩ := hA.shape
    clear hK hA hb7
    obtain ⟨N, hN⟩ : ∃ N, N = (slotsF f).length := ⟨_, rfl⟩
    have hN6 : N ≤ 6 := by rw [hN]; exact List.length_filter_le _ _
    rw [← hN] at HK HA ⊢
    have HN := Lib.hid hN
    clear hN
    go_wp2_with fail
    go_loopw [50] (fun iv wr => ∃ i : Nat, i ≤ N ∧ iv = .int .i64 i ∧ BldrU B b (bs ++ Lib.byteCells (preB f x i)) wr ∧ Below B w7 wr ∧ Lib.OthersKept 5 (some b) w7 wr) (fun iv _ => N - (intOf iv).toNat)
    case atStart => exact ⟨0, by omega, rfl, HD7.out, Below.refl _ _, Lib.OthersKept.refl _ _ _⟩
    obtain ⟨i, hi, rfl, hdr, hbr, hor⟩ := hrel
    have HDr := Lib.hid hdr
    have HBr := Lib.hid hbr
    have HOr := Lib.hid hor
    have hzr : B ≤ wr.heap.size := Nat.le_trans hz7 hbr.size
    have HXr := Lib.hid (HX7.out.others hor (by decide) HXB.out)
    have HTr := Lib.hid (HT.out _ (HB7.out.trans hbr))
    have hlr : (bs ++ Lib.byteCells (preB f x i)).length ≤ 100000000 := by
      rw [List.length_append, byteCells_len]
      have := HPL.out i
      omega
    clear hdr hbr hor
    by_cases hlt : i < N
    · have hix : i < (slotsF f).length := by rw [← HN.out]; exact hlt
      obtain ⟨hi', he⟩ := HSA.out i hix
      have HK2 := HK.out.others HOr.out (by decide) (fun g hg e => by have := HBc.out; omega)
      have HA2 := HA.out.others HOr.out (by decide) (fun g hg e => by have := HBc.out; omega)
      obtain ⟨gk, capk, hAk, -, -, -, -⟩ := HK2.form (by omega)
      injection hAk with hA1 hA2 hA3
      subst hA1 hA3
      obtain ⟨ga, capa, hAa, -, -, -, -⟩ := HA2.form (by omega)
      injection hAa with hA1 hA4 hA3
      subst hA1 hA3
      have d1 := HK2.get i hlt
      have d2 := HA2.get i hlt
      have d3 : wr.cell? ⟨X, (slotsF f)[i].2, none⟩ = some (.int .i64 (fieldAt x (slotsF f)[i].2)) := (HXr.out.cell _).trans (HSC.out _ (List.getElem_mem hix))
      rw [show (ints ((slotsF f).map (·.1)))[i]? = some (.int .i64 (slotsF f)[i].1) by simp [ints, hix]] at d1
      rw [show (ptrL X ((slotsF f).map (·.2)))[i]? = some (.pointer (some ⟨X, (slotsF f)[i].2, none⟩)) by simp [ptrL, hix]] at d2
      have hkk := HSK.out _ (List.getElem_mem hix)
      obtain ⟨v1, v2⟩ := fieldAt_short HSH.out (slotsF f)[i].2
      have HNX : Hid (preB f x (i + 1) = preB f x i ++ 32 :: (letterB (slotsF f)[i].1 ++ Lib.itoa (fieldAt x (slotsF f)[i].2))) := Lib.hid (by rw [preB_succ f x i hi', he]; rfl)
      generalize (slotsF f)[i].1 = k at *
      generalize (slotsF f)[i].2 = o at *
      generalize fieldAt x o = v at *
      have hI : (Lib.itoa v).length ≤ 30 := by have := itoa_length (n := v) (by omega) (by omega); omega
      clear HK2 HA2 hA2 hA4 he hi' hix
      go_upto_region 11 with (fail)
      refine lineR11_ok wr (B := B) (bs := bs ++ Lib.byteCells (preB f x i)) (k := k) (v := v) _ hzr (Or.inr HDr.out) HTr.out hlt d1 hkk d3 (by omega) (by omega) hlr hI ?_
      intro w8 y55 y56 y57 y58 y59 y60 y61 y62 y63 y64 y65 y66 y67 hb8 hw8 ho8
      have HD8 : Hid (BldrU B b (bs ++ Lib.byteCells (preB f x (i + 1))) w8) := Lib.hid (by
        rw [HNX.out, byteCells_app, ← List.append_assoc]
        rw [str_app [32] (letterB k), str_app, strCells_mk] at hb8
        exact hb8)
      have HB8 := Lib.hid (HBr.out.trans hw8)
      have HO8 := Lib.hid (HOr.out.trans ho8)
      clear hb8 hw8 ho8 d1 d2 d3 hkk v1 v2 HNX
      go_wp2_with fail
      go_roundw
      case rel => exact ⟨i + 1, by omega, by go_num, HD8.out, HB8.out, HO8.out⟩
      case measure => simp [intOf]; omega
    · obtain rfl : i = N := by omega
      have HLE : Hid (lineB f x = preB f x i ++ spread (ifW x)) := Lib.hid (by rw [HN.out, HSL.out]; exact lineB_end f x)
      have c6 : wr.cell? ⟨X, 6, none⟩ = some (.int .i64 x.p) := HXr.out.cell 6
      by_cases hp : x.p = 0
      · have HE : Hid (lineB f x = preB f x i) := Lib.hid (by rw [HLE.out]; unfold ifW; rw [if_pos hp, show spread [] = [] from rfl, List.append_nil])
        rw [hp] at c6
        clear hp
        go_wp2_with fail
        refine (writeByte_any B b _ 10 wr (Or.inr HDr.out) (by omega) hzr).mono ?_
        rintro e w9 ⟨rfl, hb9, hw9, ho9⟩
        go_wp2_with fail
        go_end0
        refine ⟨rfl, ?_, (HB7.out.trans HBr.out).trans hw9, (HO7.out.trans HOr.out).trans ho9⟩
        rw [HE.out, byteCells_app, ← List.append_assoc]
        exact hb9
      · have HE : Hid (lineB f x = preB f x i ++ ([32, 105, 102, 32, 114] ++ Lib.itoa (x.p - 1))) := Lib.hid (by rw [HLE.out]; unfold ifW; rw [if_neg hp]; simp [spread])
        have hps := HSH.out (x.p - 1) (by simp)
        have p1 : wrap64 (x.p - 1) = x.p - 1 := IntWalk.wrap64_in _ ⟨by omega, by omega⟩
        have p2 : IntKind.i64.wrap (x.p - 1) = x.p - 1 := IntWalk.i64_in _ ⟨by omega, by omega⟩
        have hI : (Lib.itoa (x.p - 1)).length ≤ 11 := itoa_length (by omega) (by omega)
        have hIS : (⟨#[32, 105, 102, 32, 114]⟩ ++ ⟨(Lib.itoa (x.p - 1)).toArray⟩ : ByteArray).size ≤ 100 := by
          rw [str_app [32, 105, 102, 32, 114] (Lib.itoa (x.p - 1))]
          show (([32, 105, 102, 32, 114] ++ Lib.itoa (x.p - 1)).toArray).size ≤ 100
          simp only [List.size_toArray, List.length_append, List.length_cons, List.length_nil]
          omega
        have hpe : (x.p == 0) = false := by simpa using hp
        go_wp2_with fail
        refine (itoa_any (x.p - 1) (by omega) (by omega) wr HTr.out).mono ?_
        rintro e w8 ⟨rfl, hb8⟩
        have HD8 := Lib.hid (BuilderAt_below HDr.out hb8)
        have HB8 := Lib.hid hb8
        have hz8 := hb8.size
        clear hb8
        go_wp2_with fail
        refine (writeStr_any B b _ _ _ (Or.inr HD8.out) (by omega) (by omega)).mono ?_
        rintro e w9 ⟨rfl, hb9, hw9, ho9⟩
        go_wp2_with fail
        refine (writeByte_any B b _ 10 w9 (Or.inr hb9) (by rw [List.length_append, Lib.strCells_length]; omega) (by have := hw9.size; omega)).mono ?_
        rintro e w10 ⟨rfl, hb10, hw10, ho10⟩
        go_wp2_with fail
        go_end0
        refine ⟨rfl, ?_, (((HB7.out.trans HBr.out).trans (HB8.out.mono hzr)).trans hw9).trans hw10, (((HO7.out.trans HOr.out).trans (others_below HB8.out)).trans ho9).trans ho10⟩
        rw [str_app [32, 105, 102, 32, 114] (Lib.itoa (x.p - 1)), strCells_mk] at hb10
        rw [HE.out, byteCells_app, byteCells_app, ← List.append_assoc, ← List.append_assoc]
        exact hb10
end Go.Proofs.YtpcejpcbkjnlkaaGreatDoor

/- stands(): names and rules of the two nodes. stands(): rules of the two nodes. stands(): names of the two nodes, their ranges. -/
import Derived.Test.YtempdomhbfokmaaGreatDoorMz26
import Derived.Test.YtempdomhbfokmaaGreatDoorMz27
namespace Go.Proofs.YtempdomhbfokmaaGreatDoor
open Go.RowKit

/-! names -/
def letters : List UInt8 := [97, 98, 99, 100, 101, 102, 103, 104, 105, 106, 107, 108, 109, 110, 111, 112, 113, 114, 115, 116, 117, 118, 119, 120, 121, 122, 48, 49, 50, 51, 52, 53, 54, 55, 56, 57]
theorem dropWhile_every {α : Type} (p : α → Bool) : ∀ l : List α, (∀ b ∈ l, p b = true) → l.dropWhile p = []
  | [], _ => rfl
  | a :: l, h => by
    rw [List.dropWhile_cons, if_pos (h a (by simp))]
    exact dropWhile_every p l fun b hb => h b (by simp [hb])
theorem trim_every (l cut : List UInt8) (h : ∀ b ∈ l, b ∈ cut) : Lib.trimS l cut = [] := by
  unfold Lib.trimS Lib.trimRightS Lib.trimLeftS
  rw [dropWhile_every _ l.reverse (fun b hb => by simpa using h b (by simpa using hb))]
  rfl
structure NameOk (s : ByteArray) : Prop where
  pos : 0 < s.size
  le : s.size ≤ 8
  first : ∀ h : 0 < s.size, (97 : Int) ≤ ((s[0]'h).toNat : Int) ∧ ((s[0]'h).toNat : Int) ≤ 122
  all : ∀ b ∈ s.data.toList, b ∈ letters
theorem nameOk_g : NameOk ⟨#[103]⟩ := ⟨by decide, by decide, fun _ => (by decide : (97 : Int) ≤ ((103 : UInt8).toNat : Int) ∧ ((103 : UInt8).toNat : Int) ≤ 122), by decide⟩
set_option maxRecDepth 100000 in
theorem isLetters_yes (s : ByteArray) (h : NameOk s) (w : World) : Calls Tryz.prog 222 #[.string s] w fun e w' => e = .returned (.bool true) ∧ Below w.heap.size w w' := by
  have hle := h.le
  have HT : Hid (∀ W, Calls Tryz.prog 86 #[.string s, .string ⟨#[97, 98, 99, 100, 101, 102, 103, 104, 105, 106, 107, 108, 109, 110, 111, 112, 113, 114, 115, 116, 117, 118, 119, 120, 121, 122, 48, 49, 50, 51, 52, 53, 54, 55, 56, 57]⟩] W fun e w' => e = .returned (.string ⟨#[]⟩) ∧ Below W.heap.size W w') := Lib.hid fun W => by
    have := Tryz.strings_Trim s ⟨#[97, 98, 99, 100, 101, 102, 103, 104, 105, 106, 107, 108, 109, 110, 111, 112, 113, 114, 115, 116, 117, 118, 119, 120, 121, 122, 48, 49, 50, 51, 52, 53, 54, 55, 56, 57]⟩ W (by omega) (by decide) (fun j b hj => (by decide : ∀ b ∈ letters, b.toNat < 128) b (List.mem_of_getElem? hj))
    refine this.mono ?_
    rintro e w' ⟨rfl, hb⟩
    refine ⟨?_, hb⟩
    show Ending.returned (.string ⟨(Lib.trimS s.data.toList letters).toArray⟩) = _
    rw [trim_every _ _ h.all]
  have hne : s.toList.isEmpty = false := by
    rw [ByteArray.toList_eq]
    have := h.pos
    cases e : s.data.toList with
    | nil => have h2 : s.size = s.data.toList.length := rfl
             rw [e] at h2
             have h3 : s.size = 0 := h2
             omega
    | cons a l => rfl
  have hnl : ¬ s.toList = [] := fun e => by rw [e] at hne; cases hne
  clear hle h
  go_enter Tryz.func222, Tryz.ntmps222
  go_wp2_with fail
  refine (HT.out _).mono ?_
  rintro e w1 ⟨rfl, hb1⟩
  have HB1 := Lib.hid hb1
  clear hb1
  go_wp2_with fail
  go_ret
  exact ⟨rfl, HB1.out⟩
set_option maxRecDepth 100000 in
theorem isName_yes (s : ByteArray) (h : NameOk s) (w : World) : Calls Tryz.prog 182 #[.string s] w fun e w' => e = .returned (.bool true) ∧ Below w.heap.size w w' := by
  have hle := h.le
  have hpos := h.pos
  obtain ⟨h1, h2⟩ := h.first hpos
  have HL := Lib.hid (isLetters_yes s h)
  clear h
  go_enter Tryz.func182, Tryz.ntmps182
  go_wp2_with fail
  refine (HL.out _).mono ?_
  rintro e w1 ⟨rfl, hb1⟩
  have HB1 := Lib.hid hb1
  clear hb1
  go_wp2_with fail
  go_ret
  exact ⟨rfl, HB1.out⟩
end Go.Proofs.YtempdomhbfokmaaGreatDoor

namespace Go.Proofs.YtempdomhbfokmaaGreatDoor
open Go.RowKit

theorem Below.drewn {B : Nat} {a w : World} (h : Below B a w) (n : Nat) : Below B a (w.drewN n) := ⟨h.os, h.tape, h.output, h.size, h.block⟩
theorem results_row_slot {P : Program} {fn : Func} {p u : Tmp} {ty : TypeId} (h : fn.results = #[.cell p ty, .tmp u]) (tmps : Array Value) (w : World) (g : Nat) (t : TypeId) (cs : Array Value) (d : TypeDesc)
    (hp : tmps.getD p undef = .pointer (some ⟨g, 0, none⟩)) (hg : Blk w g t cs)
    (hu : P.underlying ty = some d) (hd : (match d with | .struct _ | .array _ _ => true | _ => false) = true) (hi : (P.info? ty).map (·.size) = some cs.size) :
    (results fn tmps).run P w = .ok (.tuple #[.agg cs, tmps.getD u undef]) w := by
  rw [results_cell_tmp h, hp]
  simp [asAddr, Result.andThen, run_loadVar_row w g t ty cs (0, 0) d hg hu hd hi]
set_option maxRecDepth 100000 in
theorem ruleOf_const (w : World) : Calls Tryz.prog 184 #[.int .i64 2] w fun e w' => e = .returned (.tuple #[.agg #[.int .i64 258, .int .i64 0, .bool false, .int .i64 (-1), .int .i64 0, .int .i64 0, .string ⟨#[99, 111, 110, 115, 116]⟩], .bool true]) ∧ Below w.heap.size w w' := by
  go_enter Tryz.func184, Tryz.ntmps184
  go_wp2_with fail
  refine bodyPost_ret (v := .tuple #[.agg #[.int .i64 258, .int .i64 0, .bool false, .int .i64 (-1), .int .i64 0, .int .i64 0, .string ⟨#[99, 111, 110, 115, 116]⟩], .bool true]) ?_ rfl ⟨rfl, ((Below.refl _ _).alloc (Nat.le_refl _) _).alloc (by simp) _⟩
  exact results_row_slot (p := 2) (u := 3) (ty := 228) (fn := Tryz.f184) rfl _ _ w.heap.size 228 _ _ rfl ((Blk.new w _ _).alloc _) Tryz.underlying228 rfl rfl
set_option maxRecDepth 100000 in
theorem ruleOf_add (w : World) : Calls Tryz.prog 184 #[.int .i64 4] w fun e w' => e = .returned (.tuple #[.agg #[.int .i64 0, .int .i64 2, .bool false, .int .i64 0, .int .i64 0, .int .i64 0, .string ⟨#[97, 100, 100]⟩], .bool true]) ∧ Below w.heap.size w w' := by
  go_enter Tryz.func184, Tryz.ntmps184
  go_wp2_with fail
  refine bodyPost_ret (v := .tuple #[.agg #[.int .i64 0, .int .i64 2, .bool false, .int .i64 0, .int .i64 0, .int .i64 0, .string ⟨#[97, 100, 100]⟩], .bool true]) ?_ rfl ⟨rfl, (((Below.refl _ _).alloc (Nat.le_refl _) _).alloc (by simp) _).alloc (by simp; omega) _⟩
  exact results_row_slot (p := 2) (u := 3) (ty := 228) (fn := Tryz.f184) rfl _ _ w.heap.size 228 _ _ rfl (((Blk.new w _ _).alloc _).alloc _) Tryz.underlying228 rfl rfl
theorem counted_eq (a b : Int) (w : World) (h : b = -1 ∨ a = b) (hb : 0 ≤ b ∨ b = -1) : Calls Tryz.prog 226 #[.int .i64 a, .int .i64 b] w fun e w' => e = .returned (.bool true) ∧ w = w' := by
  rcases Int.lt_or_le b 0 with h0 | h0
  · go_enter Tryz.func226, Tryz.ntmps226
    go_wp2_with fail
    go_ret
    exact ⟨rfl, rfl⟩
  · obtain rfl : a = b := by omega
    go_enter Tryz.func226, Tryz.ntmps226
    go_wp2_with fail
    go_ret
    exact ⟨rfl, rfl⟩
set_option maxRecDepth 100000 in
theorem product_nil (w : World) (A : Option Addr) (c : Nat) : Calls Tryz.prog 228 #[.slice A 0 c] w fun e w' => e = .returned (.int .i64 1) ∧ w = w' := by
  go_enter Tryz.func228, Tryz.ntmps228
  go_wp2_with fail
  go_loop [3, 9] (fun v i => v = .int .i64 1 ∧ i = .int .i64 0) (fun _ _ => 0)
  case atStart => exact ⟨rfl, rfl⟩
  obtain ⟨rfl, rfl⟩ := hrel
  go_wp2_with fail
  go_ret
  exact ⟨rfl, rfl⟩
set_option maxRecDepth 100000 in
theorem formed_const (w : World) (A : Addr) : Calls Tryz.prog 185 #[.agg #[.int .i64 258, .int .i64 0, .bool false, .int .i64 (-1), .int .i64 0, .int .i64 0, .string ⟨#[99, 111, 110, 115, 116]⟩], .agg #[.int .i64 2, .slice none 0 0, .string ⟨#[]⟩, .slice none 0 0, .string ⟨#[]⟩, .slice none 0 0, .int .i64 0, .int .i64 0, .int .i64 0, .int .i64 0, .slice (some A) 1 1, .slice none 0 0]] w fun e w' => e = .returned (.bool true) ∧ Below w.heap.size w w' := by
  have b1 : bits BinOp.and IntKind.i64 258 1 = 0 := by decide
  have b2 : bits BinOp.and IntKind.i64 258 4 = 0 := by decide
  have b3 : bits BinOp.and IntKind.i64 258 16 = 0 := by decide
  have b4 : bits BinOp.and IntKind.i64 258 32 = 0 := by decide
  have b5 : bits BinOp.and IntKind.i64 258 64 = 0 := by decide
  have b6 : bits BinOp.and IntKind.i64 258 128 = 0 := by decide
  have b7 : bits BinOp.and IntKind.i64 258 256 = 256 := by decide
  go_enter Tryz.func185, Tryz.ntmps185
  go_wp2_with go_in
  go_quiet ((first | (go_at_call 227; exact quiet_left (closed_nil _ _ _)) | (go_at_call 228; exact quiet_left (product_nil _ _ _))))
  go_wp2_with fail
  go_ret
  exact ⟨rfl, Below.drewn (by go_grown) _⟩
set_option maxRecDepth 100000 in
theorem formed_add (w : World) (A : Addr) : Calls Tryz.prog 185 #[.agg #[.int .i64 0, .int .i64 2, .bool false, .int .i64 0, .int .i64 0, .int .i64 0, .string ⟨#[97, 100, 100]⟩], .agg #[.int .i64 4, .slice (some A) 2 2, .string ⟨#[]⟩, .slice none 0 0, .string ⟨#[]⟩, .slice none 0 0, .int .i64 0, .int .i64 0, .int .i64 0, .int .i64 0, .slice none 0 0, .slice none 0 0]] w fun e w' => e = .returned (.bool true) ∧ Below w.heap.size w w' := by
  have b1 : bits BinOp.and IntKind.i64 0 1 = 0 := by decide
  have b2 : bits BinOp.and IntKind.i64 0 4 = 0 := by decide
  have b3 : bits BinOp.and IntKind.i64 0 16 = 0 := by decide
  have b4 : bits BinOp.and IntKind.i64 0 32 = 0 := by decide
  have b5 : bits BinOp.and IntKind.i64 0 64 = 0 := by decide
  have b6 : bits BinOp.and IntKind.i64 0 128 = 0 := by decide
  have b7 : bits BinOp.and IntKind.i64 0 256 = 0 := by decide
  go_enter Tryz.func185, Tryz.ntmps185
  go_wp2_with go_in
  go_ret
  refine ⟨rfl, ?_⟩
  go_grown
end Go.Proofs.YtempdomhbfokmaaGreatDoor

namespace Go.Proofs.YtempdomhbfokmaaGreatDoor
open Go.RowKit

set_option maxRecDepth 100000 in
theorem repeats_nil (w : World) (A : Option Addr) (c : Nat) : Calls Tryz.prog 231 #[.slice A 0 c] w fun e w' => e = .returned (.bool false) ∧ Below w.heap.size w w' := by
  have hmm := @run_makeMap Tryz.prog
  go_enter Tryz.func231, Tryz.ntmps231
  go_wp2_with fail
  go_loop [9] (fun i => i = .int .i64 0) (fun _ => 0)
  case atStart => rfl
  subst hrel
  go_wp2_with fail
  go_ret
  exact ⟨rfl, (Below.refl _ _).alloc (Nat.le_refl _) _⟩
set_option maxRecDepth 100000 in
theorem twice_const (w : World) (A : Addr) : Calls Tryz.prog 189 #[.agg #[.int .i64 2, .slice none 0 0, .string ⟨#[]⟩, .slice none 0 0, .string ⟨#[]⟩, .slice none 0 0, .int .i64 0, .int .i64 0, .int .i64 0, .int .i64 0, .slice (some A) 1 1, .slice none 0 0], .slice none 0 0] w fun e w' => e = .returned (.bool false) ∧ Below w.heap.size w w' := by
  go_enter Tryz.func189, Tryz.ntmps189
  go_wp2_with (first
    | (go_at_call 232; refine (axisNames_nil _ _ _).mono ?_; rintro e w' ⟨rfl, rfl⟩)
    | (go_at_call 231; refine (repeats_nil _ _ _).mono ?_; rintro e w1 ⟨rfl, hb1⟩; obtain ⟨hc1, hf1⟩ := bcell hb1; have hz1 : w.heap.size < w1.heap.size := (by have := hb1.size; (try simp at this); omega); replace hb1 : Below w.heap.size w w1 := Below.trans (by go_grown) (hb1.mono (by first | omega | (simp; done) | (simp; omega))))
    | (go_at_call 191; refine (contains_axis_nil _ _ _ _).mono ?_; rintro e w' ⟨rfl, rfl⟩)
    | (go_at_call 233; go_in))
  go_ret
  exact ⟨rfl, by go_grown⟩
set_option maxRecDepth 100000 in
theorem twice_add (w : World) (A : Addr) : Calls Tryz.prog 189 #[.agg #[.int .i64 4, .slice (some A) 2 2, .string ⟨#[]⟩, .slice none 0 0, .string ⟨#[]⟩, .slice none 0 0, .int .i64 0, .int .i64 0, .int .i64 0, .int .i64 0, .slice none 0 0, .slice none 0 0], .slice none 0 0] w fun e w' => e = .returned (.bool false) ∧ Below w.heap.size w w' := by
  go_enter Tryz.func189, Tryz.ntmps189
  go_wp2_with (first
    | (go_at_call 232; refine (axisNames_nil _ _ _).mono ?_; rintro e w' ⟨rfl, rfl⟩)
    | (go_at_call 231; refine (repeats_nil _ _ _).mono ?_; rintro e w1 ⟨rfl, hb1⟩; obtain ⟨hc1, hf1⟩ := bcell hb1; have hz1 : w.heap.size < w1.heap.size := (by have := hb1.size; (try simp at this); omega); replace hb1 : Below w.heap.size w w1 := Below.trans (by go_grown) (hb1.mono (by first | omega | (simp; done) | (simp; omega))))
    | (go_at_call 191; refine (contains_axis_nil _ _ _ _).mono ?_; rintro e w' ⟨rfl, rfl⟩)
    | (go_at_call 233; go_in))
  go_ret
  exact ⟨rfl, by go_grown⟩
set_option maxRecDepth 100000 in
theorem named_const (w : World) (A : Addr) (S : Option Addr) (n c : Nat) : Calls Tryz.prog 188 #[.agg #[.int .i64 258, .int .i64 0, .bool false, .int .i64 (-1), .int .i64 0, .int .i64 0, .string ⟨#[99, 111, 110, 115, 116]⟩], .agg #[.int .i64 2, .slice none 0 0, .string ⟨#[]⟩, .slice none 0 0, .string ⟨#[]⟩, .slice none 0 0, .int .i64 0, .int .i64 0, .int .i64 0, .int .i64 0, .slice (some A) 1 1, .slice none 0 0], .slice S n c] w fun e w' => e = .returned (.bool true) ∧ Below w.heap.size w w' := by
  have b1 : bits BinOp.and IntKind.i64 258 1 = 0 := by decide
  have b2 : bits BinOp.and IntKind.i64 258 4 = 0 := by decide
  go_enter Tryz.func188, Tryz.ntmps188
  go_wp2_with (first
    | (go_at_call 225; go_in))
  go_loop [34] (fun i => i = .int .i64 0) (fun _ => 0)
  case atStart => rfl
  subst hrel
  go_wp2_with (go_at_call 229; refine (contains_string_nil _ _ _ _).mono ?_; rintro e w' ⟨rfl, rfl⟩)
  go_ret
  exact ⟨rfl, by go_grown⟩
set_option maxRecDepth 100000 in
theorem named_add (w : World) (A : Addr) (S : Option Addr) (n c : Nat) : Calls Tryz.prog 188 #[.agg #[.int .i64 0, .int .i64 2, .bool false, .int .i64 0, .int .i64 0, .int .i64 0, .string ⟨#[97, 100, 100]⟩], .agg #[.int .i64 4, .slice (some A) 2 2, .string ⟨#[]⟩, .slice none 0 0, .string ⟨#[]⟩, .slice none 0 0, .int .i64 0, .int .i64 0, .int .i64 0, .int .i64 0, .slice none 0 0, .slice none 0 0], .slice S n c] w fun e w' => e = .returned (.bool true) ∧ Below w.heap.size w w' := by
  have b1 : bits BinOp.and IntKind.i64 0 1 = 0 := by decide
  have b2 : bits BinOp.and IntKind.i64 0 4 = 0 := by decide
  go_enter Tryz.func188, Tryz.ntmps188
  go_wp2_with (first
    | (go_at_call 225; go_in))
  go_loop [34] (fun i => i = .int .i64 0) (fun _ => 0)
  case atStart => rfl
  subst hrel
  go_wp2_with (go_at_call 229; refine (contains_string_nil _ _ _ _).mono ?_; rintro e w' ⟨rfl, rfl⟩)
  go_ret
  exact ⟨rfl, by go_grown⟩
set_option maxRecDepth 100000 in
theorem ranged1 (x : Int) (w : World) (h0 : -2147483648 ≤ x) (h1 : x ≤ 2147483647) : Calls Tryz.prog 237 (#[.int .i64 x] ++ #[]) w fun e w' => e = .returned (.bool false) ∧ w = w' := by
  show Calls Tryz.prog 237 #[.int .i64 x] w _
  go_enter Tryz.func237, Tryz.ntmps237
  go_wp2_with (go_at_call 236; refine (isWord_yes _ _ h0 h1).mono ?_; rintro e w' ⟨rfl, rfl⟩)
  go_ret
  exact ⟨rfl, rfl⟩
set_option maxRecDepth 100000 in
theorem ranged_const (w : World) (T : Nat → Prop) (A : Addr) (sub : Bool) (h : Reads w T 1 (some A) 1 (ints [3])) : Calls Tryz.prog 190 #[.agg #[.int .i64 2, .slice none 0 0, .string ⟨#[]⟩, .slice none 0 0, .string ⟨#[]⟩, .slice none 0 0, .int .i64 0, .int .i64 0, .int .i64 0, .int .i64 0, .slice (some A) 1 1, .slice none 0 0], .bool sub] w fun e w' => e = .returned (.bool true) ∧ Below w.heap.size w w' := by
  have HC : Hid (∀ W, Reads W T 1 (some A) 1 (ints [3]) → Calls Tryz.prog 61 #[.slice (some A) 1 1, .func (.func 237) #[] #[]] W fun e w' => e = .returned (.bool false) ∧ W = w') := Lib.hid fun W hW =>
    contains_ints_no W T (some A) 1 1 [3] hW (by omega) 237 #[] (fun _ _ => rfl) (fun x hx => ranged1 x W (by simp at hx; omega) (by simp at hx; omega))
  have HR := Lib.hid h
  clear h
  go_enter Tryz.func190, Tryz.ntmps190
  go_wp2_with (first
    | (go_at_call 61; refine (HC.out _ (HR.out.alloc _)).mono ?_; rintro e w' ⟨rfl, rfl⟩))
  go_ret
  exact ⟨rfl, (Below.refl _ _).alloc (Nat.le_refl _) _⟩
set_option maxRecDepth 100000 in
theorem ranged_add (w : World) (A : Addr) (sub : Bool) : Calls Tryz.prog 190 #[.agg #[.int .i64 4, .slice (some A) 2 2, .string ⟨#[]⟩, .slice none 0 0, .string ⟨#[]⟩, .slice none 0 0, .int .i64 0, .int .i64 0, .int .i64 0, .int .i64 0, .slice none 0 0, .slice none 0 0], .bool sub] w fun e w' => e = .returned (.bool true) ∧ Below w.heap.size w w' := by
  go_enter Tryz.func190, Tryz.ntmps190
  go_wp2_with fail
  go_ret
  exact ⟨rfl, (Below.refl _ _).alloc (Nat.le_refl _) _⟩
end Go.Proofs.YtempdomhbfokmaaGreatDoor

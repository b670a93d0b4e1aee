/- The table of the powers of ten; Itoa, Atoi and chip.number at a number that Itoa wrote. slices.Equal[Instr] at two rows of the same instructions. The slots of an instruction's fields, and what lies there. chip.line: the region that writes a field. Printed by gen_line.py. chip.line: the region that writes the name of an operation. Printed by gen_line6.py. What the Builder's writes leave: rows and blocks that are no bytes. -/
import Derived.Test.YtpcejpcbkjnlkaaGreatDoorZa27
import Derived.Test.YtpcejpcbkjnlkaaGreatDoorZa28
import Derived.Lib.AppendIntMem
import Derived.Lib.AtoiErrMem
import Derived.KernelRfl
import Derived.Test.YtpcejpcbkjnlkaaGreatDoorZa24
import Derived.Test.YtpcejpcbkjnlkaaGreatDoorZa25
set_option linter.unusedVariables false
namespace Go.Proofs.YtpcejpcbkjnlkaaGreatDoor
open Go.RowKit Go.Sort

/-- The table that the library's numDigits reads lies in the world. -/
def Tb (w : World) : Prop := Lib.TabIs Tryz.prog w "internal/strconv.uint64pow10" .u64 Lib.pow10Tab
theorem Tb.below {w w' : World} (h : Tb w) (hb : Below w.heap.size w w') : Tb w' := by
  unfold Tb Lib.TabIs World.var? at *
  cases hg : Tryz.prog.globalNamed "internal/strconv.uint64pow10" with
  | none => simp [hg] at h
  | some g =>
    simp only [hg, Option.bind_some] at h ⊢
    have hlt : g < w.heap.size := by
      rcases Nat.lt_or_ge g w.heap.size with h' | h'
      · exact h'
      · rw [Array.getElem?_eq_none h'] at h; simp at h
    rw [hb.block g hlt]
    exact h
theorem itoa_any (n : Int) (h0 : -9223372036854775808 ≤ n) (h1 : n ≤ 9223372036854775807) (w : World) (ht : Tb w) :
    Calls Tryz.prog 46 #[.int .i64 n] w fun e w' => e = .returned (.string ⟨(Lib.itoa n).toArray⟩) ∧ Below w.heap.size w w' := by
  refine (Tryz.strconv_Itoa n h0 h1 w ht).mono ?_
  rintro e w' ⟨rfl, k, os, rfl⟩
  exact ⟨rfl, Lib.below_grow _ w (Nat.le_refl _) k os⟩
theorem atoi_any (n : Int) (h0 : -2147483649 ≤ n) (h1 : n ≤ 2147483649) (w : World) :
    Calls Tryz.prog 84 #[.string ⟨(Lib.itoa n).toArray⟩] w fun e w' => e = .returned (.tuple #[.int .i64 n, .nilIface]) ∧ Below w.heap.size w w' := by
  have hl : (⟨(Lib.itoa n).toArray⟩ : ByteArray).size ≤ 18 := by
    have := itoa_length h0 h1
    show (Lib.itoa n).toArray.size ≤ 18
    simp; omega
  refine (Tryz.strconv_Atoi _ n hl (by simpa using atoi_itoa n) w).mono ?_
  rintro e w' ⟨rfl, t, rfl⟩
  exact ⟨rfl, Lib.bytesWorld_below w _ t⟩
set_option maxRecDepth 100000 in
set_option maxHeartbeats 2000000 in
theorem number_any (n lo hi : Int) (h0 : -2147483649 ≤ n) (h1 : n ≤ 2147483649) (hlo : lo ≤ n) (hhi : n ≤ hi) (w : World) (ht : Tb w) :
    Calls Tryz.prog 52 #[.string ⟨(Lib.itoa n).toArray⟩, .int .i64 lo, .int .i64 hi] w fun e w' => e = .returned (.tuple #[.int .i64 n, .bool true]) ∧ Below w.heap.size w w' := by
  have HT := Lib.hid ht
  generalize hs : (⟨(Lib.itoa n).toArray⟩ : ByteArray) = s
  have HAT := Lib.hid (fun W => hs ▸ atoi_any n h0 h1 W)
  have HIT := Lib.hid (fun W t => hs ▸ itoa_any n (by omega) (by omega) W t)
  clear ht hs
  go_enter Tryz.func52, Tryz.ntmps52
  go_wp2_with fail
  refine (HAT.out _).mono ?_
  rintro e w1 ⟨rfl, hb1⟩
  have HT1 := Lib.hid (HT.out.below hb1)
  have HB1 := Lib.hid hb1
  clear hb1
  go_wp2_with fail
  refine (HIT.out _ HT1.out).mono ?_
  rintro e w2 ⟨rfl, hb2⟩
  have HB2 := Lib.hid (HB1.out.trans (hb2.mono HB1.out.size))
  clear hb2
  go_wp2_with fail
  refine (cwithin_yes n lo hi _ hlo hhi).mono ?_
  rintro e w3 ⟨rfl, rfl⟩
  go_wp2_with fail
  go_ret2
  exact ⟨rfl, HB2.out⟩
end Go.Proofs.YtpcejpcbkjnlkaaGreatDoor

namespace Go.Proofs.YtpcejpcbkjnlkaaGreatDoor
open Go.RowKit

set_option maxRecDepth 100000 in
set_option maxHeartbeats 2000000 in
theorem neq_ins (x0 x1 x2 x3 x4 x5 x6 x7 x8 : Int) (w : World) : (binOp .neq 44 (.agg #[.int .i64 x0, .int .i64 x1, .int .i64 x2, .int .i64 x3, .int .i64 x4, .int .i64 x5, .int .i64 x6, .int .i64 x7, .int .i64 x8]) (.agg #[.int .i64 x0, .int .i64 x1, .int .i64 x2, .int .i64 x3, .int .i64 x4, .int .i64 x5, .int .i64 x6, .int .i64 x7, .int .i64 x8])).run Tryz.prog w = .ok (.bool false) w := by
  rw [run_neq_struct]
  go_simp
set_option maxRecDepth 100000 in
set_option maxHeartbeats 8000000 in
theorem equal_any (w : World) {T T' : Nat → Prop} {v v' : Value} (xs : List Ins) (h : Own w T 44 9 v xs.length (insL xs)) (h' : Own w T' 44 9 v' xs.length (insL xs)) :
    Calls Tryz.prog 13 #[v, v'] w fun e w' => e = .returned (.bool true) ∧ Below w.heap.size w w' := by
  obtain ⟨A, c, rfl, -, -⟩ := h.shape
  obtain ⟨A', c', rfl, -, -⟩ := h'.shape
  have H := Lib.hid h
  have H' := Lib.hid h'
  have hi9 : (Tryz.prog.info? 44).map (·.size) = some 9 := by kernel_rfl
  obtain ⟨N, hN⟩ : ∃ N, N = xs.length := ⟨_, rfl⟩
  have hl : N ≤ maxLen := by
    rw [hN]
    by_cases h0 : 0 < xs.length
    · obtain ⟨g, cap, -, h1, h2, -⟩ := h.form h0
      omega
    · unfold maxLen; omega
  rw [← hN]
  have HN := Lib.hid hN
  unfold maxLen at hl
  clear h h' hN
  go_enter Tryz.func13, Tryz.ntmps13
  go_wp2_with fail
  go_loopw [13] (fun iv wr => ∃ i : Nat, i ≤ N ∧ iv = .int .i64 i ∧ Below w.heap.size w wr) (fun i _ => N - (intOf i).toNat)
  case atStart => exact ⟨0, by omega, rfl, Below.refl _ _⟩
  obtain ⟨i, hi, rfl, hbr⟩ := hrel
  have HBR := Lib.hid hbr
  clear hbr
  by_cases hlt : i < N
  · have hix : i < xs.length := by rw [← HN.out]; exact hlt
    have hc1 := H.out.fresh HBR.out
    have hc2 := H'.out.fresh HBR.out
    obtain ⟨g, cap, hA, -, -, hgl, -⟩ := hc1.form (by omega)
    injection hA with hA1 hA2 hA3
    subst hA1 hA3
    obtain ⟨g', cap', hA', -, -, hgl', -⟩ := hc2.form (by omega)
    injection hA' with hA1 hA2' hA3
    subst hA1 hA3
    obtain ⟨d0, d1, d2, d3, d4, d5, d6, d7, d8⟩ := hc1.ins i hix
    obtain ⟨b0, b1, b2, b3, b4, b5, b6, b7, b8⟩ := hc2.ins i hix
    obtain ⟨x, hx⟩ : ∃ x, x = xs[i] := ⟨_, rfl⟩
    rw [← hx] at d0 d1 d2 d3 d4 d5 d6 d7 d8 b0 b1 b2 b3 b4 b5 b6 b7 b8
    clear hc1 hc2 hx hA2 hA2'
    go_wp2_with fail
    go_quiet (fail)
    have HBQ : Hid (Below w.heap.size w (wr.drewN nq)) := Lib.hid ⟨HBR.out.os, HBR.out.tape, HBR.out.output, HBR.out.size, HBR.out.block⟩
    go_wp2_with fail
    go_roundw
    case rel => exact ⟨i + 1, by omega, by go_num, HBQ.out⟩
    case measure => simp [intOf]; omega
  · obtain rfl : i = N := by omega
    go_wp2_with fail
    go_ret
    exact ⟨rfl, HBR.out⟩
end Go.Proofs.YtpcejpcbkjnlkaaGreatDoor

namespace Go.Proofs.YtpcejpcbkjnlkaaGreatDoor
open Go.RowKit

def fieldAt (x : Ins) (o : Nat) : Int := if o = 2 then x.d else if o = 3 then x.a else if o = 4 then x.b else if o = 5 then x.c else if o = 7 then x.n else x.m
theorem slots_fields (f : Frm) (x : Ins) : (slotsF f).map (fun y => (y.1, fieldAt x y.2)) = fieldsF f x := by
  unfold slotsF fieldsF slotsA
  rw [show ([(f.d, x.d), (f.a, x.a), (f.b, x.b), (f.c, x.c), (f.n, x.n), (f.m, x.m)] : List (Int × Int)) = ([(f.d, 2), (f.a, 3), (f.b, 4), (f.c, 5), (f.n, 7), (f.m, 8)] : List (Int × Nat)).map (fun y => (y.1, fieldAt x y.2)) from rfl, List.filter_map]
  rfl
theorem slots_off (f : Frm) : ∀ y ∈ slotsF f, y.2 = 2 ∨ y.2 = 3 ∨ y.2 = 4 ∨ y.2 = 5 ∨ y.2 = 7 ∨ y.2 = 8 := by
  intro y hy
  have := (List.mem_filter.1 hy).1
  simp only [slotsA, List.mem_cons, List.not_mem_nil, or_false] at this
  rcases this with rfl | rfl | rfl | rfl | rfl | rfl <;> simp
theorem slots_cell (f : Frm) (x : Ins) : ∀ y ∈ slotsF f, x.cells[y.2]? = some (.int .i64 (fieldAt x y.2)) := by
  intro y hy
  rcases slots_off f y hy with h | h | h | h | h | h <;> rw [h] <;> rfl
theorem slots_kind {op k : Int} {f : Frm} (h : formF op k = some f) : ∀ y ∈ slotsF f, y.1 = 1 ∨ y.1 = 2 ∨ y.1 = 3 ∨ y.1 = 4 ∨ y.1 = 5 := by
  intro y hy
  obtain ⟨-, h1, h2, h3, h4, h5, h6, -⟩ := form_small h
  obtain ⟨hm, hn⟩ := List.mem_filter.1 hy
  have hn : y.1 ≠ 0 := by simpa using hn
  simp only [slotsA, List.mem_cons, List.not_mem_nil, or_false] at hm
  rcases hm with rfl | rfl | rfl | rfl | rfl | rfl <;> dsimp only at hn ⊢ <;> omega
end Go.Proofs.YtpcejpcbkjnlkaaGreatDoor

namespace Go.Proofs.YtpcejpcbkjnlkaaGreatDoor
open Go.RowKit

theorem str_app (a b : List UInt8) : (⟨a.toArray⟩ ++ ⟨b.toArray⟩ : ByteArray) = ⟨(a ++ b).toArray⟩ := by
  apply ByteArray.ext
  simp
theorem BuilderAt_below {B b : Nat} {p : Value} {bs : List Value} {w w' : World} (h : Lib.BuilderAt 58 5 B b p bs w) (hb : Below w.heap.size w w') : Lib.BuilderAt 58 5 B b p bs w' := by
  have hlt := h.lt
  obtain ⟨hB, v, h1, h2, h3⟩ := h
  refine ⟨hB, v, (hb.block b hlt).trans h1, ⟨h2.1, ?_⟩, h3⟩
  rcases h2.2 with h | ⟨g, cap, cur, hv, hg, hh, r⟩
  · exact .inl h
  · refine .inr ⟨g, cap, cur, hv, hg, (hb.block g ?_).trans hh, r⟩
    rcases Nat.lt_or_ge g w.heap.size with h' | h'
    · exact h'
    · simp [Array.getElem?_eq_none h'] at hh
theorem Bldr.below {B b : Nat} {bs : List Value} {w w' : World} (h : Bldr B b bs w) (hb : Below w.heap.size w w') : Bldr B b bs w' := h.elim (fun h => .inl (BuilderAt_below h hb)) (fun h => .inr (BuilderAt_below h hb))
theorem others_below {e : TypeId} {b : Option Nat} {w w' : World} (h : Below w.heap.size w w') : Lib.OthersKept e b w w' := fun k o hk _ _ => by
  have hlt : k < w.heap.size := by
    rcases Nat.lt_or_ge k w.heap.size with h' | h'
    · exact h'
    · simp [Array.getElem?_eq_none h'] at hk
  rw [h.block k hlt]; exact hk
noncomputable def lineR11 : Code := (Tryz.f20.body.bind (findRg 11)).getD .skip
def lineV (b g n c i q o : Nat) (k v : Int) : Nat → Value
  | 0 => .pointer (some ⟨b, 0, none⟩)
  | 1 => .slice (some ⟨g, 0, none⟩) n c
  | 2 => .int .i64 i
  | 3 => .pointer (some ⟨g, i, none⟩)
  | 4 => .int .i64 k
  | 5 => .string ⟨(letterB k).toArray⟩
  | 6 => .string (⟨#[32]⟩ ++ ⟨(letterB k).toArray⟩ : ByteArray)
  | 7 => .pointer (some ⟨q, o, none⟩)
  | 8 => .pointer (some ⟨q, o, none⟩)
  | 9 => .int .i64 v
  | 10 => .string ⟨(Lib.itoa v).toArray⟩
  | 11 => .string (⟨#[32]⟩ ++ ⟨(letterB k).toArray⟩ ++ ⟨(Lib.itoa v).toArray⟩ : ByteArray)
  | _ => undef
set_option maxRecDepth 100000 in
set_option maxHeartbeats 8000000 in
theorem lineR11_ok (W : World) {B : Nat} {b g n c i q o : Nat} {k v : Int} {bs : List Value} {s1 s2 s3 s4 s5 s7 s10 s11 s12 s13 s14 s15 s16 s17 s18 s19 s20 s21 s22 s23 s24 s25 s26 s27 s28 s29 s30 s31 s32 s33 s34 s35 s36 s37 s38 s39 s40 s41 s42 s43 s44 s45 s46 s47 s48 s49 s50 s51 s52 s53 s54 s55 s56 s57 s58 s59 s60 s61 s62 s63 s64 s65 s66 s67 s68 s69 s70 s71 s72 s73 s74 s75 s76 s77 s78 s79 s80 : Value} (Q : Exit → Act → World → Prop) (hBW : B ≤ W.heap.size) (hbd : Bldr B b bs W) (ht : Tb W) (hin : i < n) (hc : W.cell? ⟨g, i, none⟩ = some (.int .i64 k)) (hk : k = 1 ∨ k = 2 ∨ k = 3 ∨ k = 4 ∨ k = 5)
    (hv : W.cell? ⟨q, o, none⟩ = some (.int .i64 v)) (hv0 : -9223372036854775808 ≤ v) (hv1 : v ≤ 9223372036854775807) (hlen : bs.length ≤ 100000000) (hI : (Lib.itoa v).length ≤ 30)
    (hQ : ∀ (w' : World) (y55 y56 y57 y58 y59 y60 y61 y62 y63 y64 y65 y66 y67 : Value), BldrU B b (bs ++ Lib.strCells (⟨#[32]⟩ ++ ⟨(letterB k).toArray⟩ ++ ⟨(Lib.itoa v).toArray⟩ : ByteArray)) w' → Below B W w' → Lib.OthersKept 5 (some b) W w' → Q .normal ⟨#[.pointer (some ⟨b, 0, none⟩), s1, s2, s3, s4, s5, .slice (some ⟨g, 0, none⟩) n c, s7, .int .i64 i, .pointer (some ⟨q, o, none⟩), s10, s11, s12, s13, s14, s15, s16, s17, s18, s19, s20, s21, s22, s23, s24, s25, s26, s27, s28, s29, s30, s31, s32, s33, s34, s35, s36, s37, s38, s39, s40, s41, s42, s43, s44, s45, s46, s47, s48, s49, s50, s51, s52, s53, s54, y55, y56, y57, y58, y59, y60, y61, y62, y63, y64, y65, y66, y67, s68, s69, s70, s71, s72, s73, s74, s75, s76, s77, s78, s79, s80], []⟩ w') :
    Code.wp Tryz.prog lineR11 Q ⟨#[.pointer (some ⟨b, 0, none⟩), s1, s2, s3, s4, s5, .slice (some ⟨g, 0, none⟩) n c, s7, .int .i64 i, .pointer (some ⟨q, o, none⟩), s10, s11, s12, s13, s14, s15, s16, s17, s18, s19, s20, s21, s22, s23, s24, s25, s26, s27, s28, s29, s30, s31, s32, s33, s34, s35, s36, s37, s38, s39, s40, s41, s42, s43, s44, s45, s46, s47, s48, s49, s50, s51, s52, s53, s54, s55, s56, s57, s58, s59, s60, s61, s62, s63, s64, s65, s66, s67, s68, s69, s70, s71, s72, s73, s74, s75, s76, s77, s78, s79, s80], []⟩ W := by
  conv => arg 2; whnf
  have HQ := Lib.hid hQ
  have hL : (letterB k).length ≤ 1 := by rcases hk with rfl | rfl | rfl | rfl | rfl <;> decide
  have hsz : (⟨#[32]⟩ ++ ⟨(letterB k).toArray⟩ ++ ⟨(Lib.itoa v).toArray⟩ : ByteArray).size ≤ 1000 := by
    rw [str_app [32] (letterB k), str_app]
    show ((([32] ++ letterB k) ++ Lib.itoa v).toArray).size ≤ 1000
    simp only [List.size_toArray, List.length_append, List.length_cons, List.length_nil]
    omega
  have HD := Lib.hid hbd
  have HT := Lib.hid ht
  have HC := Lib.hid hc
  have HV := Lib.hid hv
  have hS0 : (fun (_ : Nat) (w : World) => Below W.heap.size W w) 0 W.drew := (Below.refl _ W).drew
  clear hQ hbd ht hc hv
  refine wp_region_end (fun u => ⟨#[.pointer (some ⟨b, 0, none⟩), s1, s2, s3, s4, s5, .slice (some ⟨g, 0, none⟩) n c, s7, .int .i64 i, .pointer (some ⟨q, o, none⟩), s10, s11, s12, s13, s14, s15, s16, s17, s18, s19, s20, s21, s22, s23, s24, s25, s26, s27, s28, s29, s30, s31, s32, s33, s34, s35, s36, s37, s38, s39, s40, s41, s42, s43, s44, s45, s46, s47, s48, s49, s50, s51, s52, s53, s54, u 0, u 1, u 2, u 3, u 4, u 5, u 6, u 7, u 8, u 9, u 10, u 11, s67, s68, s69, s70, s71, s72, s73, s74, s75, s76, s77, s78, s79, s80], []⟩) (fun _ w => Below W.heap.size W w) (fun w w' => Below w.heap.size w w') (fun j x _ => x = lineV b g n c i q o k v j) 12 (by kernel_rfl) rfl (by kernel_rfl) (by kernel_rfl) (by kernel_rfl) (fun _ => by kernel_rfl) hS0 (fun _ _ _ _ _ h => h) ?_ ?_
  · intro j oo hi ho kk w u hkk hS hw
    rcases (show j = 0 ∨ j = 1 ∨ j = 2 ∨ j = 3 ∨ j = 4 ∨ j = 5 ∨ j = 6 ∨ j = 7 ∨ j = 8 ∨ j = 9 ∨ j = 10 ∨ j = 11 by omega) with rfl | rfl | rfl | rfl | rfl | rfl | rfl | rfl | rfl | rfl | rfl | rfl
    · have e := Option.some.inj (ho : some _ = some oo)
      subst e
      clear ho
      refine Or.inl ⟨by rfl, ?_⟩
      dsimp only
      go_simp
      first | exact ⟨rfl, hS, Below.refl _ w⟩ | exact ⟨rfl, Below.refl _ w⟩ | exact ⟨hS, Below.refl _ w⟩ | exact Below.refl _ w
    · have e := Option.some.inj (ho : some _ = some oo)
      subst e
      clear ho
      refine Or.inl ⟨by rfl, ?_⟩
      dsimp only
      go_simp
      first | exact ⟨rfl, hS, Below.refl _ w⟩ | exact ⟨rfl, Below.refl _ w⟩ | exact ⟨hS, Below.refl _ w⟩ | exact Below.refl _ w
    · have e := Option.some.inj (ho : some _ = some oo)
      subst e
      clear ho
      refine Or.inl ⟨by rfl, ?_⟩
      dsimp only
      go_simp
      first | exact ⟨rfl, hS, Below.refl _ w⟩ | exact ⟨rfl, Below.refl _ w⟩ | exact ⟨hS, Below.refl _ w⟩ | exact Below.refl _ w
    · have e := Option.some.inj (ho : some _ = some oo)
      subst e
      clear ho
      refine Or.inl ⟨by rfl, ?_⟩
      have h1 : u 1 = .slice (some ⟨g, 0, none⟩) n c := hw 1 (by kernel_rfl)
      have h2 : u 2 = .int .i64 i := hw 2 (by kernel_rfl)
      dsimp only
      rw [h1, h2]
      go_simp
      first | exact ⟨rfl, hS, Below.refl _ w⟩ | exact ⟨rfl, Below.refl _ w⟩ | exact ⟨hS, Below.refl _ w⟩ | exact Below.refl _ w
    · have e := Option.some.inj (ho : some _ = some oo)
      subst e
      clear ho
      refine Or.inl ⟨by rfl, ?_⟩
      have h3 : u 3 = .pointer (some ⟨g, i, none⟩) := hw 3 (by kernel_rfl)
      dsimp only
      rw [h3]
      have c0 := below_cell hS HC.out
      go_simp
      first | exact ⟨rfl, hS, Below.refl _ w⟩ | exact ⟨rfl, Below.refl _ w⟩ | exact ⟨hS, Below.refl _ w⟩ | exact Below.refl _ w
    · have e := Option.some.inj (ho : some _ = some oo)
      subst e
      clear ho
      refine Or.inl ⟨by rfl, ?_⟩
      have h4 : u 4 = .int .i64 k := hw 4 (by kernel_rfl)
      dsimp only
      rw [h4]
      go_simp
      refine (letter_is k w hk).mono ?_
      rintro e w1 ⟨rfl, rfl⟩
      first | exact ⟨rfl, hS, Below.refl _ w⟩ | exact ⟨rfl, Below.refl _ w⟩ | exact ⟨hS, Below.refl _ w⟩ | exact Below.refl _ w
    · have e := Option.some.inj (ho : some _ = some oo)
      subst e
      clear ho
      refine Or.inl ⟨by rfl, ?_⟩
      have h5 : u 5 = .string ⟨(letterB k).toArray⟩ := hw 5 (by kernel_rfl)
      dsimp only
      rw [h5]
      go_simp
      rw [if_neg (by omega)]
      go_simp
      first | exact ⟨rfl, hS, Below.refl _ w⟩ | exact ⟨rfl, Below.refl _ w⟩ | exact ⟨hS, Below.refl _ w⟩ | exact Below.refl _ w
    · have e := Option.some.inj (ho : some _ = some oo)
      subst e
      clear ho
      refine Or.inl ⟨by rfl, ?_⟩
      dsimp only
      go_simp
      first | exact ⟨rfl, hS, Below.refl _ w⟩ | exact ⟨rfl, Below.refl _ w⟩ | exact ⟨hS, Below.refl _ w⟩ | exact Below.refl _ w
    · have e := Option.some.inj (ho : some _ = some oo)
      subst e
      clear ho
      refine Or.inl ⟨by rfl, ?_⟩
      have h7 : u 7 = .pointer (some ⟨q, o, none⟩) := hw 7 (by kernel_rfl)
      dsimp only
      rw [h7]
      go_simp
      first | exact ⟨rfl, hS, Below.refl _ w⟩ | exact ⟨rfl, Below.refl _ w⟩ | exact ⟨hS, Below.refl _ w⟩ | exact Below.refl _ w
    · have e := Option.some.inj (ho : some _ = some oo)
      subst e
      clear ho
      refine Or.inl ⟨by rfl, ?_⟩
      have h8 : u 8 = .pointer (some ⟨q, o, none⟩) := hw 8 (by kernel_rfl)
      dsimp only
      rw [h8]
      have c0 := below_cell hS HV.out
      go_simp
      first | exact ⟨rfl, hS, Below.refl _ w⟩ | exact ⟨rfl, Below.refl _ w⟩ | exact ⟨hS, Below.refl _ w⟩ | exact Below.refl _ w
    · have e := Option.some.inj (ho : some _ = some oo)
      subst e
      clear ho
      refine Or.inl ⟨by rfl, ?_⟩
      have h9 : u 9 = .int .i64 v := hw 9 (by kernel_rfl)
      dsimp only
      rw [h9]
      go_simp
      refine (itoa_any v hv0 hv1 w (HT.out.below hS)).mono ?_
      rintro e w1 ⟨rfl, hb⟩
      exact ⟨rfl, hS.trans (hb.mono hS.size), hb⟩
    · have e := Option.some.inj (ho : some _ = some oo)
      subst e
      clear ho
      refine Or.inl ⟨by rfl, ?_⟩
      have h6 : u 6 = .string (⟨#[32]⟩ ++ ⟨(letterB k).toArray⟩ : ByteArray) := hw 6 (by kernel_rfl)
      have h10 : u 10 = .string ⟨(Lib.itoa v).toArray⟩ := hw 10 (by kernel_rfl)
      dsimp only
      rw [h6, h10]
      go_simp
      rw [if_neg (by omega)]
      go_simp
      first | exact ⟨rfl, hS, Below.refl _ w⟩ | exact ⟨rfl, Below.refl _ w⟩ | exact ⟨hS, Below.refl _ w⟩ | exact Below.refl _ w
  · intro oo ho w u hS hV K' hK
    have e := Option.some.inj (ho : some _ = some oo)
    subst e
    clear ho
    rw [if_pos (by rfl)]
    have h1 : u 0 = .pointer (some ⟨b, 0, none⟩) := hV 0 (by omega)
    have h2 : u 11 = .string (⟨#[32]⟩ ++ ⟨(letterB k).toArray⟩ ++ ⟨(Lib.itoa v).toArray⟩ : ByteArray) := hV 11 (by omega)
    dsimp only
    rw [h1, h2]
    generalize hs : (⟨#[32]⟩ ++ ⟨(letterB k).toArray⟩ ++ ⟨(Lib.itoa v).toArray⟩ : ByteArray) = s at *
    have hz := hS.size
    go_simp
    refine (writeStr_any B b bs s w (HD.out.below hS) (by omega) (by omega)).mono ?_
    rintro e w9 ⟨rfl, hb9, hw9, ho9⟩
    refine hK _ _ ?_
    exact HQ.out w9 _ _ _ _ _ _ _ _ _ _ _ _ _ hb9 ((hS.mono hBW).trans hw9) ((others_below hS).trans ho9)
end Go.Proofs.YtpcejpcbkjnlkaaGreatDoor

namespace Go.Proofs.YtpcejpcbkjnlkaaGreatDoor
open Go.RowKit

theorem name_at (j : Nat) (hj : j < 12) : nameL[j]? = some (.string ⟨(nameB (4 + (j : Int))).toArray⟩) := by
  rcases (show j = 0 ∨ j = 1 ∨ j = 2 ∨ j = 3 ∨ j = 4 ∨ j = 5 ∨ j = 6 ∨ j = 7 ∨ j = 8 ∨ j = 9 ∨ j = 10 ∨ j = 11 by omega) with rfl | rfl | rfl | rfl | rfl | rfl | rfl | rfl | rfl | rfl | rfl | rfl <;> rfl
theorem name_length (j : Nat) (hj : j < 12) : (nameB (4 + (j : Int))).length ≤ 10 := by
  rcases (show j = 0 ∨ j = 1 ∨ j = 2 ∨ j = 3 ∨ j = 4 ∨ j = 5 ∨ j = 6 ∨ j = 7 ∨ j = 8 ∨ j = 9 ∨ j = 10 ∨ j = 11 by omega) with rfl | rfl | rfl | rfl | rfl | rfl | rfl | rfl | rfl | rfl | rfl | rfl <;> decide
noncomputable def lineR6 : Code := (Tryz.f20.body.bind (findRg 6)).getD .skip
def lineV6 (b m j : Nat) (k : Int) : Nat → Value → World → Prop
  | 0 => fun x _ => x = .pointer (some ⟨b, 0, none⟩)
  | 1 => fun x w => ∃ a : Nat, x = .slice (some ⟨a, 0, none⟩) 12 12 ∧ w.cell? ⟨a, j, none⟩ = some (.string ⟨(nameB k).toArray⟩)
  | 2 => fun x _ => x = .pointer (some ⟨m, 1, none⟩)
  | 3 => fun x _ => x = .int .i64 k
  | 4 => fun x _ => x = .int .i64 (j : Int)
  | 5 => fun x w => ∃ a : Nat, x = .pointer (some ⟨a, j, none⟩) ∧ w.cell? ⟨a, j, none⟩ = some (.string ⟨(nameB k).toArray⟩)
  | 6 => fun x _ => x = .string ⟨(nameB k).toArray⟩
  | 7 => fun x _ => x = .string (⟨#[32]⟩ ++ ⟨(nameB k).toArray⟩ : ByteArray)
  | _ => fun _ _ => True
theorem lineV6_stab {b m j : Nat} {k : Int} (i : Nat) (x : Value) (w w' : World) (hb : Below w.heap.size w w') (h : lineV6 b m j k i x w) : lineV6 b m j k i x w' := by
  by_cases h1 : i = 1
  · subst h1
    obtain ⟨a, e, hc⟩ := h
    exact ⟨a, e, below_cell hb hc⟩
  by_cases h5 : i = 5
  · subst h5
    obtain ⟨a, e, hc⟩ := h
    exact ⟨a, e, below_cell hb hc⟩
  unfold lineV6 at h ⊢
  split at h <;> first | exact h | contradiction
set_option maxRecDepth 100000 in
set_option maxHeartbeats 8000000 in
theorem lineR6_ok (W : World) {B b m j : Nat} {k : Int} {bs : List Value} {s1 s2 s4 s5 s6 s7 s8 s9 s10 s11 s12 s13 s14 s15 s16 s17 s18 s19 s20 s21 s22 s23 s24 s25 s26 s27 s28 s29 s30 s31 s32 s33 s34 s35 s36 s37 s38 s39 s40 s41 s42 s43 s44 s45 s46 s47 s48 s49 s50 s51 s52 s53 s54 s55 s56 s57 s58 s59 s60 s61 s62 s63 s64 s65 s66 s67 s68 s69 s70 s71 s72 s73 s74 s75 s76 s77 s78 s79 s80 : Value} (Q : Exit → Act → World → Prop) (hBW : B ≤ W.heap.size) (hbd : Bldr B b bs W) (hj : j < 12) (hk : k = 4 + (j : Int)) (hc : W.cell? ⟨m, 1, none⟩ = some (.int .i64 k)) (hlen : bs.length ≤ 100000000)
    (hQ : ∀ (w' : World) (y34 y35 y36 y37 y38 y39 y40 y41 y42 : Value), BldrU B b (bs ++ Lib.strCells (⟨#[32]⟩ ++ ⟨(nameB k).toArray⟩ : ByteArray)) w' → Below B W w' → Lib.OthersKept 5 (some b) W w' → Q .normal ⟨#[.pointer (some ⟨b, 0, none⟩), s1, s2, .pointer (some ⟨m, 0, none⟩), s4, s5, s6, s7, s8, s9, s10, s11, s12, s13, s14, s15, s16, s17, s18, s19, s20, s21, s22, s23, s24, s25, s26, s27, s28, s29, s30, s31, s32, s33, y34, y35, y36, y37, y38, y39, y40, y41, y42, s43, s44, s45, s46, s47, s48, s49, s50, s51, s52, s53, s54, s55, s56, s57, s58, s59, s60, s61, s62, s63, s64, s65, s66, s67, s68, s69, s70, s71, s72, s73, s74, s75, s76, s77, s78, s79, s80], []⟩ w') :
    Code.wp Tryz.prog lineR6 Q ⟨#[.pointer (some ⟨b, 0, none⟩), s1, s2, .pointer (some ⟨m, 0, none⟩), s4, s5, s6, s7, s8, s9, s10, s11, s12, s13, s14, s15, s16, s17, s18, s19, s20, s21, s22, s23, s24, s25, s26, s27, s28, s29, s30, s31, s32, s33, s34, s35, s36, s37, s38, s39, s40, s41, s42, s43, s44, s45, s46, s47, s48, s49, s50, s51, s52, s53, s54, s55, s56, s57, s58, s59, s60, s61, s62, s63, s64, s65, s66, s67, s68, s69, s70, s71, s72, s73, s74, s75, s76, s77, s78, s79, s80], []⟩ W := by
  conv => arg 2; whnf
  have HQ := Lib.hid hQ
  have HD := Lib.hid hbd
  have HC := Lib.hid hc
  have hL : (nameB k).length ≤ 10 := by rw [hk]; exact name_length j hj
  have HN : Hid (nameL[j]? = some (.string ⟨(nameB k).toArray⟩)) := Lib.hid (by rw [hk]; exact name_at j hj)
  have hw4 : IntKind.i64.wrap (k - 4) = (j : Int) := (IntWalk.i64_in _ ⟨by omega, by omega⟩).trans (by omega)
  have hw5 : wrap64 (k - 4) = (j : Int) := (IntWalk.wrap64_in _ ⟨by omega, by omega⟩).trans (by omega)
  have hsz : (⟨#[32]⟩ ++ ⟨(nameB k).toArray⟩ : ByteArray).size ≤ 1000 := by
    rw [str_app [32] (nameB k)]
    show (([32] ++ nameB k).toArray).size ≤ 1000
    simp only [List.size_toArray, List.length_append, List.length_cons, List.length_nil]
    omega
  have hS0 : (fun (_ : Nat) (w : World) => Below W.heap.size W w) 0 W.drew := (Below.refl _ W).drew
  clear hQ hbd hc hk
  refine wp_region_end (fun u => ⟨#[.pointer (some ⟨b, 0, none⟩), s1, s2, .pointer (some ⟨m, 0, none⟩), s4, s5, s6, s7, s8, s9, s10, s11, s12, s13, s14, s15, s16, s17, s18, s19, s20, s21, s22, s23, s24, s25, s26, s27, s28, s29, s30, s31, s32, s33, u 0, u 1, u 2, u 3, u 4, u 5, u 6, u 7, s42, s43, s44, s45, s46, s47, s48, s49, s50, s51, s52, s53, s54, s55, s56, s57, s58, s59, s60, s61, s62, s63, s64, s65, s66, s67, s68, s69, s70, s71, s72, s73, s74, s75, s76, s77, s78, s79, s80], []⟩) (fun _ w => Below W.heap.size W w) (fun w w' => Below w.heap.size w w') (lineV6 b m j k) 8 (by kernel_rfl) rfl (by kernel_rfl) (by kernel_rfl) (by kernel_rfl) (fun _ => by kernel_rfl) hS0 lineV6_stab ?_ ?_
  · intro jj oo hi ho kk w u hkk hS hw
    rcases (show jj = 0 ∨ jj = 1 ∨ jj = 2 ∨ jj = 3 ∨ jj = 4 ∨ jj = 5 ∨ jj = 6 ∨ jj = 7 by omega) with rfl | rfl | rfl | rfl | rfl | rfl | rfl | rfl
    · have e := Option.some.inj (ho : some _ = some oo)
      subst e
      clear ho
      refine Or.inl ⟨by rfl, ?_⟩
      dsimp only
      go_simp
      first | exact ⟨rfl, hS, Below.refl _ w⟩ | exact ⟨rfl, Below.refl _ w⟩ | exact ⟨hS, Below.refl _ w⟩ | exact Below.refl _ w
    · have e := Option.some.inj (ho : some _ = some oo)
      subst e
      clear ho
      refine Or.inl ⟨by rfl, ?_⟩
      dsimp only
      go_simp
      refine (names_any w).mono ?_
      rintro e w1 ⟨rfl, t, rfl⟩
      refine ⟨⟨w.heap.size, rfl, ?_⟩, hS.alloc hS.size _, (Below.refl _ w).alloc (Nat.le_refl _) _⟩
      rw [(Blk.new w t nameL.toArray).cell j]
      simpa using HN.out
    · have e := Option.some.inj (ho : some _ = some oo)
      subst e
      clear ho
      refine Or.inl ⟨by rfl, ?_⟩
      dsimp only
      go_simp
      first | exact ⟨rfl, hS, Below.refl _ w⟩ | exact ⟨rfl, Below.refl _ w⟩ | exact ⟨hS, Below.refl _ w⟩ | exact Below.refl _ w
    · have e := Option.some.inj (ho : some _ = some oo)
      subst e
      clear ho
      refine Or.inl ⟨by rfl, ?_⟩
      have h2 : u 2 = .pointer (some ⟨m, 1, none⟩) := hw 2 (by kernel_rfl)
      dsimp only
      rw [h2]
      have c0 := below_cell hS HC.out
      go_simp
      first | exact ⟨rfl, hS, Below.refl _ w⟩ | exact ⟨rfl, Below.refl _ w⟩ | exact ⟨hS, Below.refl _ w⟩ | exact Below.refl _ w
    · have e := Option.some.inj (ho : some _ = some oo)
      subst e
      clear ho
      refine Or.inl ⟨by rfl, ?_⟩
      have h3 : u 3 = .int .i64 k := hw 3 (by kernel_rfl)
      dsimp only
      rw [h3]
      go_simp
      first | exact ⟨rfl, hS, Below.refl _ w⟩ | exact ⟨rfl, Below.refl _ w⟩ | exact ⟨hS, Below.refl _ w⟩ | exact Below.refl _ w
    · have e := Option.some.inj (ho : some _ = some oo)
      subst e
      clear ho
      refine Or.inl ⟨by rfl, ?_⟩
      obtain ⟨a, h1, hca⟩ : lineV6 b m j k 1 (u 1) w := hw 1 (by kernel_rfl)
      have h4 : u 4 = .int .i64 (j : Int) := hw 4 (by kernel_rfl)
      dsimp only
      rw [h1, h4]
      go_simp
      rw [if_pos (by omega)]
      go_simp
      first | exact ⟨⟨a, rfl, hca⟩, hS, Below.refl _ w⟩ | exact ⟨⟨a, rfl, hca⟩, Below.refl _ w⟩
    · have e := Option.some.inj (ho : some _ = some oo)
      subst e
      clear ho
      refine Or.inl ⟨by rfl, ?_⟩
      obtain ⟨a, h5, hca⟩ : lineV6 b m j k 5 (u 5) w := hw 5 (by kernel_rfl)
      dsimp only
      rw [h5]
      go_simp
      first | exact ⟨rfl, hS, Below.refl _ w⟩ | exact ⟨rfl, Below.refl _ w⟩ | exact ⟨hS, Below.refl _ w⟩ | exact Below.refl _ w
    · have e := Option.some.inj (ho : some _ = some oo)
      subst e
      clear ho
      refine Or.inl ⟨by rfl, ?_⟩
      have h6 : u 6 = .string ⟨(nameB k).toArray⟩ := hw 6 (by kernel_rfl)
      dsimp only
      rw [h6]
      go_simp
      rw [if_neg (by omega)]
      go_simp
      first | exact ⟨rfl, hS, Below.refl _ w⟩ | exact ⟨rfl, Below.refl _ w⟩ | exact ⟨hS, Below.refl _ w⟩ | exact Below.refl _ w
  · intro oo ho w u hS hV K' hK
    have e := Option.some.inj (ho : some _ = some oo)
    subst e
    clear ho
    rw [if_pos (by rfl)]
    have h1 : u 0 = .pointer (some ⟨b, 0, none⟩) := hV 0 (by omega)
    have h2 : u 7 = .string (⟨#[32]⟩ ++ ⟨(nameB k).toArray⟩ : ByteArray) := hV 7 (by omega)
    dsimp only
    rw [h1, h2]
    generalize hs : (⟨#[32]⟩ ++ ⟨(nameB k).toArray⟩ : ByteArray) = s at *
    have hz := hS.size
    go_simp
    refine (writeStr_any B b bs s w (HD.out.below hS) (by omega) (by omega)).mono ?_
    rintro e w9 ⟨rfl, hb9, hw9, ho9⟩
    refine hK _ _ ?_
    exact HQ.out w9 _ _ _ _ _ _ _ _ _ hb9 ((hS.mono hBW).trans hw9) ((others_below hS).trans ho9)
end Go.Proofs.YtpcejpcbkjnlkaaGreatDoor

namespace Go.Proofs.YtpcejpcbkjnlkaaGreatDoor
open Go.RowKit

theorem Own.others {w w' : World} {T : Nat → Prop} {e : TypeId} {size n b : Nat} {v : Value} {xs : List Value} (h : Own w T e size v n xs) (ho : Lib.OthersKept 5 (some b) w w') (he : e ≠ 5) (hb : ∀ g, T g → g ≠ b) : Own w' T e size v n xs := by
  refine ⟨⟨h.1.1, ?_⟩, h.2⟩
  rcases h.1.2 with h2 | ⟨g, cap, cur, hv, hg, hh, r⟩
  · exact .inl h2
  · have hbk : v.ownBlock = some g := by rw [hv]; rfl
    refine .inr ⟨g, cap, cur, hv, hg, ho g _ hh (fun e => hb g (h.2 g hbk) (Option.some.inj e)) ?_, r⟩
    intro c fz e1
    injection e1 with _ e2 _
    exact he e2
theorem Blk.others {w w' : World} {g b : Nat} {t : TypeId} {cs : Array Value} (h : Blk w g t cs) (ho : Lib.OthersKept 5 (some b) w w') (he : t ≠ 5) (hb : g ≠ b) : Blk w' g t cs := by
  refine ho g _ h (fun e => hb (Option.some.inj e)) ?_
  intro c fz e1
  injection e1 with _ e2 _
  exact he e2
end Go.Proofs.YtpcejpcbkjnlkaaGreatDoor

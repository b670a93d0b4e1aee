/- chip.Text writes the lines of a code. chip.Assemble reads the text of a code. -/
import Derived.Test.YtpcejpcbkjnlkaaGreatDoorZa30
set_option linter.unusedVariables false
namespace Go.Proofs.YtpcejpcbkjnlkaaGreatDoor
open Go.RowKit

theorem text_bad (m : Mach) (hm : m.ok = false) (w : World) (v : Value) : Calls Tryz.prog 7 #[m.val, v] w fun e w' => e = .returned (.tuple #[.string ⟨#[]⟩, .int .i64 9]) ∧ Below w.heap.size w w' := by
  have HCM := Lib.hid (fun W => check_bad m hm W v)
  have HB := Lib.hid (Blk.new w 27 m.cells)
  have hi5 : (Tryz.prog.info? 27).map (·.size) = some 5 := by kernel_rfl
  have HB0 := Lib.hid ((Below.refl w.heap.size w).alloc (Nat.le_refl _) (.cells m.cells 27))
  unfold Mach.val at HCM ⊢
  unfold Mach.cells at HCM HB HB0 ⊢
  go_enter Tryz.func7, Tryz.ntmps7
  go_wp2_with (refine wpList_load_blk rfl 27 _ rfl w.heap.size rfl 27 _ _ HB.out Tryz.underlying27 rfl hi5 ?_)
  refine (HCM.out _).mono ?_
  rintro e w1 ⟨rfl, hb1⟩
  have HB1 := Lib.hid (HB0.out.trans (hb1.mono HB0.out.size))
  clear hb1
  go_wp2_with fail
  go_ret2
  exact ⟨rfl, HB1.out⟩
theorem textB_take {xs : List Ins} (h : ∀ x ∈ xs, (∃ f, formF x.op x.k = some f) ∧ Short x) (hn : xs.length ≤ 10000) (i : Nat) : (textB (xs.take i)).length ≤ 1510000 := by
  have h1 := textB_len (xs.take i) (fun x hx => h x (List.mem_of_mem_take hx))
  rw [List.length_take] at h1
  have h2 : 151 * min i xs.length ≤ 151 * 10000 := Nat.mul_le_mul_left 151 (by omega)
  omega
set_option maxRecDepth 100000 in
set_option maxHeartbeats 8000000 in
theorem text_any (m : Mach) (hm : m.ok = true) (w : World) {T : Nat → Prop} {v : Value} (xs : List Ins) (h : Own w T 44 9 v xs.length (insL xs)) (hc : CodeOk m xs) (ht : Tb w) (hn : xs.length ≤ 10000) :
    Calls Tryz.prog 7 #[m.val, v] w fun e w' => e = .returned (.tuple #[.string ⟨(textB xs).toArray⟩, .int .i64 0]) ∧ Below w.heap.size w w' := by
  have hmo := m.ok_out hm
  have HSM : Hid (∀ x ∈ xs, Short x) := Lib.hid (fun x hx => (hc.ins x hx).short (by omega) (by omega))
  have HIN := Lib.hid hc.ins
  have HTL := Lib.hid (textB_take (fun x hx => ⟨⟨_, (hc.ins x hx).choose_spec.1⟩, HSM.out x hx⟩) hn)
  have HB := Lib.hid (Blk.new w 27 m.cells)
  have hi5 : (Tryz.prog.info? 27).map (·.size) = some 5 := by kernel_rfl
  have hi9 : (Tryz.prog.info? 44).map (·.size) = some 9 := by kernel_rfl
  have HB0 := Lib.hid ((Below.refl w.heap.size w).alloc (Nat.le_refl _) (.cells m.cells 27))
  have HCM := Lib.hid (fun W (hb : Below w.heap.size w W) => check_any m hm W xs (h.fresh hb) hc)
  have HT := Lib.hid ht
  obtain ⟨A, c, rfl, -, -⟩ := h.shape
  have H := Lib.hid h
  obtain ⟨N, hN⟩ : ∃ N, N = xs.length := ⟨_, rfl⟩
  rw [← hN] at hn HCM ⊢
  unfold Mach.val at HCM ⊢
  unfold Mach.cells at HCM HB HB0 ⊢
  have HN := Lib.hid hN
  clear h hc hm hN hmo ht
  go_enter Tryz.func7, Tryz.ntmps7
  go_wp2_with (refine wpList_load_blk rfl 27 _ rfl w.heap.size rfl 27 _ _ HB.out Tryz.underlying27 rfl hi5 ?_)
  refine (HCM.out _ HB0.out).mono ?_
  rintro e w1 ⟨rfl, hb1⟩
  have HB1 := Lib.hid (HB0.out.trans (hb1.mono HB0.out.size))
  have HBU := Lib.hid (Lib.fresh_isBuilder 58 5 w1)
  have HB2 := Lib.hid (HB1.out.alloc HB1.out.size (.cells #[.pointer none, .slice none 0 0] 58))
  have HT1 := Lib.hid (HT.out.below HB1.out)
  have HTW : Hid (∀ W, Below w1.heap.size (w1.alloc (.cells #[.pointer none, .slice none 0 0] 58)) W → Tb W) := Lib.hid (fun W hb => HT1.out.below (((Below.refl _ _).alloc (Nat.le_refl _) _).trans hb))
  clear hb1 HB HB0 HCM HT1
  go_upto_region 5 with (fail)
  obtain ⟨W0, hW0⟩ : ∃ W0, W0 = w1.alloc (.cells #[.pointer none, .slice none 0 0] 58) := ⟨_, rfl⟩
  have z0 : w1.heap.size < W0.heap.size := by rw [hW0]; simp
  have z1 : w.heap.size ≤ w1.heap.size := HB1.out.size
  rw [← hW0] at HBU HB2 HTW ⊢
  clear hW0 HB1
  obtain ⟨Bb, hBb⟩ : ∃ Bb, Bb = w1.heap.size := ⟨_, rfl⟩
  rw [← hBb] at HBU z0 z1 HTW ⊢
  clear hBb
  go_wp2_with fail
  go_loopw [18] (fun iv wr => ∃ i : Nat, i ≤ N ∧ iv = .int .i64 i ∧ Bldr Bb Bb (Lib.byteCells (textB (xs.take i))) wr ∧ Below Bb W0 wr) (fun iv _ => N - (intOf iv).toNat)
  case atStart => exact ⟨0, by omega, rfl, HBU.out, Below.refl _ _⟩
  obtain ⟨i, hi, rfl, hdr, hbr⟩ := hrel
  have HDr := Lib.hid hdr
  have HBr := Lib.hid hbr
  have zr := hbr.size
  have HWr := Lib.hid (HB2.out.trans (hbr.mono z1))
  clear hdr hbr
  by_cases hlt : i < N
  · have hix : i < xs.length := by rw [← HN.out]; exact hlt
    have hcode := H.out.fresh HWr.out
    obtain ⟨g, cap, hA, -, -, hgl, -⟩ := hcode.form (by omega)
    injection hA with hA1 hA2 hA3
    subst hA1 hA3
    obtain ⟨d0, d1, d2, d3, d4, d5, d6, d7, d8⟩ := hcode.ins i hix
    have HST : Hid (textB (xs.take (i + 1)) = textB (xs.take i) ++ rowB xs[i]) := Lib.hid (by rw [List.take_succ_eq_append_getElem hix, textB_snoc])
    have hins := HIN.out xs[i] (List.getElem_mem hix)
    have hsm := HSM.out xs[i] (List.getElem_mem hix)
    have hTl := HTL.out i
    obtain ⟨x, hx⟩ : ∃ x, x = xs[i] := ⟨_, rfl⟩
    rw [← hx] at d0 d1 d2 d3 d4 d5 d6 d7 d8 hins hsm HST
    have hkn := hins.known
    obtain ⟨f, hf, ho⟩ := hins
    have hfm := (form_small hf).2.2.2.2.2.2.2
    have HLI := Lib.hid (fun W => line_any Bb Bb (Lib.byteCells (textB (xs.take i))) x f hf hkn hsm (fun e => by have := (ho.ex.2.2.2.2 e).1; omega) (fun e1 e2 => by
      have h12 : x.op = 2 ∨ x.op = 11 := by rcases hfm e1 with e | e | e <;> first | exact .inl e | exact .inr e | exact absurd e e2
      exact args_range (ho.ex.1 h12).1) W)
    have HRB : Hid (rowB x = lineB f x ++ [10]) := Lib.hid (by unfold rowB; rw [frmOf_eq hf])
    unfold Ins.cells at HLI
    have HBX := Lib.hid ((Below.refl wr.heap.size wr).alloc (Nat.le_refl _) (.cells #[.int .i64 x.op, .int .i64 x.k, .int .i64 x.d, .int .i64 x.a, .int .i64 x.b, .int .i64 x.c, .int .i64 x.p, .int .i64 x.n, .int .i64 x.m] 44))
    have hlb : (Lib.byteCells (textB (xs.take i))).length ≤ 10000000 := by rw [byteCells_len]; omega
    clear hcode hx hkn hf ho hsm hfm hTl hA2
    go_wp2_with fail
    refine (HLI.out _ (by simp; omega) (HDr.out.below HBX.out) (fun W hb => HTW.out W ((HBr.out.trans (HBX.out.mono (by omega))).trans hb)) hlb).mono ?_
    rintro e w3 ⟨rfl, hd3, hb3, -⟩
    have HD3 : Hid (Bldr Bb Bb (Lib.byteCells (textB (xs.take (i + 1)))) w3) := Lib.hid (Or.inr (by rw [HST.out, HRB.out, byteCells_app]; exact hd3))
    have HB3 := Lib.hid ((HBr.out.trans (HBX.out.mono (by omega))).trans hb3)
    clear hd3 hb3 d0 d1 d2 d3 d4 d5 d6 d7 d8
    go_wp2_with fail
    go_roundw
    case rel => exact ⟨i + 1, by omega, by go_num, HD3.out, HB3.out⟩
    case measure => simp [intOf]; omega
  · obtain rfl : i = N := by omega
    have HD9 : Hid (Bldr Bb Bb (Lib.byteCells (textB xs)) wr) := Lib.hid (by have := HDr.out; rwa [HN.out, List.take_length] at this)
    go_wp2_with fail
    refine (Tryz.Builder_String_any Bb Bb (textB xs) wr HD9.out (by omega)).mono ?_
    rintro e w4 ⟨rfl, hb4⟩
    have HB4 := Lib.hid (HWr.out.trans (hb4.mono z1))
    clear hb4
    go_wp2_with fail
    go_ret2
    exact ⟨rfl, HB4.out⟩
end Go.Proofs.YtpcejpcbkjnlkaaGreatDoor

namespace Go.Proofs.YtpcejpcbkjnlkaaGreatDoor
open Go.RowKit

theorem assemble_bad (m : Mach) (hm : m.ok = false) (w : World) (v : Value) : Calls Tryz.prog 8 #[m.val, v] w fun e w' => e = .returned (.tuple #[.slice none 0 0, .int .i64 9]) ∧ Below w.heap.size w w' := by
  have HCM := Lib.hid (fun W => cm_any m W)
  rw [hm] at HCM
  have HB := Lib.hid (Blk.new w 27 m.cells)
  have hi5 : (Tryz.prog.info? 27).map (·.size) = some 5 := by kernel_rfl
  have HB0 := Lib.hid ((Below.refl w.heap.size w).alloc (Nat.le_refl _) (.cells m.cells 27))
  unfold Mach.val at HCM ⊢
  unfold Mach.cells at HCM HB HB0 ⊢
  go_enter Tryz.func8, Tryz.ntmps8
  go_wp2_with (refine wpList_load_blk rfl 27 _ rfl w.heap.size rfl 27 _ _ HB.out Tryz.underlying27 rfl hi5 ?_)
  refine (HCM.out _).mono ?_
  rintro e w1 ⟨rfl, hb1⟩
  have HB1 := Lib.hid (HB0.out.trans (hb1.mono HB0.out.size))
  clear hb1
  go_wp2_with fail
  go_ret2
  exact ⟨rfl, HB1.out⟩
def strLen : Value → Nat
  | .string s => s.size
  | _ => 0
theorem cut_any (x : Ins) (f : Frm) (hf : formF x.op x.k = some f) (r : List Ins) (w : World) (hm : Mx w) (hsz : (textB (x :: r)).length ≤ 2000000) :
    Calls Tryz.prog 22 #[.string ⟨(textB (x :: r)).toArray⟩, .string ⟨#[10]⟩] w fun e w' => e = .returned (.tuple #[.string ⟨(lineB f x).toArray⟩, .string ⟨(textB r).toArray⟩, .bool true]) ∧ Below w.heap.size w w' := by
  obtain ⟨m, hm⟩ := hm
  refine (Tryz.strings_Cut ⟨(textB (x :: r)).toArray⟩ ⟨#[10]⟩ m w (by show (textB (x :: r)).toArray.size < _; simp only [List.size_toArray]; omega) hm).mono ?_
  rintro e w' ⟨rfl, n, rfl⟩
  rw [show (⟨(textB (x :: r)).toArray⟩ : ByteArray).data.toList = textB (x :: r) by simp, show (⟨#[10]⟩ : ByteArray).data.toList = [10] from rfl, text_cut hf r]
  exact ⟨rfl, ⟨rfl, rfl, rfl, Nat.le_refl _, fun _ _ => rfl⟩⟩
set_option maxRecDepth 100000 in
set_option maxHeartbeats 16000000 in
theorem assemble_any (m : Mach) (hm : m.ok = true) (w : World) (xs : List Ins) (hc : CodeOk m xs) (hmx : Mx w) (ht : Tb w) (hn : xs.length ≤ 10000) :
    Calls Tryz.prog 8 #[m.val, .string ⟨(textB xs).toArray⟩] w fun e w' => ∃ v', e = .returned (.tuple #[v', .int .i64 0]) ∧ Own w' (w.heap.size ≤ ·) 44 9 v' xs.length (insL xs) ∧ Below w.heap.size w w' := by
  obtain ⟨i0, hi0, hz0, hz1, hz2⟩ := info_parts ins_info
  have hmo := m.ok_out hm
  have HSM : Hid (∀ x ∈ xs, Short x) := Lib.hid (fun x hx => (hc.ins x hx).short (by omega) (by omega))
  have HIN := Lib.hid hc.ins
  have hfs : ∀ x ∈ xs, (∃ f, formF x.op x.k = some f) ∧ Short x := fun x hx => ⟨⟨_, (hc.ins x hx).choose_spec.1⟩, HSM.out x hx⟩
  have HTL : Hid (∀ i, (textB (xs.drop i)).length ≤ 1510000) := Lib.hid (fun i => by
    have h1 := textB_len (xs.drop i) (fun x hx => hfs x (List.mem_of_mem_drop hx))
    rw [List.length_drop] at h1
    have h2 : 151 * (xs.length - i) ≤ 151 * 10000 := Nat.mul_le_mul_left 151 (by omega)
    omega)
  have HPOS : Hid (∀ x ∈ xs, ∀ f, formF x.op x.k = some f → 1 ≤ (lineB f x).length) := Lib.hid (fun x hx f hf => (line_len hf (HSM.out x hx)).1)
  have HB := Lib.hid (Blk.new w 27 m.cells)
  have hi5 : (Tryz.prog.info? 27).map (·.size) = some 5 := by kernel_rfl
  have hi9 : (Tryz.prog.info? 44).map (·.size) = some 9 := by kernel_rfl
  have HB0 := Lib.hid ((Below.refl w.heap.size w).alloc (Nat.le_refl _) (.cells m.cells 27))
  have HCM := Lib.hid (fun W => cm_any m W)
  rw [if_pos hm] at HCM
  have HCK := Lib.hid (fun W T v (h : Own W T 44 9 v xs.length (insL xs)) => check_any m hm W xs h hc)
  have HT := Lib.hid ht
  have HMX := Lib.hid hmx
  obtain ⟨N, hN⟩ : ∃ N, N = xs.length := ⟨_, rfl⟩
  obtain ⟨S, hS⟩ : ∃ S, S = (⟨(textB xs).toArray⟩ : ByteArray) := ⟨_, rfl⟩
  have hSz : S.size ≤ 1510000 := by
    rw [hS]
    show (textB xs).toArray.size ≤ _
    have := HTL.out 0
    rw [List.drop_zero] at this
    simpa using this
  rw [← hN] at hn HCK ⊢
  rw [← hS]
  unfold Mach.val at HCM HCK ⊢
  unfold Mach.cells at HCM HCK HB HB0 ⊢
  have HN := Lib.hid hN
  have HSS := Lib.hid hS
  have hgt : ¬ (60000000 : Int) < (S.size : Int) := by omega
  clear hc hm hN hmo ht hmx hfs hS
  go_enter Tryz.func8, Tryz.ntmps8
  go_wp2_with (refine wpList_load_blk rfl 27 _ rfl w.heap.size rfl 27 _ _ HB.out Tryz.underlying27 rfl hi5 ?_)
  refine (HCM.out _).mono ?_
  rintro e w1 ⟨rfl, hb1⟩
  have HB1 := Lib.hid (HB0.out.trans (hb1.mono HB0.out.size))
  have HM1 := Lib.hid (HB.out.below hb1 HB.out.lt)
  clear hb1 HB HB0 HCM
  go_wp2_with fail
  clear hgt hSz
  go_loopw [1, 7] (fun sv ov wr => ∃ i : Nat, i ≤ N ∧ sv = .string ⟨(textB (xs.drop i)).toArray⟩ ∧ Own wr (w1.heap.size ≤ ·) 44 9 ov i (insL (xs.take i)) ∧ Below w1.heap.size w1 wr) (fun sv _ _ => strLen sv)
  case atStart => exact ⟨0, by omega, by rw [HSS.out, List.drop_zero], Own.nil_ _ _ _ _, Below.refl _ _⟩
  obtain ⟨i, hi, rfl, ho, hbr⟩ := hrel
  have HBR := Lib.hid hbr
  have HO := Lib.hid ho
  have zr := hbr.size
  have HBw := Lib.hid (HB1.out.trans (hbr.mono HB1.out.size))
  obtain ⟨A3, c3, rfl, -, -⟩ := ho.shape
  clear hbr ho
  by_cases hlt : i < N
  · have hix : i < xs.length := by rw [← HN.out]; exact hlt
    have hins := HIN.out xs[i] (List.getElem_mem hix)
    have hsm := HSM.out xs[i] (List.getElem_mem hix)
    have hpos := HPOS.out xs[i] (List.getElem_mem hix)
    have HST : Hid (insL (xs.take (i + 1)) = insL (xs.take i) ++ xs[i].cells.toList) := Lib.hid (by rw [List.take_succ_eq_append_getElem hix, insL_snoc])
    have hdr : xs.drop i = xs[i] :: xs.drop (i + 1) := List.drop_eq_getElem_cons hix
    have hTi := HTL.out i
    obtain ⟨x, hx⟩ : ∃ x, x = xs[i] := ⟨_, rfl⟩
    rw [← hx] at hins hsm hpos HST hdr
    have hkn := hins.known
    obtain ⟨f, hf, hfo⟩ := hins
    rw [hdr] at hTi ⊢
    have hpos := hpos f hf
    have HLEN : Hid ((textB (x :: xs.drop (i + 1))).length = (lineB f x).length + 1 + (textB (xs.drop (i + 1))).length) := Lib.hid (by rw [textB_cons]; unfold rowB; rw [frmOf_eq hf]; simp only [List.length_append, List.length_cons, List.length_nil])
    have HCUT := Lib.hid (fun W h => cut_any x f hf (xs.drop (i + 1)) W h (by omega))
    have HRL := Lib.hid (fun W h1 h2 => readLine_any x f hf hfo hkn hsm W h1 h2)
    have hne : (textB (x :: xs.drop (i + 1))).isEmpty = false := by
      cases hE : textB (x :: xs.drop (i + 1)) with
      | nil =>
        have := HLEN.out
        rw [hE] at this
        simp only [List.length_nil] at this
        omega
      | cons _ _ => rfl
    have HPS := Lib.hid hpos
    clear hx hkn hf hfo hsm hpos hdr hTi hix
    go_wp2_with fail
    refine (HCUT.out _ (HMX.out.below HBw.out)).mono ?_
    rintro e w2 ⟨rfl, hb2⟩
    have HO2 := Lib.hid (HO.out.fresh hb2)
    have HBw2 := Lib.hid (HBw.out.trans (hb2.mono HBw.out.size))
    have HB2 := Lib.hid (HBR.out.trans (hb2.mono zr))
    clear hb2 hne
    go_wp2_with fail
    refine (HRL.out _ (HMX.out.below HBw2.out) (HT.out.below HBw2.out)).mono ?_
    rintro e w3 ⟨rfl, hb3⟩
    have HO3 := Lib.hid ((HO2.out.fresh hb3).alloc (.cells #[.int .i64 x.op, .int .i64 x.k, .int .i64 x.d, .int .i64 x.a, .int .i64 x.b, .int .i64 x.c, .int .i64 x.p, .int .i64 x.n, .int .i64 x.m] 44))
    have HB3 := Lib.hid (HB2.out.trans (hb3.mono HB2.out.size))
    have HB4 := Lib.hid (HB3.out.alloc HB3.out.size (.cells #[.int .i64 x.op, .int .i64 x.k, .int .i64 x.d, .int .i64 x.a, .int .i64 x.b, .int .i64 x.c, .int .i64 x.p, .int .i64 x.n, .int .i64 x.m] 44))
    have HX4 := Lib.hid (Blk.new w3 44 #[.int .i64 x.op, .int .i64 x.k, .int .i64 x.d, .int .i64 x.a, .int .i64 x.b, .int .i64 x.c, .int .i64 x.p, .int .i64 x.n, .int .i64 x.m])
    have z3 := HB3.out.size
    clear hb3 HO2 HB2
    go_upto_region 12 with (fail)
    generalize hw4 : w3.alloc (.cells #[.int .i64 x.op, .int .i64 x.k, .int .i64 x.d, .int .i64 x.a, .int .i64 x.b, .int .i64 x.c, .int .i64 x.p, .int .i64 x.n, .int .i64 x.m] 44) = w4 at *
    have z4 : w1.heap.size ≤ w4.heap.size := HB4.out.size
    clear hw4
    go_wp2_with (first | (refine wpList_load_blk rfl 44 _ rfl w3.heap.size rfl 44 _ _ HX4.out Tryz.underlying44 rfl hi9 ?_) | (at_builtin; go_must (refine wpList_append_any _ rfl _ _ 29 rfl 44 i0 _ 9 72 Tryz.underlying29 hi0 hz0 hz1 hz2 rfl (by omega) (.slice A3 i c3) i _ rfl (HO3.out.alloc _) _ 1 1 _ rfl (reads_rowE w4 _ [.int .i64 x.op, .int .i64 x.k, .int .i64 x.d, .int .i64 x.a, .int .i64 x.b, .int .i64 x.c, .int .i64 x.p, .int .i64 x.n, .int .i64 x.m] 9 1 rfl) (ins_one x) (by unfold maxLen; omega) (by omega) ?_); intro v' w8 happ))
    obtain ⟨p1, p2, p3⟩ := happ
    have HP1 := Lib.hid p1
    have hvb : ∀ g, (Value.slice A3 i c3).ownBlock = some g → w1.heap.size ≤ g := fun g e => HO3.out.2 g e
    have HB8 := Lib.hid ((HB4.out.alloc z4 _).grown p2 (by simp; omega) (fun g e => hvb g e))
    clear p1 p2 p3
    go_wp2_with fail
    go_roundw
    case rel =>
      refine ⟨i + 1, by omega, rfl, ?_, HB8.out⟩
      rw [HST.out]
      exact HP1.out.more fun g _ h => by
        rcases h with h | h
        · exact h
        · simp at h; omega
    case measure =>
      show (textB (xs.drop (i + 1))).toArray.size < (textB (x :: xs.drop (i + 1))).toArray.size
      have := HLEN.out
      simp only [List.size_toArray]
      omega
  · obtain rfl : i = N := by omega
    have ho := HO.out
    rw [HN.out, List.take_length, ← HN.out] at ho
    have HMr := Lib.hid (HM1.out.below HBR.out HM1.out.lt)
    have HO6 := Lib.hid ho
    rw [show xs.drop i = [] by rw [HN.out]; exact List.drop_length, show (⟨(textB []).toArray⟩ : ByteArray) = ⟨#[]⟩ from rfl]
    clear ho
    go_wp2_with (refine wpList_load_blk rfl 27 _ rfl w.heap.size rfl 27 _ _ HMr.out Tryz.underlying27 rfl hi5 ?_)
    refine (HCK.out _ _ _ HO6.out).mono ?_
    rintro e w5 ⟨rfl, hb5⟩
    have HO7 := Lib.hid (HO6.out.fresh hb5)
    have HB7 := Lib.hid (HBw.out.trans (hb5.mono HBw.out.size))
    clear hb5
    go_wp2_with fail
    go_ret2
    exact ⟨_, rfl, HO7.out.more fun g _ h => by have := HB1.out.size; omega, HB7.out⟩
end Go.Proofs.YtpcejpcbkjnlkaaGreatDoor

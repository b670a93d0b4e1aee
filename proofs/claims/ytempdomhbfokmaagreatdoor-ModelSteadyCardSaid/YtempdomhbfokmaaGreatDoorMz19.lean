/- The last region of Stream.Model. -/
import Derived.Test.YtempdomhbfokmaaGreatDoorMz18
import Derived.Laws.ResultCell
namespace Go.Proofs.YtempdomhbfokmaaGreatDoor
open Go.RowKit

theorem keeps11' (w : World) (g : Nat) (a0 a1 a2 a3 a4 a5 a6 a7 a8 a9 a10 : Value) : Keeps (· = g) w (((((((((((w.setCell ⟨g, 0, none⟩ a0).setCell ⟨g, 1, none⟩ a1).setCell ⟨g, 2, none⟩ a2).setCell ⟨g, 3, none⟩ a3).setCell ⟨g, 4, none⟩ a4).setCell ⟨g, 5, none⟩ a5).setCell ⟨g, 6, none⟩ a6).setCell ⟨g, 7, none⟩ a7).setCell ⟨g, 8, none⟩ a8).setCell ⟨g, 9, none⟩ a9).setCell ⟨g, 10, none⟩ a10) :=
  Keeps.setCell (p := ⟨g, 10, none⟩) (Keeps.setCell (p := ⟨g, 9, none⟩) (Keeps.setCell (p := ⟨g, 8, none⟩) (Keeps.setCell (p := ⟨g, 7, none⟩) (Keeps.setCell (p := ⟨g, 6, none⟩) (Keeps.setCell (p := ⟨g, 5, none⟩) (Keeps.setCell (p := ⟨g, 4, none⟩) (Keeps.setCell (p := ⟨g, 3, none⟩) (Keeps.setCell (p := ⟨g, 2, none⟩) (Keeps.setCell (p := ⟨g, 1, none⟩) (Keeps.setCell (p := ⟨g, 0, none⟩) (Keeps.refl (· = g) w) (fun _ => rfl) _) (fun _ => rfl) _) (fun _ => rfl) _) (fun _ => rfl) _) (fun _ => rfl) _) (fun _ => rfl) _) (fun _ => rfl) _) (fun _ => rfl) _) (fun _ => rfl) _) (fun _ => rfl) _) (fun _ => rfl) _
theorem blk11' (w : World) (g : Nat) (t : TypeId) (b0 b1 b2 b3 b4 b5 b6 b7 b8 b9 b10 a0 a1 a2 a3 a4 a5 a6 a7 a8 a9 a10 : Value) (h : Blk w g t #[b0, b1, b2, b3, b4, b5, b6, b7, b8, b9, b10]) :
    Blk (((((((((((w.setCell ⟨g, 0, none⟩ a0).setCell ⟨g, 1, none⟩ a1).setCell ⟨g, 2, none⟩ a2).setCell ⟨g, 3, none⟩ a3).setCell ⟨g, 4, none⟩ a4).setCell ⟨g, 5, none⟩ a5).setCell ⟨g, 6, none⟩ a6).setCell ⟨g, 7, none⟩ a7).setCell ⟨g, 8, none⟩ a8).setCell ⟨g, 9, none⟩ a9).setCell ⟨g, 10, none⟩ a10) g t #[a0, a1, a2, a3, a4, a5, a6, a7, a8, a9, a10] := by
  have h : Blk (w.setCell ⟨g, 0, none⟩ a0) g t #[a0, b1, b2, b3, b4, b5, b6, b7, b8, b9, b10] := h.set_ 0 a0
  have h : Blk ((w.setCell ⟨g, 0, none⟩ a0).setCell ⟨g, 1, none⟩ a1) g t #[a0, a1, b2, b3, b4, b5, b6, b7, b8, b9, b10] := h.set_ 1 a1
  have h : Blk (((w.setCell ⟨g, 0, none⟩ a0).setCell ⟨g, 1, none⟩ a1).setCell ⟨g, 2, none⟩ a2) g t #[a0, a1, a2, b3, b4, b5, b6, b7, b8, b9, b10] := h.set_ 2 a2
  have h : Blk ((((w.setCell ⟨g, 0, none⟩ a0).setCell ⟨g, 1, none⟩ a1).setCell ⟨g, 2, none⟩ a2).setCell ⟨g, 3, none⟩ a3) g t #[a0, a1, a2, a3, b4, b5, b6, b7, b8, b9, b10] := h.set_ 3 a3
  have h : Blk (((((w.setCell ⟨g, 0, none⟩ a0).setCell ⟨g, 1, none⟩ a1).setCell ⟨g, 2, none⟩ a2).setCell ⟨g, 3, none⟩ a3).setCell ⟨g, 4, none⟩ a4) g t #[a0, a1, a2, a3, a4, b5, b6, b7, b8, b9, b10] := h.set_ 4 a4
  have h : Blk ((((((w.setCell ⟨g, 0, none⟩ a0).setCell ⟨g, 1, none⟩ a1).setCell ⟨g, 2, none⟩ a2).setCell ⟨g, 3, none⟩ a3).setCell ⟨g, 4, none⟩ a4).setCell ⟨g, 5, none⟩ a5) g t #[a0, a1, a2, a3, a4, a5, b6, b7, b8, b9, b10] := h.set_ 5 a5
  have h : Blk (((((((w.setCell ⟨g, 0, none⟩ a0).setCell ⟨g, 1, none⟩ a1).setCell ⟨g, 2, none⟩ a2).setCell ⟨g, 3, none⟩ a3).setCell ⟨g, 4, none⟩ a4).setCell ⟨g, 5, none⟩ a5).setCell ⟨g, 6, none⟩ a6) g t #[a0, a1, a2, a3, a4, a5, a6, b7, b8, b9, b10] := h.set_ 6 a6
  have h : Blk ((((((((w.setCell ⟨g, 0, none⟩ a0).setCell ⟨g, 1, none⟩ a1).setCell ⟨g, 2, none⟩ a2).setCell ⟨g, 3, none⟩ a3).setCell ⟨g, 4, none⟩ a4).setCell ⟨g, 5, none⟩ a5).setCell ⟨g, 6, none⟩ a6).setCell ⟨g, 7, none⟩ a7) g t #[a0, a1, a2, a3, a4, a5, a6, a7, b8, b9, b10] := h.set_ 7 a7
  have h : Blk (((((((((w.setCell ⟨g, 0, none⟩ a0).setCell ⟨g, 1, none⟩ a1).setCell ⟨g, 2, none⟩ a2).setCell ⟨g, 3, none⟩ a3).setCell ⟨g, 4, none⟩ a4).setCell ⟨g, 5, none⟩ a5).setCell ⟨g, 6, none⟩ a6).setCell ⟨g, 7, none⟩ a7).setCell ⟨g, 8, none⟩ a8) g t #[a0, a1, a2, a3, a4, a5, a6, a7, a8, b9, b10] := h.set_ 8 a8
  have h : Blk ((((((((((w.setCell ⟨g, 0, none⟩ a0).setCell ⟨g, 1, none⟩ a1).setCell ⟨g, 2, none⟩ a2).setCell ⟨g, 3, none⟩ a3).setCell ⟨g, 4, none⟩ a4).setCell ⟨g, 5, none⟩ a5).setCell ⟨g, 6, none⟩ a6).setCell ⟨g, 7, none⟩ a7).setCell ⟨g, 8, none⟩ a8).setCell ⟨g, 9, none⟩ a9) g t #[a0, a1, a2, a3, a4, a5, a6, a7, a8, a9, b10] := h.set_ 9 a9
  have h : Blk (((((((((((w.setCell ⟨g, 0, none⟩ a0).setCell ⟨g, 1, none⟩ a1).setCell ⟨g, 2, none⟩ a2).setCell ⟨g, 3, none⟩ a3).setCell ⟨g, 4, none⟩ a4).setCell ⟨g, 5, none⟩ a5).setCell ⟨g, 6, none⟩ a6).setCell ⟨g, 7, none⟩ a7).setCell ⟨g, 8, none⟩ a8).setCell ⟨g, 9, none⟩ a9).setCell ⟨g, 10, none⟩ a10) g t #[a0, a1, a2, a3, a4, a5, a6, a7, a8, a9, a10] := h.set_ 10 a10
  exact h


def zeroM : Array Value := #[.int .i64 0, .int .i64 0, .int .i64 0, .int .i64 0, .slice none 0 0, .slice none 0 0, .slice none 0 0, .slice none 0 0, .slice none 0 0, .slice none 0 0, .slice none 0 0]
noncomputable def modelR (n : Nat) : Code := (Tryz.f11.body.bind (findRegion n)).getD .skip
set_option maxRecDepth 100000 in
set_option maxHeartbeats 4000000 in
theorem model_r26 (w : World) (r b : Nat) (A4 A5 A6 A7 A8 A9 A10 : Option Addr) (N4 N5 N6 N7 N8 N9 N10 c4 c5 c6 c7 c8 c9 c10 : Nat) (x0 x1 x2 x3 : Int) (hb : Blk w b 35 #[.int .i64 x0, .int .i64 x1, .int .i64 x2, .int .i64 x3, .slice A4 N4 c4, .slice A5 N5 c5, .slice A6 N6 c6, .slice A7 N7 c7, .slice A8 N8 c8, .slice A9 N9 c9, .slice A10 N10 c10]) (hr : Blk w r 35 zeroM)
    (s0 s1 s4 s5 s6 s7 s8 s9 s10 s11 s12 s13 s14 s15 s16 s17 s18 s19 s20 s21 s22 s23 s24 s25 s26 s27 s28 s29 s30 s31 s32 s33 s34 s35 s36 s37 s38 s39 s40 s41 s42 s43 s44 s45 s46 s47 s48 s49 s50 s51 s52 s53 s54 s55 s56 s57 s58 s59 s60 s61 s62 s63 s64 s65 s66 s67 s68 s69 s70 s71 s72 s73 s74 s75 s76 s77 s78 s79 s80 s81 s82 s83 s84 s85 s86 s87 s88 s89 s90 s91 s92 s93 s94 s95 s96 s97 s98 s99 s100 s101 s102 s103 s104 s105 s106 s107 s108 s109 s110 : Value) (Q : Exit → Act → World → Prop)
    (hQ : Q .normal ⟨#[s0, s1, .pointer (some ⟨r, 0, none⟩), .pointer (some ⟨b, 0, none⟩), s4, s5, s6, s7, s8, s9, s10, s11, s12, s13, s14, s15, s16, s17, s18, s19, s20, s21, s22, s23, s24, s25, s26, s27, s28, s29, s30, s31, s32, s33, s34, s35, s36, s37, s38, s39, s40, s41, s42, s43, s44, s45, s46, s47, s48, s49, s50, s51, s52, s53, s54, s55, s56, s57, s58, s59, s60, s61, s62, s63, s64, s65, s66, s67, s68, s69, s70, s71, s72, s73, s74, s75, s76, s77, s78, s79, s80, s81, s82, s83, s84, s85, s86, s87, s88, s89, s90, s91, s92, s93, s94, s95, s96, s97, s98, s99, s100, s101, s102, s103, s104, s105, s106, s107, s108, s109, .agg #[.int .i64 x0, .int .i64 x1, .int .i64 x2, .int .i64 x3, .slice A4 N4 c4, .slice A5 N5 c5, .slice A6 N6 c6, .slice A7 N7 c7, .slice A8 N8 c8, .slice A9 N9 c9, .slice A10 N10 c10]], []⟩ (((((((((((w.setCell ⟨r, 0, none⟩ (.int .i64 x0)).setCell ⟨r, 1, none⟩ (.int .i64 x1)).setCell ⟨r, 2, none⟩ (.int .i64 x2)).setCell ⟨r, 3, none⟩ (.int .i64 x3)).setCell ⟨r, 4, none⟩ (.slice A4 N4 c4)).setCell ⟨r, 5, none⟩ (.slice A5 N5 c5)).setCell ⟨r, 6, none⟩ (.slice A6 N6 c6)).setCell ⟨r, 7, none⟩ (.slice A7 N7 c7)).setCell ⟨r, 8, none⟩ (.slice A8 N8 c8)).setCell ⟨r, 9, none⟩ (.slice A9 N9 c9)).setCell ⟨r, 10, none⟩ (.slice A10 N10 c10))) :
    Code.wp Tryz.prog (modelR 26) Q ⟨#[s0, s1, .pointer (some ⟨r, 0, none⟩), .pointer (some ⟨b, 0, none⟩), s4, s5, s6, s7, s8, s9, s10, s11, s12, s13, s14, s15, s16, s17, s18, s19, s20, s21, s22, s23, s24, s25, s26, s27, s28, s29, s30, s31, s32, s33, s34, s35, s36, s37, s38, s39, s40, s41, s42, s43, s44, s45, s46, s47, s48, s49, s50, s51, s52, s53, s54, s55, s56, s57, s58, s59, s60, s61, s62, s63, s64, s65, s66, s67, s68, s69, s70, s71, s72, s73, s74, s75, s76, s77, s78, s79, s80, s81, s82, s83, s84, s85, s86, s87, s88, s89, s90, s91, s92, s93, s94, s95, s96, s97, s98, s99, s100, s101, s102, s103, s104, s105, s106, s107, s108, s109, s110], []⟩ w := by
  conv => arg 2; whnf
  unfold zeroM at hr
  have d0' : w.cell? ⟨b, 0, none⟩ = some (.int .i64 x0) := hb.cell 0
  have d1' : w.cell? ⟨b, 1, none⟩ = some (.int .i64 x1) := hb.cell 1
  have d2' : w.cell? ⟨b, 2, none⟩ = some (.int .i64 x2) := hb.cell 2
  have d3' : w.cell? ⟨b, 3, none⟩ = some (.int .i64 x3) := hb.cell 3
  have d4' : w.cell? ⟨b, 4, none⟩ = some (.slice A4 N4 c4) := hb.cell 4
  have d5' : w.cell? ⟨b, 5, none⟩ = some (.slice A5 N5 c5) := hb.cell 5
  have d6' : w.cell? ⟨b, 6, none⟩ = some (.slice A6 N6 c6) := hb.cell 6
  have d7' : w.cell? ⟨b, 7, none⟩ = some (.slice A7 N7 c7) := hb.cell 7
  have d8' : w.cell? ⟨b, 8, none⟩ = some (.slice A8 N8 c8) := hb.cell 8
  have d9' : w.cell? ⟨b, 9, none⟩ = some (.slice A9 N9 c9) := hb.cell 9
  have d10' : w.cell? ⟨b, 10, none⟩ = some (.slice A10 N10 c10) := hb.cell 10
  have e0' : w.cell? ⟨r, 0, none⟩ = some (.int .i64 0) := hr.cell 0
  have e1' : w.cell? ⟨r, 1, none⟩ = some (.int .i64 0) := hr.cell 1
  have e2' : w.cell? ⟨r, 2, none⟩ = some (.int .i64 0) := hr.cell 2
  have e3' : w.cell? ⟨r, 3, none⟩ = some (.int .i64 0) := hr.cell 3
  have e4' : w.cell? ⟨r, 4, none⟩ = some (.slice none 0 0) := hr.cell 4
  have e5' : w.cell? ⟨r, 5, none⟩ = some (.slice none 0 0) := hr.cell 5
  have e6' : w.cell? ⟨r, 6, none⟩ = some (.slice none 0 0) := hr.cell 6
  have e7' : w.cell? ⟨r, 7, none⟩ = some (.slice none 0 0) := hr.cell 7
  have e8' : w.cell? ⟨r, 8, none⟩ = some (.slice none 0 0) := hr.cell 8
  have e9' : w.cell? ⟨r, 9, none⟩ = some (.slice none 0 0) := hr.cell 9
  have e10' : w.cell? ⟨r, 10, none⟩ = some (.slice none 0 0) := hr.cell 10
  have f0' : w.frozen? ⟨r, 0, none⟩ = false := hr.frozen 0
  have f1' : w.frozen? ⟨r, 1, none⟩ = false := hr.frozen 1
  have f2' : w.frozen? ⟨r, 2, none⟩ = false := hr.frozen 2
  have f3' : w.frozen? ⟨r, 3, none⟩ = false := hr.frozen 3
  have f4' : w.frozen? ⟨r, 4, none⟩ = false := hr.frozen 4
  have f5' : w.frozen? ⟨r, 5, none⟩ = false := hr.frozen 5
  have f6' : w.frozen? ⟨r, 6, none⟩ = false := hr.frozen 6
  have f7' : w.frozen? ⟨r, 7, none⟩ = false := hr.frozen 7
  have f8' : w.frozen? ⟨r, 8, none⟩ = false := hr.frozen 8
  have f9' : w.frozen? ⟨r, 9, none⟩ = false := hr.frozen 9
  have f10' : w.frozen? ⟨r, 10, none⟩ = false := hr.frozen 10
  have hi27 : (Tryz.prog.info? 35).map (·.size) = some 11 := by kernel_rfl
  clear hr
  go_wp2_with (first | (refine wpList_load_row rfl _ _ rfl b rfl 35 #[.int .i64 x0, .int .i64 x1, .int .i64 x2, .int .i64 x3, .slice A4 N4 c4, .slice A5 N5 c5, .slice A6 N6 c6, .slice A7 N7 c7, .slice A8 N8 c8, .slice A9 N9 c9, .slice A10 N10 c10] (0, 0) _ hb Tryz.underlying35 rfl hi27 ?_))
  exact hQ
end Go.Proofs.YtempdomhbfokmaaGreatDoor

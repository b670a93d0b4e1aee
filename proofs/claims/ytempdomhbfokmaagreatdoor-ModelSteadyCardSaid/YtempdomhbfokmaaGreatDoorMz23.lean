/- ModelSteady: the region that compares the two answers. Printed by gen_mst.py. -/
import Derived.Test.YtempdomhbfokmaaGreatDoorMz15
namespace Go.Proofs.YtempdomhbfokmaaGreatDoor
open Go.RowKit

noncomputable def steadyR14 : Code := (Tryz.f4.body.bind (findRegion 14)).getD .skip
set_option maxRecDepth 100000 in
set_option maxHeartbeats 8000000 in
theorem steady_r14 (w : World) (B3 B8 K K1 L ca cb : Nat) (hk1 : (K : Int) - 1 = (K1 : Int)) (ad : Addr) (Ab : Option Addr) (most most2 : Int) (u : Value) (c3 : w.cell? ⟨B3, 3, none⟩ = some (.int .i64 most)) (d3 : w.cell? ⟨B8, 3, none⟩ = some (.int .i64 most2))
    (hcl : w.cell? (ad.add K1) = some u) (hu : (K : Int) = most ∨ u = .int .i64 0) (hmin : min ((K : Int)) most2 = (L : Int)) (hc : K1 < ca) (hL : L ≤ ca) (hcm : ca ≤ maxLen) (hK1 : K1 ≤ 1000)
    (HEQ : Hid (Calls Tryz.prog 16 #[.slice Ab L cb, .slice (some ad) L ca] w fun e w' => e = .returned (.bool true) ∧ ∃ k, w' = w.drewN k))
    (HCN : Hid (∀ q, Calls Tryz.prog 17 #[.slice (some ad) K1 ca, .int .i64 0] (w.drewN q) fun e w' => e = .returned (.bool false) ∧ w.drewN q = w')) {s0 s1 s2 s3 s4 s10 s11 s12 s13 s14 s15 s16 s17 s18 s19 s20 s21 s22 s23 s24 s25 s26 s27 s28 s29 s30 s31 s32 s33 s34 s35 s36 s37 s38 s39 s40 s41 s42 s43 s44 s45 s46 s47 s48 s49 s50 s51 s52 s53 s54 s55 s56 s57 s58 s59 s60 s61 s62 s63 s64 s65 s66 s67 s68 s69 s70 s71 s72 s73 s74 s75 s76 s77 s78 s79 s80 s81 s82 s83 s84 s85 s86 s87 s88 s89 s90 s91 s92 s93 s94 s95 s96 s97 s98 s99 s100 s101 s102 s103 s104 s105 s106 s107 s108 s109 : Value} (Q : Exit → Act → World → Prop)
    (hQ : ∀ (y72 y73 y74 y75 y76 y77 y78 y79 y80 y81 y82 y83 y84 y85 y86 y87 y88 y89 y90 y91 y92 y93 y94 y95 y96 y97 y98 y99 y100 y101 y102 y103 y104 y105 y106 y107 y108 y109 : Value) (q : Nat), Q .normal ⟨#[s0, s1, .bool true, s3, s4, .pointer (some ⟨B3, 0, none⟩), .slice (some ad) K ca, .int .i64 0, .pointer (some ⟨B8, 0, none⟩), .slice Ab L cb, s10, s11, s12, s13, s14, s15, s16, s17, s18, s19, s20, s21, s22, s23, s24, s25, s26, s27, s28, s29, s30, s31, s32, s33, s34, s35, s36, s37, s38, s39, s40, s41, s42, s43, s44, s45, s46, s47, s48, s49, s50, s51, s52, s53, s54, s55, s56, s57, s58, s59, s60, s61, s62, s63, s64, s65, s66, s67, s68, s69, s70, s71, y72, y73, y74, y75, y76, y77, y78, y79, y80, y81, y82, y83, y84, y85, y86, y87, y88, y89, y90, y91, y92, y93, y94, y95, y96, y97, y98, y99, y100, y101, y102, y103, y104, y105, y106, y107, y108, y109], []⟩ (w.drewN q)) :
    Code.wp Tryz.prog steadyR14 Q ⟨#[s0, s1, s2, s3, s4, .pointer (some ⟨B3, 0, none⟩), .slice (some ad) K ca, .int .i64 0, .pointer (some ⟨B8, 0, none⟩), .slice Ab L cb, s10, s11, s12, s13, s14, s15, s16, s17, s18, s19, s20, s21, s22, s23, s24, s25, s26, s27, s28, s29, s30, s31, s32, s33, s34, s35, s36, s37, s38, s39, s40, s41, s42, s43, s44, s45, s46, s47, s48, s49, s50, s51, s52, s53, s54, s55, s56, s57, s58, s59, s60, s61, s62, s63, s64, s65, s66, s67, s68, s69, s70, s71, s72, s73, s74, s75, s76, s77, s78, s79, s80, s81, s82, s83, s84, s85, s86, s87, s88, s89, s90, s91, s92, s93, s94, s95, s96, s97, s98, s99, s100, s101, s102, s103, s104, s105, s106, s107, s108, s109], []⟩ w := by
  conv => arg 2; whnf
  have HQ := Lib.hid hQ
  have HCM := Lib.hid hcm
  clear hQ hcm
  have hw1 : IntKind.i64.wrap (K1 : Int) = K1 := IntWalk.i64_in _ ⟨by omega, by omega⟩
  by_cases hm : (K : Int) ≤ most2
  · obtain rfl : L = K := by omega
    clear hmin hL
    by_cases hKe : (L : Int) = most
    · clear hu hcl
      subst hKe
      go_wp2_with (first | (go_at_call 16; refine HEQ.out.mono ?_; rintro e w' ⟨rfl, kk, rfl⟩) | (go_at_call 17; refine (HCN.out _).mono ?_; rintro e w' ⟨rfl, rfl⟩))
      exact HQ.out _ _ _ _ _ _ _ _ _ _ _ _ _ _ _ _ _ _ _ _ _ _ _ _ _ _ _ _ _ _ _ _ _ _ _ _ _ _ _
    · have hu1 := hu.resolve_left hKe
      subst hu1
      clear hu
      go_wp2_with (first | (go_at_call 16; refine HEQ.out.mono ?_; rintro e w' ⟨rfl, kk, rfl⟩) | (go_at_call 17; refine (HCN.out _).mono ?_; rintro e w' ⟨rfl, rfl⟩))
      exact HQ.out _ _ _ _ _ _ _ _ _ _ _ _ _ _ _ _ _ _ _ _ _ _ _ _ _ _ _ _ _ _ _ _ _ _ _ _ _ _ _
  · obtain rfl : most2 = (L : Int) := by omega
    clear hmin
    by_cases hKe : (K : Int) = most
    · clear hu hcl
      subst hKe
      go_wp2_with (first | (go_at_call 16; refine HEQ.out.mono ?_; rintro e w' ⟨rfl, kk, rfl⟩) | (go_at_call 17; refine (HCN.out _).mono ?_; rintro e w' ⟨rfl, rfl⟩))
      exact HQ.out _ _ _ _ _ _ _ _ _ _ _ _ _ _ _ _ _ _ _ _ _ _ _ _ _ _ _ _ _ _ _ _ _ _ _ _ _ _ _
    · have hu1 := hu.resolve_left hKe
      subst hu1
      clear hu
      go_wp2_with (first | (go_at_call 16; refine HEQ.out.mono ?_; rintro e w' ⟨rfl, kk, rfl⟩) | (go_at_call 17; refine (HCN.out _).mono ?_; rintro e w' ⟨rfl, rfl⟩))
      exact HQ.out _ _ _ _ _ _ _ _ _ _ _ _ _ _ _ _ _ _ _ _ _ _ _ _ _ _ _ _ _ _ _ _ _ _ _ _ _ _ _
end Go.Proofs.YtempdomhbfokmaaGreatDoor

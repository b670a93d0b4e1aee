/- coder.one: regions that draw their order. Printed by gen_chip2.py. -/
import Derived.Test.YtpcejpcbkjnlkaaGreatDoorZa22
set_option linter.unusedVariables false
namespace Go.Proofs.YtpcejpcbkjnlkaaGreatDoor
open Go.RowKit

noncomputable def oneR3 : Code := (Tryz.f18.body.bind (findRg 3)).getD .skip
set_option maxRecDepth 100000 in
set_option maxHeartbeats 8000000 in
theorem oneR3_ok (W : World) {B p q : Nat} {A : Option Addr} {n c : Nat} {l : List Int} {a : Int} {m : Mach} {st : Int} {v : Value} {xs : List Ins} (h : Cod W B p q A n c l a m st v xs) (ha : a ≤ 100000000) (hl : xs.length ≤ 1000000) {s1 s2 s3 s4 s5 s6 s7 s8 s9 s10 s11 s12 s13 s14 s15 s16 s17 s18 s19 s20 s21 s22 s23 s24 s25 s26 s27 s28 s29 s30 s31 s32 s33 s34 s35 s36 s37 s38 s39 s40 s41 s42 s43 s44 s45 s46 s47 s48 s49 s50 s51 s52 s53 s54 s55 s56 s57 s58 s59 s60 s61 s62 s63 s64 s65 s66 s67 s68 s69 s70 s71 s72 s73 s74 s75 s76 s77 s78 s79 s80 s81 s82 s83 s84 s85 s86 s87 s88 s89 s90 s91 s92 s93 s94 s95 s96 s97 s98 s99 s100 s101 s102 s103 s104 s105 s106 s107 s108 s109 s110 s111 s112 s113 s114 s115 s116 s117 s118 s119 s120 s121 s122 s123 s124 s125 s126 s127 s128 s129 s130 s131 s132 s133 s134 s135 s136 s137 s138 s139 s140 s141 s142 s143 s144 s145 s146 s147 s148 s149 s150 s151 s152 s153 s154 s155 s156 s157 s158 s159 s160 s161 s162 s163 s164 s165 s166 s167 s168 s169 s170 s171 s172 s173 s174 s175 s176 s177 s178 s179 s180 s181 s182 s183 s184 s185 s186 s187 s188 s189 s190 s191 s192 s193 s194 s195 s196 s197 s198 s199 s200 s201 s202 s203 s204 s205 s206 : Value} (Q : Exit → Act → World → Prop)
    (hQ : ∀ (w' : World) (y19 y20 y21 y22 y23 y24 y25 y26 y27 y28 y29 y30 y31 y32 y33 y34 y35 y36 y37 : Value) (y1 y2 y3 a' : Int) (v' : Value), Cod w' B p q A n c l a' m st v' (xs ++ [⟨1, 0, y1, 0, 0, 0, 0, y3, 0⟩]) → (1 ≤ y1 ∧ y1 ≤ 5) → (-2147483648 ≤ y3 ∧ y3 ≤ 2147483647) → a ≤ a' → a' ≤ a + 5 → Keeps (fun i => i = p ∨ B ≤ i) W w' → Q .normal ⟨#[.pointer (some ⟨q, 0, none⟩), s1, s2, s3, s4, s5, s6, s7, s8, s9, s10, s11, s12, s13, s14, s15, s16, s17, s18, y19, y20, y21, y22, y23, y24, y25, y26, y27, y28, y29, y30, y31, y32, y33, y34, y35, y36, y37, s38, s39, s40, s41, s42, s43, s44, s45, s46, s47, s48, s49, s50, s51, s52, s53, s54, s55, s56, s57, s58, s59, s60, s61, s62, s63, s64, s65, s66, s67, s68, s69, s70, s71, s72, s73, s74, s75, s76, s77, s78, s79, s80, s81, s82, s83, s84, s85, s86, s87, s88, s89, s90, s91, s92, s93, s94, s95, s96, s97, s98, s99, s100, s101, s102, s103, s104, s105, s106, s107, s108, s109, s110, s111, s112, s113, s114, s115, s116, s117, s118, s119, s120, s121, s122, s123, s124, s125, s126, s127, s128, s129, s130, s131, s132, s133, s134, s135, s136, s137, s138, s139, s140, s141, s142, s143, s144, s145, s146, s147, s148, s149, s150, s151, s152, s153, s154, s155, s156, s157, s158, s159, s160, s161, s162, s163, s164, s165, s166, s167, s168, s169, s170, s171, s172, s173, s174, s175, s176, s177, s178, s179, s180, s181, s182, s183, s184, s185, s186, s187, s188, s189, s190, s191, s192, s193, s194, s195, s196, s197, s198, s199, s200, s201, s202, s203, s204, s205, s206], []⟩ w') :
    Code.wp Tryz.prog oneR3 Q ⟨#[.pointer (some ⟨q, 0, none⟩), s1, s2, s3, s4, s5, s6, s7, s8, s9, s10, s11, s12, s13, s14, s15, s16, s17, s18, s19, s20, s21, s22, s23, s24, s25, s26, s27, s28, s29, s30, s31, s32, s33, s34, s35, s36, s37, s38, s39, s40, s41, s42, s43, s44, s45, s46, s47, s48, s49, s50, s51, s52, s53, s54, s55, s56, s57, s58, s59, s60, s61, s62, s63, s64, s65, s66, s67, s68, s69, s70, s71, s72, s73, s74, s75, s76, s77, s78, s79, s80, s81, s82, s83, s84, s85, s86, s87, s88, s89, s90, s91, s92, s93, s94, s95, s96, s97, s98, s99, s100, s101, s102, s103, s104, s105, s106, s107, s108, s109, s110, s111, s112, s113, s114, s115, s116, s117, s118, s119, s120, s121, s122, s123, s124, s125, s126, s127, s128, s129, s130, s131, s132, s133, s134, s135, s136, s137, s138, s139, s140, s141, s142, s143, s144, s145, s146, s147, s148, s149, s150, s151, s152, s153, s154, s155, s156, s157, s158, s159, s160, s161, s162, s163, s164, s165, s166, s167, s168, s169, s170, s171, s172, s173, s174, s175, s176, s177, s178, s179, s180, s181, s182, s183, s184, s185, s186, s187, s188, s189, s190, s191, s192, s193, s194, s195, s196, s197, s198, s199, s200, s201, s202, s203, s204, s205, s206], []⟩ W := by
  conv => arg 2; whnf
  have hpB := h.pB
  have hqB := h.Bq
  have HC0 := Lib.hid h.drew
  have KP0 := Lib.hid (Keeps.refl (· = p) W).drew
  have HQ := Lib.hid hQ
  have c0 : W.drew.cell? ⟨q, 0, none⟩ = some (.pointer (some ⟨p, 0, none⟩)) ∧ W.drew.cell? ⟨q, 4, none⟩ = some (.int .i64 m.lanes) ∧ W.drew.cell? ⟨q, 5, none⟩ = some (.int .i64 m.queues) ∧ W.drew.cell? ⟨q, 7, none⟩ = some (.int .i64 st) := h.drew.cs
  clear h hQ
  refine wp_region_hw (fun w' => w'.cell? ⟨q, 0, none⟩ = some (.pointer (some ⟨p, 0, none⟩)) ∧ w'.cell? ⟨q, 4, none⟩ = some (.int .i64 m.lanes) ∧ w'.cell? ⟨q, 5, none⟩ = some (.int .i64 m.queues) ∧ w'.cell? ⟨q, 7, none⟩ = some (.int .i64 st)) 19 (by kernel_rfl) rfl c0 ?_
  clear c0
  refine HW.take 0 (v := ?_) rfl (by kernel_rfl) (by kernel_rfl) (by kernel_rfl) (fun _ _ _ h => h) (by kernel_rfl) ?_ ?_; rotate_left 1; (focus (intro W hW; (try dsimp only at hW); go_split_ands; first | (go_simp; done) | (go_simp; with_reducible rfl))); simp only [Act.put, List.setIfInBounds_toArray, List.set_cons_zero, List.set_cons_succ]
  refine HW.take 1 (v := ?_) rfl (by kernel_rfl) (by kernel_rfl) (by kernel_rfl) (fun _ _ _ h => h) (by kernel_rfl) ?_ ?_; rotate_left 1; (focus (intro W hW; (try dsimp only at hW); go_split_ands; first | (go_simp; done) | (go_simp; with_reducible rfl))); simp only [Act.put, List.setIfInBounds_toArray, List.set_cons_zero, List.set_cons_succ]
  refine HW.take 2 (v := ?_) rfl (by kernel_rfl) (by kernel_rfl) (by kernel_rfl) (fun _ _ _ h => h) (by kernel_rfl) ?_ ?_; rotate_left 1; (focus (intro W hW; (try dsimp only at hW); go_split_ands; first | (go_simp; done) | (go_simp; with_reducible rfl))); simp only [Act.put, List.setIfInBounds_toArray, List.set_cons_zero, List.set_cons_succ]
  refine HW.take 3 (v := ?_) rfl (by kernel_rfl) (by kernel_rfl) (by kernel_rfl) (fun _ _ _ h => h) (by kernel_rfl) ?_ ?_; rotate_left 1; (focus (intro W hW; (try dsimp only at hW); go_split_ands; first | (go_simp; done) | (go_simp; with_reducible rfl))); simp only [Act.put, List.setIfInBounds_toArray, List.set_cons_zero, List.set_cons_succ]
  refine HW.take 4 (v := ?_) rfl (by kernel_rfl) (by kernel_rfl) (by kernel_rfl) (fun _ _ _ h => h) (by kernel_rfl) ?_ ?_; rotate_left 1; (focus (intro W hW; (try dsimp only at hW); go_split_ands; first | (go_simp; done) | (go_simp; with_reducible rfl))); simp only [Act.put, List.setIfInBounds_toArray, List.set_cons_zero, List.set_cons_succ]
  refine HW.take 6 (v := ?_) rfl (by kernel_rfl) (by kernel_rfl) (by kernel_rfl) (fun _ _ _ h => h) (by kernel_rfl) ?_ ?_; rotate_left 1; (focus (intro W hW; (try dsimp only at hW); go_split_ands; first | (go_simp; done) | (go_simp; with_reducible rfl))); simp only [Act.put, List.setIfInBounds_toArray, List.set_cons_zero, List.set_cons_succ]
  refine HW.take 7 (v := ?_) rfl (by kernel_rfl) (by kernel_rfl) (by kernel_rfl) (fun _ _ _ h => h) (by kernel_rfl) ?_ ?_; rotate_left 1; (focus (intro W hW; (try dsimp only at hW); go_split_ands; first | (go_simp; done) | (go_simp; with_reducible rfl))); simp only [Act.put, List.setIfInBounds_toArray, List.set_cons_zero, List.set_cons_succ]
  refine HW.take 8 (v := ?_) rfl (by kernel_rfl) (by kernel_rfl) (by kernel_rfl) (fun _ _ _ h => h) (by kernel_rfl) ?_ ?_; rotate_left 1; (focus (intro W hW; (try dsimp only at hW); go_split_ands; first | (go_simp; done) | (go_simp; with_reducible rfl))); simp only [Act.put, List.setIfInBounds_toArray, List.set_cons_zero, List.set_cons_succ]
  refine HW.take 9 (v := ?_) rfl (by kernel_rfl) (by kernel_rfl) (by kernel_rfl) (fun _ _ _ h => h) (by kernel_rfl) ?_ ?_; rotate_left 1; (focus (intro W hW; (try dsimp only at hW); go_split_ands; first | (go_simp; done) | (go_simp; with_reducible rfl))); simp only [Act.put, List.setIfInBounds_toArray, List.set_cons_zero, List.set_cons_succ]
  refine HW.take 10 (v := ?_) rfl (by kernel_rfl) (by kernel_rfl) (by kernel_rfl) (fun _ _ _ h => h) (by kernel_rfl) ?_ ?_; rotate_left 1; (focus (intro W hW; (try dsimp only at hW); go_split_ands; first | (go_simp; done) | (go_simp; with_reducible rfl))); simp only [Act.put, List.setIfInBounds_toArray, List.set_cons_zero, List.set_cons_succ]
  refine HW.take 11 (v := ?_) rfl (by kernel_rfl) (by kernel_rfl) (by kernel_rfl) (fun _ _ _ h => h) (by kernel_rfl) ?_ ?_; rotate_left 1; (focus (intro W hW; (try dsimp only at hW); go_split_ands; first | (go_simp; done) | (go_simp; with_reducible rfl))); simp only [Act.put, List.setIfInBounds_toArray, List.set_cons_zero, List.set_cons_succ]
  refine HW.take 12 (v := ?_) rfl (by kernel_rfl) (by kernel_rfl) (by kernel_rfl) (fun _ _ _ h => h) (by kernel_rfl) ?_ ?_; rotate_left 1; (focus (intro W hW; (try dsimp only at hW); go_split_ands; first | (go_simp; done) | (go_simp; with_reducible rfl))); simp only [Act.put, List.setIfInBounds_toArray, List.set_cons_zero, List.set_cons_succ]
  refine HW.take 13 (v := ?_) rfl (by kernel_rfl) (by kernel_rfl) (by kernel_rfl) (fun _ _ _ h => h) (by kernel_rfl) ?_ ?_; rotate_left 1; (focus (intro W hW; (try dsimp only at hW); go_split_ands; first | (go_simp; done) | (go_simp; with_reducible rfl))); simp only [Act.put, List.setIfInBounds_toArray, List.set_cons_zero, List.set_cons_succ]
  refine HW.only 5 rfl (by kernel_rfl) (by kernel_rfl) (fun K hK => Or.inl ?_)
  go_simp
  refine (range_any _ p A n c l a 1 5 HC0.out.str (by omega) (by omega) (by omega) (by omega)).mono ?_
  rintro e w1 ⟨y1, a1, rfl, ⟨i1, j1⟩, g1, h1, hs1, k1⟩
  have HC1 := Lib.hid (HC0.out.moved hs1 k1)
  clear hs1
  have KP1 := Lib.hid (KP0.out.tr k1)
  clear k1
  dsimp only
  refine hK _ _ HC1.out.cs ?_
  clear hK K
  refine HW.only 14 rfl (by kernel_rfl) (by kernel_rfl) (fun K hK => Or.inl ?_)
  go_simp
  refine (word_any _ p A n c l a1 HC1.out.str (by omega)).mono ?_
  rintro e w2 ⟨y2, a2, rfl, ⟨i2, j2⟩, g2, h2, hs2, k2⟩
  have HC2 := Lib.hid (HC1.out.moved hs2 k2)
  clear hs2
  have KP2 := Lib.hid (KP1.out.tr k2)
  clear k2
  dsimp only
  refine hK _ _ HC2.out.cs ?_
  clear hK K
  refine HW.only 15 rfl (by kernel_rfl) (by kernel_rfl) (fun K hK => Or.inl ?_)
  go_simp
  have HB15 := Lib.hid (HC2.out.alloc (.cells #[.int .i64 0, .int .i64 1, .int .i64 2, .int .i64 3, .int .i64 9, .int .i64 (-1), .int .i64 y2] 3))
  have KB15 := Lib.hid (KP2.out.alloc (.cells #[.int .i64 0, .int .i64 1, .int .i64 2, .int .i64 3, .int .i64 9, .int .i64 (-1), .int .i64 y2] 3))
  have zb15 : B ≤ w2.heap.size := by have h1 := HC2.out.blk.lt; have h2 := HC2.out.Bq; omega
  have RB15 := Lib.hid (show Reads (w2.alloc (.cells #[.int .i64 0, .int .i64 1, .int .i64 2, .int .i64 3, .int .i64 9, .int .i64 (-1), .int .i64 y2] 3)) (B ≤ ·) 1 (some ⟨w2.heap.size, 0, none⟩) 7 (ints [0, 1, 2, 3, 9, -1, y2]) from reads_lit w2 [0, 1, 2, 3, 9, -1, y2] zb15)
  refine hK _ _ HB15.out.cs ?_
  clear hK K
  refine HW.only 16 rfl (by kernel_rfl) (by kernel_rfl) (fun K hK => Or.inl ?_)
  go_simp
  refine (pick_any _ p A n c l a2 HB15.out.str (by omega) _ _ _ [0, 1, 2, 3, 9, -1, y2] (B ≤ ·) RB15.out (by omega) (by omega) (by omega)).mono ?_
  rintro e w3 ⟨y3, a3, rfl, i3, g3, h3, hs3, k3⟩
  have IM3 := Lib.hid i3
  clear i3
  have HC3 := Lib.hid (HB15.out.moved hs3 k3)
  clear hs3
  have KP3 := Lib.hid (KB15.out.tr k3)
  clear k3
  dsimp only
  refine hK _ _ HC3.out.cs ?_
  clear hK K
  refine HW.take 17 (v := ?_) rfl (by kernel_rfl) (by kernel_rfl) (by kernel_rfl) (fun _ _ _ h => h) (by kernel_rfl) ?_ ?_; rotate_left 1; (focus (intro W hW; (try dsimp only at hW); go_split_ands; first | (go_simp; done) | (go_simp; with_reducible rfl))); simp only [Act.put, List.setIfInBounds_toArray, List.set_cons_zero, List.set_cons_succ]
  refine HW.only 18 rfl (by kernel_rfl) (by kernel_rfl) (fun K hK => Or.inl ?_)
  go_simp
  refine (add_any _ HC3.out hl ⟨1, 0, y1, 0, 0, 0, 0, y3, 0⟩).mono ?_
  rintro e w9 ⟨rfl, v9, hc9, k9⟩
  dsimp only
  refine hK _ _ hc9.cs ?_
  clear hK K
  refine HW.done (by kernel_rfl) (NoPanic.normal ?_)
  exact HQ.out w9 _ _ _ _ _ _ _ _ _ _ _ _ _ _ _ _ _ _ _ y1 y2 y3 a3 v9 hc9 ⟨i1, j1⟩ (by have hh := IM3.out; simp only [List.mem_cons, List.not_mem_nil, or_false] at hh; omega) (by omega) (by omega) ((KP3.out.mono (fun i hi e => Or.inl e)).trans k9 (fun i hi e => Or.inr e))
noncomputable def oneR11 : Code := (Tryz.f18.body.bind (findRg 11)).getD .skip
set_option maxRecDepth 100000 in
set_option maxHeartbeats 8000000 in
theorem oneR11_ok (W : World) {B p q : Nat} {A : Option Addr} {n c : Nat} {l : List Int} {a : Int} {m : Mach} {st : Int} {v : Value} {xs : List Ins} (h : Cod W B p q A n c l a m st v xs) (ha : a ≤ 100000000) (hl : xs.length ≤ 1000000) (hm : 1 ≤ m.queues ∧ m.queues ≤ 4) {s1 s2 s3 s4 s5 s6 s7 s8 s9 s10 s11 s12 s13 s14 s15 s16 s17 s18 s19 s20 s21 s22 s23 s24 s25 s26 s27 s28 s29 s30 s31 s32 s33 s34 s35 s36 s37 s38 s39 s40 s41 s42 s43 s44 s45 s46 s47 s48 s49 s50 s51 s52 s53 s54 s55 s56 s57 s58 s59 s60 s61 s62 s63 s64 s65 s66 s67 s68 s69 s70 s71 s72 s73 s74 s75 s76 s77 s78 s79 s80 s81 s82 s83 s84 s85 s86 s87 s88 s89 s90 s91 s92 s93 s94 s95 s96 s97 s98 s99 s100 s101 s102 s103 s104 s105 s106 s107 s108 s109 s110 s111 s112 s113 s114 s115 s116 s117 s118 s119 s120 s121 s122 s123 s124 s125 s126 s127 s128 s129 s130 s131 s132 s133 s134 s135 s136 s137 s138 s139 s140 s141 s142 s143 s144 s145 s146 s147 s148 s149 s150 s151 s152 s153 s154 s155 s156 s157 s158 s159 s160 s161 s162 s163 s164 s165 s166 s167 s168 s169 s170 s171 s172 s173 s174 s175 s176 s177 s178 s179 s180 s181 s182 s183 s184 s185 s186 s187 s188 s189 s190 s191 s192 s193 s194 s195 s196 s197 s198 s199 s200 s201 s202 s203 s204 s205 s206 : Value} (Q : Exit → Act → World → Prop)
    (hQ : ∀ (w' : World) (y60 y61 y62 y63 y64 y65 y66 y67 y68 y69 y70 y71 y72 : Value) (y1 a' : Int) (v' : Value), Cod w' B p q A n c l a' m st v' (xs ++ [⟨19, 0, y1, 0, 0, 0, 0, 0, 0⟩]) → (0 ≤ y1 ∧ y1 < m.queues) → a ≤ a' → a' ≤ a + 1 → Keeps (fun i => i = p ∨ B ≤ i) W w' → Q .normal ⟨#[.pointer (some ⟨q, 0, none⟩), s1, s2, s3, s4, s5, s6, s7, s8, s9, s10, s11, s12, s13, s14, s15, s16, s17, s18, s19, s20, s21, s22, s23, s24, s25, s26, s27, s28, s29, s30, s31, s32, s33, s34, s35, s36, s37, s38, s39, s40, s41, s42, s43, s44, s45, s46, s47, s48, s49, s50, s51, s52, s53, s54, s55, s56, s57, s58, s59, y60, y61, y62, y63, y64, y65, y66, y67, y68, y69, y70, y71, y72, s73, s74, s75, s76, s77, s78, s79, s80, s81, s82, s83, s84, s85, s86, s87, s88, s89, s90, s91, s92, s93, s94, s95, s96, s97, s98, s99, s100, s101, s102, s103, s104, s105, s106, s107, s108, s109, s110, s111, s112, s113, s114, s115, s116, s117, s118, s119, s120, s121, s122, s123, s124, s125, s126, s127, s128, s129, s130, s131, s132, s133, s134, s135, s136, s137, s138, s139, s140, s141, s142, s143, s144, s145, s146, s147, s148, s149, s150, s151, s152, s153, s154, s155, s156, s157, s158, s159, s160, s161, s162, s163, s164, s165, s166, s167, s168, s169, s170, s171, s172, s173, s174, s175, s176, s177, s178, s179, s180, s181, s182, s183, s184, s185, s186, s187, s188, s189, s190, s191, s192, s193, s194, s195, s196, s197, s198, s199, s200, s201, s202, s203, s204, s205, s206], []⟩ w') :
    Code.wp Tryz.prog oneR11 Q ⟨#[.pointer (some ⟨q, 0, none⟩), s1, s2, s3, s4, s5, s6, s7, s8, s9, s10, s11, s12, s13, s14, s15, s16, s17, s18, s19, s20, s21, s22, s23, s24, s25, s26, s27, s28, s29, s30, s31, s32, s33, s34, s35, s36, s37, s38, s39, s40, s41, s42, s43, s44, s45, s46, s47, s48, s49, s50, s51, s52, s53, s54, s55, s56, s57, s58, s59, s60, s61, s62, s63, s64, s65, s66, s67, s68, s69, s70, s71, s72, s73, s74, s75, s76, s77, s78, s79, s80, s81, s82, s83, s84, s85, s86, s87, s88, s89, s90, s91, s92, s93, s94, s95, s96, s97, s98, s99, s100, s101, s102, s103, s104, s105, s106, s107, s108, s109, s110, s111, s112, s113, s114, s115, s116, s117, s118, s119, s120, s121, s122, s123, s124, s125, s126, s127, s128, s129, s130, s131, s132, s133, s134, s135, s136, s137, s138, s139, s140, s141, s142, s143, s144, s145, s146, s147, s148, s149, s150, s151, s152, s153, s154, s155, s156, s157, s158, s159, s160, s161, s162, s163, s164, s165, s166, s167, s168, s169, s170, s171, s172, s173, s174, s175, s176, s177, s178, s179, s180, s181, s182, s183, s184, s185, s186, s187, s188, s189, s190, s191, s192, s193, s194, s195, s196, s197, s198, s199, s200, s201, s202, s203, s204, s205, s206], []⟩ W := by
  conv => arg 2; whnf
  have hpB := h.pB
  have hqB := h.Bq
  have HC0 := Lib.hid h.drew
  have KP0 := Lib.hid (Keeps.refl (· = p) W).drew
  have HQ := Lib.hid hQ
  have c0 : W.drew.cell? ⟨q, 0, none⟩ = some (.pointer (some ⟨p, 0, none⟩)) ∧ W.drew.cell? ⟨q, 4, none⟩ = some (.int .i64 m.lanes) ∧ W.drew.cell? ⟨q, 5, none⟩ = some (.int .i64 m.queues) ∧ W.drew.cell? ⟨q, 7, none⟩ = some (.int .i64 st) := h.drew.cs
  clear h hQ
  refine wp_region_hw (fun w' => w'.cell? ⟨q, 0, none⟩ = some (.pointer (some ⟨p, 0, none⟩)) ∧ w'.cell? ⟨q, 4, none⟩ = some (.int .i64 m.lanes) ∧ w'.cell? ⟨q, 5, none⟩ = some (.int .i64 m.queues) ∧ w'.cell? ⟨q, 7, none⟩ = some (.int .i64 st)) 13 (by kernel_rfl) rfl c0 ?_
  clear c0
  refine HW.take 0 (v := ?_) rfl (by kernel_rfl) (by kernel_rfl) (by kernel_rfl) (fun _ _ _ h => h) (by kernel_rfl) ?_ ?_; rotate_left 1; (focus (intro W hW; (try dsimp only at hW); go_split_ands; first | (go_simp; done) | (go_simp; with_reducible rfl))); simp only [Act.put, List.setIfInBounds_toArray, List.set_cons_zero, List.set_cons_succ]
  refine HW.take 1 (v := ?_) rfl (by kernel_rfl) (by kernel_rfl) (by kernel_rfl) (fun _ _ _ h => h) (by kernel_rfl) ?_ ?_; rotate_left 1; (focus (intro W hW; (try dsimp only at hW); go_split_ands; first | (go_simp; done) | (go_simp; with_reducible rfl))); simp only [Act.put, List.setIfInBounds_toArray, List.set_cons_zero, List.set_cons_succ]
  refine HW.take 2 (v := ?_) rfl (by kernel_rfl) (by kernel_rfl) (by kernel_rfl) (fun _ _ _ h => h) (by kernel_rfl) ?_ ?_; rotate_left 1; (focus (intro W hW; (try dsimp only at hW); go_split_ands; first | (go_simp; done) | (go_simp; with_reducible rfl))); simp only [Act.put, List.setIfInBounds_toArray, List.set_cons_zero, List.set_cons_succ]
  refine HW.take 3 (v := ?_) rfl (by kernel_rfl) (by kernel_rfl) (by kernel_rfl) (fun _ _ _ h => h) (by kernel_rfl) ?_ ?_; rotate_left 1; (focus (intro W hW; (try dsimp only at hW); go_split_ands; first | (go_simp; done) | (go_simp; with_reducible rfl))); simp only [Act.put, List.setIfInBounds_toArray, List.set_cons_zero, List.set_cons_succ]
  refine HW.take 4 (v := ?_) rfl (by kernel_rfl) (by kernel_rfl) (by kernel_rfl) (fun _ _ _ h => h) (by kernel_rfl) ?_ ?_; rotate_left 1; (focus (intro W hW; (try dsimp only at hW); go_split_ands; first | (go_simp; done) | (go_simp; with_reducible rfl))); simp only [Act.put, List.setIfInBounds_toArray, List.set_cons_zero, List.set_cons_succ]
  refine HW.take 5 (v := ?_) rfl (by kernel_rfl) (by kernel_rfl) (by kernel_rfl) (fun _ _ _ h => h) (by kernel_rfl) ?_ ?_; rotate_left 1; (focus (intro W hW; (try dsimp only at hW); go_split_ands; first | (go_simp; done) | (go_simp; with_reducible rfl))); simp only [Act.put, List.setIfInBounds_toArray, List.set_cons_zero, List.set_cons_succ]
  refine HW.take 6 (v := ?_) rfl (by kernel_rfl) (by kernel_rfl) (by kernel_rfl) (fun _ _ _ h => h) (by kernel_rfl) ?_ ?_; rotate_left 1; (focus (intro W hW; (try dsimp only at hW); go_split_ands; first | (go_simp; done) | (go_simp; with_reducible rfl))); simp only [Act.put, List.setIfInBounds_toArray, List.set_cons_zero, List.set_cons_succ]
  refine HW.take 7 (v := ?_) rfl (by kernel_rfl) (by kernel_rfl) (by kernel_rfl) (fun _ _ _ h => h) (by kernel_rfl) ?_ ?_; rotate_left 1; (focus (intro W hW; (try dsimp only at hW); go_split_ands; first | (go_simp; done) | (go_simp; with_reducible rfl))); simp only [Act.put, List.setIfInBounds_toArray, List.set_cons_zero, List.set_cons_succ]
  refine HW.take 8 (v := ?_) rfl (by kernel_rfl) (by kernel_rfl) (by kernel_rfl) (fun _ _ _ h => h) (by kernel_rfl) ?_ ?_; rotate_left 1; (focus (intro W hW; (try dsimp only at hW); go_split_ands; first | (go_simp; done) | (go_simp; with_reducible rfl))); simp only [Act.put, List.setIfInBounds_toArray, List.set_cons_zero, List.set_cons_succ]
  refine HW.take 9 (v := ?_) rfl (by kernel_rfl) (by kernel_rfl) (by kernel_rfl) (fun _ _ _ h => h) (by kernel_rfl) ?_ ?_; rotate_left 1; (focus (intro W hW; (try dsimp only at hW); go_split_ands; first | (go_simp; done) | (go_simp; with_reducible rfl))); simp only [Act.put, List.setIfInBounds_toArray, List.set_cons_zero, List.set_cons_succ]
  refine HW.only 10 rfl (by kernel_rfl) (by kernel_rfl) (fun K hK => Or.inl ?_)
  go_simp
  refine (next_any _ p A n c l a _ HC0.out.str (by omega) (by omega)).mono ?_
  rintro e w1 ⟨y1, a1, rfl, ⟨i1, j1, -⟩, g1, h1, hs1, k1⟩
  have j1 := j1 (by omega)
  have HC1 := Lib.hid (HC0.out.moved hs1 k1)
  clear hs1
  have KP1 := Lib.hid (KP0.out.tr k1)
  clear k1
  dsimp only
  refine hK _ _ HC1.out.cs ?_
  clear hK K
  refine HW.take 11 (v := ?_) rfl (by kernel_rfl) (by kernel_rfl) (by kernel_rfl) (fun _ _ _ h => h) (by kernel_rfl) ?_ ?_; rotate_left 1; (focus (intro W hW; (try dsimp only at hW); go_split_ands; first | (go_simp; done) | (go_simp; with_reducible rfl))); simp only [Act.put, List.setIfInBounds_toArray, List.set_cons_zero, List.set_cons_succ]
  refine HW.only 12 rfl (by kernel_rfl) (by kernel_rfl) (fun K hK => Or.inl ?_)
  go_simp
  refine (add_any _ HC1.out hl ⟨19, 0, y1, 0, 0, 0, 0, 0, 0⟩).mono ?_
  rintro e w9 ⟨rfl, v9, hc9, k9⟩
  dsimp only
  refine hK _ _ hc9.cs ?_
  clear hK K
  refine HW.done (by kernel_rfl) (NoPanic.normal ?_)
  exact HQ.out w9 _ _ _ _ _ _ _ _ _ _ _ _ _ y1 a1 v9 hc9 ⟨i1, j1⟩ (by omega) (by omega) ((KP1.out.mono (fun i hi e => Or.inl e)).trans k9 (fun i hi e => Or.inr e))
noncomputable def oneR13 : Code := (Tryz.f18.body.bind (findRg 13)).getD .skip
set_option maxRecDepth 100000 in
set_option maxHeartbeats 8000000 in
theorem oneR13_ok (W : World) {B p q : Nat} {A : Option Addr} {n c : Nat} {l : List Int} {a : Int} {m : Mach} {st : Int} {v : Value} {xs : List Ins} (h : Cod W B p q A n c l a m st v xs) (ha : a ≤ 100000000) (hl : xs.length ≤ 1000000) (hm : 1 ≤ m.lanes ∧ m.lanes ≤ 100) {s1 s2 s3 s4 s5 s6 s7 s8 s9 s10 s11 s12 s13 s14 s15 s16 s17 s18 s19 s20 s21 s22 s23 s24 s25 s26 s27 s28 s29 s30 s31 s32 s33 s34 s35 s36 s37 s38 s39 s40 s41 s42 s43 s44 s45 s46 s47 s48 s49 s50 s51 s52 s53 s54 s55 s56 s57 s58 s59 s60 s61 s62 s63 s64 s65 s66 s67 s68 s69 s70 s71 s72 s73 s74 s75 s76 s77 s78 s79 s80 s81 s82 s83 s84 s85 s86 s87 s88 s89 s90 s91 s92 s93 s94 s95 s96 s97 s98 s99 s100 s101 s102 s103 s104 s105 s106 s107 s108 s109 s110 s111 s112 s113 s114 s115 s116 s117 s118 s119 s120 s121 s122 s123 s124 s125 s126 s127 s128 s129 s130 s131 s132 s133 s134 s135 s136 s137 s138 s139 s140 s141 s142 s143 s144 s145 s146 s147 s148 s149 s150 s151 s152 s153 s154 s155 s156 s157 s158 s159 s160 s161 s162 s163 s164 s165 s166 s167 s168 s169 s170 s171 s172 s173 s174 s175 s176 s177 s178 s179 s180 s181 s182 s183 s184 s185 s186 s187 s188 s189 s190 s191 s192 s193 s194 s195 s196 s197 s198 s199 s200 s201 s202 s203 s204 s205 s206 : Value} (Q : Exit → Act → World → Prop)
    (hQ : ∀ (w' : World) (y76 y77 y78 y79 y80 y81 y82 y83 y84 y85 y86 y87 y88 y89 y90 y91 y92 y93 y94 y95 y96 y97 y98 y99 y100 y101 y102 y103 y104 y105 y106 y107 y108 y109 y110 y111 y112 y113 y114 y115 y116 y117 y118 y119 y120 y121 y122 y123 y124 : Value) (x : Ins) (a' : Int) (v' : Value), Cod w' B p q A n c l a' m st v' (xs ++ [x]) → PlainIns m x → a ≤ a' → a' ≤ a + 8 → Keeps (fun i => i = p ∨ B ≤ i) W w' → Q .normal ⟨#[.pointer (some ⟨q, 0, none⟩), s1, s2, s3, s4, s5, s6, s7, s8, s9, s10, s11, s12, s13, s14, s15, s16, s17, s18, s19, s20, s21, s22, s23, s24, s25, s26, s27, s28, s29, s30, s31, s32, s33, s34, s35, s36, s37, s38, s39, s40, s41, s42, s43, s44, s45, s46, s47, s48, s49, s50, s51, s52, s53, s54, s55, s56, s57, s58, s59, s60, s61, s62, s63, s64, s65, s66, s67, s68, s69, s70, s71, s72, s73, s74, s75, y76, y77, y78, y79, y80, y81, y82, y83, y84, y85, y86, y87, y88, y89, y90, y91, y92, y93, y94, y95, y96, y97, y98, y99, y100, y101, y102, y103, y104, y105, y106, y107, y108, y109, y110, y111, y112, y113, y114, y115, y116, y117, y118, y119, y120, y121, y122, y123, y124, s125, s126, s127, s128, s129, s130, s131, s132, s133, s134, s135, s136, s137, s138, s139, s140, s141, s142, s143, s144, s145, s146, s147, s148, s149, s150, s151, s152, s153, s154, s155, s156, s157, s158, s159, s160, s161, s162, s163, s164, s165, s166, s167, s168, s169, s170, s171, s172, s173, s174, s175, s176, s177, s178, s179, s180, s181, s182, s183, s184, s185, s186, s187, s188, s189, s190, s191, s192, s193, s194, s195, s196, s197, s198, s199, s200, s201, s202, s203, s204, s205, s206], []⟩ w') :
    Code.wp Tryz.prog oneR13 Q ⟨#[.pointer (some ⟨q, 0, none⟩), s1, s2, s3, s4, s5, s6, s7, s8, s9, s10, s11, s12, s13, s14, s15, s16, s17, s18, s19, s20, s21, s22, s23, s24, s25, s26, s27, s28, s29, s30, s31, s32, s33, s34, s35, s36, s37, s38, s39, s40, s41, s42, s43, s44, s45, s46, s47, s48, s49, s50, s51, s52, s53, s54, s55, s56, s57, s58, s59, s60, s61, s62, s63, s64, s65, s66, s67, s68, s69, s70, s71, s72, s73, s74, s75, s76, s77, s78, s79, s80, s81, s82, s83, s84, s85, s86, s87, s88, s89, s90, s91, s92, s93, s94, s95, s96, s97, s98, s99, s100, s101, s102, s103, s104, s105, s106, s107, s108, s109, s110, s111, s112, s113, s114, s115, s116, s117, s118, s119, s120, s121, s122, s123, s124, s125, s126, s127, s128, s129, s130, s131, s132, s133, s134, s135, s136, s137, s138, s139, s140, s141, s142, s143, s144, s145, s146, s147, s148, s149, s150, s151, s152, s153, s154, s155, s156, s157, s158, s159, s160, s161, s162, s163, s164, s165, s166, s167, s168, s169, s170, s171, s172, s173, s174, s175, s176, s177, s178, s179, s180, s181, s182, s183, s184, s185, s186, s187, s188, s189, s190, s191, s192, s193, s194, s195, s196, s197, s198, s199, s200, s201, s202, s203, s204, s205, s206], []⟩ W := by
  conv => arg 2; whnf
  have hpB := h.pB
  have hqB := h.Bq
  have HC0 := Lib.hid h.drew
  have KP0 := Lib.hid (Keeps.refl (· = p) W).drew
  have HQ := Lib.hid hQ
  have c0 : W.drew.cell? ⟨q, 0, none⟩ = some (.pointer (some ⟨p, 0, none⟩)) ∧ W.drew.cell? ⟨q, 4, none⟩ = some (.int .i64 m.lanes) ∧ W.drew.cell? ⟨q, 5, none⟩ = some (.int .i64 m.queues) ∧ W.drew.cell? ⟨q, 7, none⟩ = some (.int .i64 st) := h.drew.cs
  clear h hQ
  refine wp_region_hw (fun w' => w'.cell? ⟨q, 0, none⟩ = some (.pointer (some ⟨p, 0, none⟩)) ∧ w'.cell? ⟨q, 4, none⟩ = some (.int .i64 m.lanes) ∧ w'.cell? ⟨q, 5, none⟩ = some (.int .i64 m.queues) ∧ w'.cell? ⟨q, 7, none⟩ = some (.int .i64 st)) 49 (by kernel_rfl) rfl c0 ?_
  clear c0
  refine HW.take 0 (v := ?_) rfl (by kernel_rfl) (by kernel_rfl) (by kernel_rfl) (fun _ _ _ h => h) (by kernel_rfl) ?_ ?_; rotate_left 1; (focus (intro W hW; (try dsimp only at hW); go_split_ands; first | (go_simp; done) | (go_simp; with_reducible rfl))); simp only [Act.put, List.setIfInBounds_toArray, List.set_cons_zero, List.set_cons_succ]
  refine HW.take 1 (v := ?_) rfl (by kernel_rfl) (by kernel_rfl) (by kernel_rfl) (fun _ _ _ h => h) (by kernel_rfl) ?_ ?_; rotate_left 1; (focus (intro W hW; (try dsimp only at hW); go_split_ands; first | (go_simp; done) | (go_simp; with_reducible rfl))); simp only [Act.put, List.setIfInBounds_toArray, List.set_cons_zero, List.set_cons_succ]
  refine HW.take 2 (v := ?_) rfl (by kernel_rfl) (by kernel_rfl) (by kernel_rfl) (fun _ _ _ h => h) (by kernel_rfl) ?_ ?_; rotate_left 1; (focus (intro W hW; (try dsimp only at hW); go_split_ands; first | (go_simp; done) | (go_simp; with_reducible rfl))); simp only [Act.put, List.setIfInBounds_toArray, List.set_cons_zero, List.set_cons_succ]
  refine HW.take 3 (v := ?_) rfl (by kernel_rfl) (by kernel_rfl) (by kernel_rfl) (fun _ _ _ h => h) (by kernel_rfl) ?_ ?_; rotate_left 1; (focus (intro W hW; (try dsimp only at hW); go_split_ands; first | (go_simp; done) | (go_simp; with_reducible rfl))); simp only [Act.put, List.setIfInBounds_toArray, List.set_cons_zero, List.set_cons_succ]
  refine HW.take 4 (v := ?_) rfl (by kernel_rfl) (by kernel_rfl) (by kernel_rfl) (fun _ _ _ h => h) (by kernel_rfl) ?_ ?_; rotate_left 1; (focus (intro W hW; (try dsimp only at hW); go_split_ands; first | (go_simp; done) | (go_simp; with_reducible rfl))); simp only [Act.put, List.setIfInBounds_toArray, List.set_cons_zero, List.set_cons_succ]
  refine HW.take 6 (v := ?_) rfl (by kernel_rfl) (by kernel_rfl) (by kernel_rfl) (fun _ _ _ h => h) (by kernel_rfl) ?_ ?_; rotate_left 1; (focus (intro W hW; (try dsimp only at hW); go_split_ands; first | (go_simp; done) | (go_simp; with_reducible rfl))); simp only [Act.put, List.setIfInBounds_toArray, List.set_cons_zero, List.set_cons_succ]
  refine HW.take 9 (v := ?_) rfl (by kernel_rfl) (by kernel_rfl) (by kernel_rfl) (fun _ _ _ h => h) (by kernel_rfl) ?_ ?_; rotate_left 1; (focus (intro W hW; (try dsimp only at hW); go_split_ands; first | (go_simp; done) | (go_simp; with_reducible rfl))); simp only [Act.put, List.setIfInBounds_toArray, List.set_cons_zero, List.set_cons_succ]
  refine HW.take 11 (v := ?_) rfl (by kernel_rfl) (by kernel_rfl) (by kernel_rfl) (fun _ _ _ h => h) (by kernel_rfl) ?_ ?_; rotate_left 1; (focus (intro W hW; (try dsimp only at hW); go_split_ands; first | (go_simp; done) | (go_simp; with_reducible rfl))); simp only [Act.put, List.setIfInBounds_toArray, List.set_cons_zero, List.set_cons_succ]
  refine HW.take 12 (v := ?_) rfl (by kernel_rfl) (by kernel_rfl) (by kernel_rfl) (fun _ _ _ h => h) (by kernel_rfl) ?_ ?_; rotate_left 1; (focus (intro W hW; (try dsimp only at hW); go_split_ands; first | (go_simp; done) | (go_simp; with_reducible rfl))); simp only [Act.put, List.setIfInBounds_toArray, List.set_cons_zero, List.set_cons_succ]
  refine HW.take 13 (v := ?_) rfl (by kernel_rfl) (by kernel_rfl) (by kernel_rfl) (fun _ _ _ h => h) (by kernel_rfl) ?_ ?_; rotate_left 1; (focus (intro W hW; (try dsimp only at hW); go_split_ands; first | (go_simp; done) | (go_simp; with_reducible rfl))); simp only [Act.put, List.setIfInBounds_toArray, List.set_cons_zero, List.set_cons_succ]
  refine HW.take 14 (v := ?_) rfl (by kernel_rfl) (by kernel_rfl) (by kernel_rfl) (fun _ _ _ h => h) (by kernel_rfl) ?_ ?_; rotate_left 1; (focus (intro W hW; (try dsimp only at hW); go_split_ands; first | (go_simp; done) | (go_simp; with_reducible rfl))); simp only [Act.put, List.setIfInBounds_toArray, List.set_cons_zero, List.set_cons_succ]
  refine HW.take 16 (v := ?_) rfl (by kernel_rfl) (by kernel_rfl) (by kernel_rfl) (fun _ _ _ h => h) (by kernel_rfl) ?_ ?_; rotate_left 1; (focus (intro W hW; (try dsimp only at hW); go_split_ands; first | (go_simp; done) | (go_simp; with_reducible rfl))); simp only [Act.put, List.setIfInBounds_toArray, List.set_cons_zero, List.set_cons_succ]
  refine HW.take 17 (v := ?_) rfl (by kernel_rfl) (by kernel_rfl) (by kernel_rfl) (fun _ _ _ h => h) (by kernel_rfl) ?_ ?_; rotate_left 1; (focus (intro W hW; (try dsimp only at hW); go_split_ands; first | (go_simp; done) | (go_simp; with_reducible rfl))); simp only [Act.put, List.setIfInBounds_toArray, List.set_cons_zero, List.set_cons_succ]
  refine HW.take 18 (v := ?_) rfl (by kernel_rfl) (by kernel_rfl) (by kernel_rfl) (fun _ _ _ h => h) (by kernel_rfl) ?_ ?_; rotate_left 1; (focus (intro W hW; (try dsimp only at hW); go_split_ands; first | (go_simp; done) | (go_simp; with_reducible rfl))); simp only [Act.put, List.setIfInBounds_toArray, List.set_cons_zero, List.set_cons_succ]
  refine HW.take 19 (v := ?_) rfl (by kernel_rfl) (by kernel_rfl) (by kernel_rfl) (fun _ _ _ h => h) (by kernel_rfl) ?_ ?_; rotate_left 1; (focus (intro W hW; (try dsimp only at hW); go_split_ands; first | (go_simp; done) | (go_simp; with_reducible rfl))); simp only [Act.put, List.setIfInBounds_toArray, List.set_cons_zero, List.set_cons_succ]
  refine HW.take 20 (v := ?_) rfl (by kernel_rfl) (by kernel_rfl) (by kernel_rfl) (fun _ _ _ h => h) (by kernel_rfl) ?_ ?_; rotate_left 1; (focus (intro W hW; (try dsimp only at hW); go_split_ands; first | (go_simp; done) | (go_simp; with_reducible rfl))); simp only [Act.put, List.setIfInBounds_toArray, List.set_cons_zero, List.set_cons_succ]
  refine HW.take 21 (v := ?_) rfl (by kernel_rfl) (by kernel_rfl) (by kernel_rfl) (fun _ _ _ h => h) (by kernel_rfl) ?_ ?_; rotate_left 1; (focus (intro W hW; (try dsimp only at hW); go_split_ands; first | (go_simp; done) | (go_simp; with_reducible rfl))); simp only [Act.put, List.setIfInBounds_toArray, List.set_cons_zero, List.set_cons_succ]
  refine HW.take 22 (v := ?_) rfl (by kernel_rfl) (by kernel_rfl) (by kernel_rfl) (fun _ _ _ h => h) (by kernel_rfl) ?_ ?_; rotate_left 1; (focus (intro W hW; (try dsimp only at hW); go_split_ands; first | (go_simp; done) | (go_simp; with_reducible rfl))); simp only [Act.put, List.setIfInBounds_toArray, List.set_cons_zero, List.set_cons_succ]
  refine HW.take 23 (v := ?_) rfl (by kernel_rfl) (by kernel_rfl) (by kernel_rfl) (fun _ _ _ h => h) (by kernel_rfl) ?_ ?_; rotate_left 1; (focus (intro W hW; (try dsimp only at hW); go_split_ands; first | (go_simp; done) | (go_simp; with_reducible rfl))); simp only [Act.put, List.setIfInBounds_toArray, List.set_cons_zero, List.set_cons_succ]
  refine HW.take 24 (v := ?_) rfl (by kernel_rfl) (by kernel_rfl) (by kernel_rfl) (fun _ _ _ h => h) (by kernel_rfl) ?_ ?_; rotate_left 1; (focus (intro W hW; (try dsimp only at hW); go_split_ands; first | (go_simp; done) | (go_simp; with_reducible rfl))); simp only [Act.put, List.setIfInBounds_toArray, List.set_cons_zero, List.set_cons_succ]
  refine HW.take 27 (v := ?_) rfl (by kernel_rfl) (by kernel_rfl) (by kernel_rfl) (fun _ _ _ h => h) (by kernel_rfl) ?_ ?_; rotate_left 1; (focus (intro W hW; (try dsimp only at hW); go_split_ands; first | (go_simp; done) | (go_simp; with_reducible rfl))); simp only [Act.put, List.setIfInBounds_toArray, List.set_cons_zero, List.set_cons_succ]
  refine HW.take 28 (v := ?_) rfl (by kernel_rfl) (by kernel_rfl) (by kernel_rfl) (fun _ _ _ h => h) (by kernel_rfl) ?_ ?_; rotate_left 1; (focus (intro W hW; (try dsimp only at hW); go_split_ands; first | (go_simp; done) | (go_simp; with_reducible rfl))); simp only [Act.put, List.setIfInBounds_toArray, List.set_cons_zero, List.set_cons_succ]
  refine HW.take 29 (v := ?_) rfl (by kernel_rfl) (by kernel_rfl) (by kernel_rfl) (fun _ _ _ h => h) (by kernel_rfl) ?_ ?_; rotate_left 1; (focus (intro W hW; (try dsimp only at hW); go_split_ands; first | (go_simp; done) | (go_simp; with_reducible rfl))); simp only [Act.put, List.setIfInBounds_toArray, List.set_cons_zero, List.set_cons_succ]
  refine HW.take 30 (v := ?_) rfl (by kernel_rfl) (by kernel_rfl) (by kernel_rfl) (fun _ _ _ h => h) (by kernel_rfl) ?_ ?_; rotate_left 1; (focus (intro W hW; (try dsimp only at hW); go_split_ands; first | (go_simp; done) | (go_simp; with_reducible rfl))); simp only [Act.put, List.setIfInBounds_toArray, List.set_cons_zero, List.set_cons_succ]
  refine HW.take 33 (v := ?_) rfl (by kernel_rfl) (by kernel_rfl) (by kernel_rfl) (fun _ _ _ h => h) (by kernel_rfl) ?_ ?_; rotate_left 1; (focus (intro W hW; (try dsimp only at hW); go_split_ands; first | (go_simp; done) | (go_simp; with_reducible rfl))); simp only [Act.put, List.setIfInBounds_toArray, List.set_cons_zero, List.set_cons_succ]
  refine HW.take 34 (v := ?_) rfl (by kernel_rfl) (by kernel_rfl) (by kernel_rfl) (fun _ _ _ h => h) (by kernel_rfl) ?_ ?_; rotate_left 1; (focus (intro W hW; (try dsimp only at hW); go_split_ands; first | (go_simp; done) | (go_simp; with_reducible rfl))); simp only [Act.put, List.setIfInBounds_toArray, List.set_cons_zero, List.set_cons_succ]
  refine HW.take 35 (v := ?_) rfl (by kernel_rfl) (by kernel_rfl) (by kernel_rfl) (fun _ _ _ h => h) (by kernel_rfl) ?_ ?_; rotate_left 1; (focus (intro W hW; (try dsimp only at hW); go_split_ands; first | (go_simp; done) | (go_simp; with_reducible rfl))); simp only [Act.put, List.setIfInBounds_toArray, List.set_cons_zero, List.set_cons_succ]
  refine HW.take 36 (v := ?_) rfl (by kernel_rfl) (by kernel_rfl) (by kernel_rfl) (fun _ _ _ h => h) (by kernel_rfl) ?_ ?_; rotate_left 1; (focus (intro W hW; (try dsimp only at hW); go_split_ands; first | (go_simp; done) | (go_simp; with_reducible rfl))); simp only [Act.put, List.setIfInBounds_toArray, List.set_cons_zero, List.set_cons_succ]
  refine HW.take 37 (v := ?_) rfl (by kernel_rfl) (by kernel_rfl) (by kernel_rfl) (fun _ _ _ h => h) (by kernel_rfl) ?_ ?_; rotate_left 1; (focus (intro W hW; (try dsimp only at hW); go_split_ands; first | (go_simp; done) | (go_simp; with_reducible rfl))); simp only [Act.put, List.setIfInBounds_toArray, List.set_cons_zero, List.set_cons_succ]
  refine HW.take 41 (v := ?_) rfl (by kernel_rfl) (by kernel_rfl) (by kernel_rfl) (fun _ _ _ h => h) (by kernel_rfl) ?_ ?_; rotate_left 1; (focus (intro W hW; (try dsimp only at hW); go_split_ands; first | (go_simp; done) | (go_simp; with_reducible rfl))); simp only [Act.put, List.setIfInBounds_toArray, List.set_cons_zero, List.set_cons_succ]
  refine HW.take 42 (v := ?_) rfl (by kernel_rfl) (by kernel_rfl) (by kernel_rfl) (fun _ _ _ h => h) (by kernel_rfl) ?_ ?_; rotate_left 1; (focus (intro W hW; (try dsimp only at hW); go_split_ands; first | (go_simp; done) | (go_simp; with_reducible rfl))); simp only [Act.put, List.setIfInBounds_toArray, List.set_cons_zero, List.set_cons_succ]
  refine HW.take 43 (v := ?_) rfl (by kernel_rfl) (by kernel_rfl) (by kernel_rfl) (fun _ _ _ h => h) (by kernel_rfl) ?_ ?_; rotate_left 1; (focus (intro W hW; (try dsimp only at hW); go_split_ands; first | (go_simp; done) | (go_simp; with_reducible rfl))); simp only [Act.put, List.setIfInBounds_toArray, List.set_cons_zero, List.set_cons_succ]
  refine HW.take 44 (v := ?_) rfl (by kernel_rfl) (by kernel_rfl) (by kernel_rfl) (fun _ _ _ h => h) (by kernel_rfl) ?_ ?_; rotate_left 1; (focus (intro W hW; (try dsimp only at hW); go_split_ands; first | (go_simp; done) | (go_simp; with_reducible rfl))); simp only [Act.put, List.setIfInBounds_toArray, List.set_cons_zero, List.set_cons_succ]
  refine HW.only 5 rfl (by kernel_rfl) (by kernel_rfl) (fun K hK => Or.inl ?_)
  go_simp
  refine (next_any _ p A n c l a 8 HC0.out.str (by omega) (by omega)).mono ?_
  rintro e w1 ⟨y1, a1, rfl, ⟨i1, j1, -⟩, g1, h1, hs1, k1⟩
  have j1 := j1 (by omega)
  have HC1 := Lib.hid (HC0.out.moved hs1 k1)
  clear hs1
  have KP1 := Lib.hid (KP0.out.tr k1)
  clear k1
  dsimp only
  refine hK _ _ HC1.out.cs ?_
  clear hK K
  refine HW.only 7 rfl (by kernel_rfl) (by kernel_rfl) (fun K hK => Or.inl ?_)
  go_simp
  refine (reg_any _ HC1.out (by omega)).mono ?_
  rintro e w2 ⟨y2, a2, rfl, ⟨i2, j2⟩, g2, h2, hc2, k2⟩
  have HC2 := Lib.hid hc2
  clear hc2
  have KP2 := Lib.hid (KP1.out.tr k2)
  clear k2
  dsimp only
  refine hK _ _ HC2.out.cs ?_
  clear hK K
  refine HW.take 8 (v := ?_) rfl (by kernel_rfl) (by kernel_rfl) (by kernel_rfl) (fun _ _ _ h => h) (by kernel_rfl) ?_ ?_; rotate_left 1; (focus (intro W hW; (try dsimp only at hW); go_split_ands; first | (go_simp; done) | (go_simp; with_reducible rfl))); simp only [Act.put, List.setIfInBounds_toArray, List.set_cons_zero, List.set_cons_succ]
  refine HW.only 10 rfl (by kernel_rfl) (by kernel_rfl) (fun K hK => Or.inl ?_)
  go_simp
  refine (reg_any _ HC2.out (by omega)).mono ?_
  rintro e w3 ⟨y3, a3, rfl, ⟨i3, j3⟩, g3, h3, hc3, k3⟩
  have HC3 := Lib.hid hc3
  clear hc3
  have KP3 := Lib.hid (KP2.out.tr k3)
  clear k3
  dsimp only
  refine hK _ _ HC3.out.cs ?_
  clear hK K
  refine HW.only 15 rfl (by kernel_rfl) (by kernel_rfl) (fun K hK => Or.inl ?_)
  go_simp
  refine (next_any _ p A n c l a3 8 HC3.out.str (by omega) (by omega)).mono ?_
  rintro e w4 ⟨y4, a4, rfl, ⟨i4, j4, -⟩, g4, h4, hs4, k4⟩
  have j4 := j4 (by omega)
  have HC4 := Lib.hid (HC3.out.moved hs4 k4)
  clear hs4
  have KP4 := Lib.hid (KP3.out.tr k4)
  clear k4
  dsimp only
  refine hK _ _ HC4.out.cs ?_
  clear hK K
  refine HW.only 25 rfl (by kernel_rfl) (by kernel_rfl) (fun K hK => Or.inl ?_)
  go_simp
  refine (next_any _ p A n c l a4 _ HC4.out.str (by omega) (by omega)).mono ?_
  rintro e w5 ⟨y5, a5, rfl, ⟨i5, j5, -⟩, g5, h5, hs5, k5⟩
  have j5 := j5 (by omega)
  have HC5 := Lib.hid (HC4.out.moved hs5 k5)
  clear hs5
  have KP5 := Lib.hid (KP4.out.tr k5)
  clear k5
  dsimp only
  refine hK _ _ HC5.out.cs ?_
  clear hK K
  refine HW.take 26 (v := ?_) rfl (by kernel_rfl) (by kernel_rfl) (by kernel_rfl) (fun _ _ _ h => h) (by kernel_rfl) ?_ ?_; rotate_left 1; (focus (intro W hW; (try dsimp only at hW); go_split_ands; first | (go_simp; done) | (go_simp; with_reducible rfl))); simp only [Act.put, List.setIfInBounds_toArray, List.set_cons_zero, List.set_cons_succ]
  refine HW.only 31 rfl (by kernel_rfl) (by kernel_rfl) (fun K hK => Or.inl ?_)
  go_simp
  refine (next_any _ p A n c l a5 8 HC5.out.str (by omega) (by omega)).mono ?_
  rintro e w6 ⟨y6, a6, rfl, ⟨i6, j6, -⟩, g6, h6, hs6, k6⟩
  have j6 := j6 (by omega)
  have HC6 := Lib.hid (HC5.out.moved hs6 k6)
  clear hs6
  have KP6 := Lib.hid (KP5.out.tr k6)
  clear k6
  dsimp only
  refine hK _ _ HC6.out.cs ?_
  clear hK K
  refine HW.take 32 (v := ?_) rfl (by kernel_rfl) (by kernel_rfl) (by kernel_rfl) (fun _ _ _ h => h) (by kernel_rfl) ?_ ?_; rotate_left 1; (focus (intro W hW; (try dsimp only at hW); go_split_ands; first | (go_simp; done) | (go_simp; with_reducible rfl))); simp only [Act.put, List.setIfInBounds_toArray, List.set_cons_zero, List.set_cons_succ]
  refine HW.only 38 rfl (by kernel_rfl) (by kernel_rfl) (fun K hK => Or.inl ?_)
  go_simp
  refine (next_any _ p A n c l a6 8 HC6.out.str (by omega) (by omega)).mono ?_
  rintro e w7 ⟨y7, a7, rfl, ⟨i7, j7, -⟩, g7, h7, hs7, k7⟩
  have j7 := j7 (by omega)
  have HC7 := Lib.hid (HC6.out.moved hs7 k7)
  clear hs7
  have KP7 := Lib.hid (KP6.out.tr k7)
  clear k7
  dsimp only
  refine hK _ _ HC7.out.cs ?_
  clear hK K
  refine HW.take 39 (v := ?_) rfl (by kernel_rfl) (by kernel_rfl) (by kernel_rfl) (fun _ _ _ h => h) (by kernel_rfl) ?_ ?_; rotate_left 1; (focus (intro W hW; (try dsimp only at hW); go_split_ands; first | (go_simp; done) | (go_simp; with_reducible rfl))); simp only [Act.put, List.setIfInBounds_toArray, List.set_cons_zero, List.set_cons_succ]
  refine HW.two 40 45 rfl rfl (by kernel_rfl) (by kernel_rfl) (by kernel_rfl) (fun K hK => Or.inl ?_) (fun K hK => Or.inl ?_)
  · go_simp
    have HBb := Lib.hid (HC7.out.alloc (.cells #[.int .i64 12, .int .i64 0, .int .i64 y1, .int .i64 y2, .int .i64 0, .int .i64 0, .int .i64 0, .int .i64 0, .int .i64 0, .int .i64 13, .int .i64 0, .int .i64 y3, .int .i64 y4, .int .i64 0, .int .i64 0, .int .i64 0, .int .i64 y5, .int .i64 0, .int .i64 15, .int .i64 0, .int .i64 0, .int .i64 y6, .int .i64 0, .int .i64 0, .int .i64 0, .int .i64 0, .int .i64 0, .int .i64 16, .int .i64 0, .int .i64 0, .int .i64 0, .int .i64 0, .int .i64 0, .int .i64 0, .int .i64 0, .int .i64 0, .int .i64 17, .int .i64 0, .int .i64 y7, .int .i64 0, .int .i64 0, .int .i64 0, .int .i64 0, .int .i64 0, .int .i64 0] 44))
    have KBb := Lib.hid (KP7.out.alloc (.cells #[.int .i64 12, .int .i64 0, .int .i64 y1, .int .i64 y2, .int .i64 0, .int .i64 0, .int .i64 0, .int .i64 0, .int .i64 0, .int .i64 13, .int .i64 0, .int .i64 y3, .int .i64 y4, .int .i64 0, .int .i64 0, .int .i64 0, .int .i64 y5, .int .i64 0, .int .i64 15, .int .i64 0, .int .i64 0, .int .i64 y6, .int .i64 0, .int .i64 0, .int .i64 0, .int .i64 0, .int .i64 0, .int .i64 16, .int .i64 0, .int .i64 0, .int .i64 0, .int .i64 0, .int .i64 0, .int .i64 0, .int .i64 0, .int .i64 0, .int .i64 17, .int .i64 0, .int .i64 y7, .int .i64 0, .int .i64 0, .int .i64 0, .int .i64 0, .int .i64 0, .int .i64 0] 44))
    have BB := Lib.hid (Blk.new w7 44 #[.int .i64 12, .int .i64 0, .int .i64 y1, .int .i64 y2, .int .i64 0, .int .i64 0, .int .i64 0, .int .i64 0, .int .i64 0, .int .i64 13, .int .i64 0, .int .i64 y3, .int .i64 y4, .int .i64 0, .int .i64 0, .int .i64 0, .int .i64 y5, .int .i64 0, .int .i64 15, .int .i64 0, .int .i64 0, .int .i64 y6, .int .i64 0, .int .i64 0, .int .i64 0, .int .i64 0, .int .i64 0, .int .i64 16, .int .i64 0, .int .i64 0, .int .i64 0, .int .i64 0, .int .i64 0, .int .i64 0, .int .i64 0, .int .i64 0, .int .i64 17, .int .i64 0, .int .i64 y7, .int .i64 0, .int .i64 0, .int .i64 0, .int .i64 0, .int .i64 0, .int .i64 0])
    have zbb : B ≤ w7.heap.size := by have h1 := HC7.out.blk.lt; omega
    refine hK _ _ HBb.out.cs ?_
    clear hK K
    refine HW.only 45 rfl (by kernel_rfl) (by kernel_rfl) (fun K hK => Or.inl ?_)
    go_simp
    refine (next_any _ p A n c l a7 5 HBb.out.str (by omega) (by omega)).mono ?_
    rintro e w8 ⟨y8, a8, rfl, ⟨i8, j8, -⟩, g8, h8, hs8, k8⟩
    have j8 := j8 (by omega)
    have HC8 := Lib.hid (HBb.out.moved hs8 k8)
    clear hs8
    have KP8 := Lib.hid (KBb.out.tr k8)
    have BB8 := Lib.hid (k8.blk BB.out (by omega))
    clear k8
    dsimp only
    rcases (show y8 = 0 ∨ y8 = 1 ∨ y8 = 2 ∨ y8 = 3 ∨ y8 = 4 by omega) with rfl | rfl | rfl | rfl | rfl
    · refine hK _ _ HC8.out.cs ?_
      clear hK K
      refine HW.take 46 (v := ?_) rfl (by kernel_rfl) (by kernel_rfl) (by kernel_rfl) (fun _ _ _ h => h) (by kernel_rfl) ?_ ?_; rotate_left 1; (focus (intro W hW; (try dsimp only at hW); go_split_ands; first | (go_simp; done) | (go_simp; with_reducible rfl))); simp only [Act.put, List.setIfInBounds_toArray, List.set_cons_zero, List.set_cons_succ]
      refine HW.only 47 rfl (by kernel_rfl) (by kernel_rfl) (fun K hK => Or.inl ?_)
      have d0 : w8.cell? ⟨w7.heap.size, 0, none⟩ = some (.int .i64 12) := BB8.out.cell 0
      have d1 : w8.cell? ⟨w7.heap.size, 1, none⟩ = some (.int .i64 0) := BB8.out.cell 1
      have d2 : w8.cell? ⟨w7.heap.size, 2, none⟩ = some (.int .i64 y1) := BB8.out.cell 2
      have d3 : w8.cell? ⟨w7.heap.size, 3, none⟩ = some (.int .i64 y2) := BB8.out.cell 3
      have d4 : w8.cell? ⟨w7.heap.size, 4, none⟩ = some (.int .i64 0) := BB8.out.cell 4
      have d5 : w8.cell? ⟨w7.heap.size, 5, none⟩ = some (.int .i64 0) := BB8.out.cell 5
      have d6 : w8.cell? ⟨w7.heap.size, 6, none⟩ = some (.int .i64 0) := BB8.out.cell 6
      have d7 : w8.cell? ⟨w7.heap.size, 7, none⟩ = some (.int .i64 0) := BB8.out.cell 7
      have d8 : w8.cell? ⟨w7.heap.size, 8, none⟩ = some (.int .i64 0) := BB8.out.cell 8
      go_simp
      clear d0 d1 d2 d3 d4 d5 d6 d7 d8
      refine hK _ _ HC8.out.cs ?_
      clear hK K
      refine HW.only 48 rfl (by kernel_rfl) (by kernel_rfl) (fun K hK => Or.inl ?_)
      go_simp
      refine (add_any _ HC8.out hl ⟨12, 0, y1, y2, 0, 0, 0, 0, 0⟩).mono ?_
      rintro e w9 ⟨rfl, v9, hc9, k9⟩
      dsimp only
      refine hK _ _ hc9.cs ?_
      clear hK K
      refine HW.done (by kernel_rfl) (NoPanic.normal ?_)
      exact HQ.out w9 _ _ _ _ _ _ _ _ _ _ _ _ _ _ _ _ _ _ _ _ _ _ _ _ _ _ _ _ _ _ _ _ _ _ _ _ _ _ _ _ _ _ _ _ _ _ _ _ _ _ a8 v9 hc9 (plain_dup ⟨i1, j1⟩ ⟨i2, j2⟩) (by omega) (by omega) ((KP8.out.mono (fun i hi e => Or.inl e)).trans k9 (fun i hi e => Or.inr e))
    · refine hK _ _ HC8.out.cs ?_
      clear hK K
      refine HW.take 46 (v := ?_) rfl (by kernel_rfl) (by kernel_rfl) (by kernel_rfl) (fun _ _ _ h => h) (by kernel_rfl) ?_ ?_; rotate_left 1; (focus (intro W hW; (try dsimp only at hW); go_split_ands; first | (go_simp; done) | (go_simp; with_reducible rfl))); simp only [Act.put, List.setIfInBounds_toArray, List.set_cons_zero, List.set_cons_succ]
      refine HW.only 47 rfl (by kernel_rfl) (by kernel_rfl) (fun K hK => Or.inl ?_)
      have d0 : w8.cell? ⟨w7.heap.size, 9, none⟩ = some (.int .i64 13) := BB8.out.cell 9
      have d1 : w8.cell? ⟨w7.heap.size, 10, none⟩ = some (.int .i64 0) := BB8.out.cell 10
      have d2 : w8.cell? ⟨w7.heap.size, 11, none⟩ = some (.int .i64 y3) := BB8.out.cell 11
      have d3 : w8.cell? ⟨w7.heap.size, 12, none⟩ = some (.int .i64 y4) := BB8.out.cell 12
      have d4 : w8.cell? ⟨w7.heap.size, 13, none⟩ = some (.int .i64 0) := BB8.out.cell 13
      have d5 : w8.cell? ⟨w7.heap.size, 14, none⟩ = some (.int .i64 0) := BB8.out.cell 14
      have d6 : w8.cell? ⟨w7.heap.size, 15, none⟩ = some (.int .i64 0) := BB8.out.cell 15
      have d7 : w8.cell? ⟨w7.heap.size, 16, none⟩ = some (.int .i64 y5) := BB8.out.cell 16
      have d8 : w8.cell? ⟨w7.heap.size, 17, none⟩ = some (.int .i64 0) := BB8.out.cell 17
      go_simp
      clear d0 d1 d2 d3 d4 d5 d6 d7 d8
      refine hK _ _ HC8.out.cs ?_
      clear hK K
      refine HW.only 48 rfl (by kernel_rfl) (by kernel_rfl) (fun K hK => Or.inl ?_)
      go_simp
      refine (add_any _ HC8.out hl ⟨13, 0, y3, y4, 0, 0, 0, y5, 0⟩).mono ?_
      rintro e w9 ⟨rfl, v9, hc9, k9⟩
      dsimp only
      refine hK _ _ hc9.cs ?_
      clear hK K
      refine HW.done (by kernel_rfl) (NoPanic.normal ?_)
      exact HQ.out w9 _ _ _ _ _ _ _ _ _ _ _ _ _ _ _ _ _ _ _ _ _ _ _ _ _ _ _ _ _ _ _ _ _ _ _ _ _ _ _ _ _ _ _ _ _ _ _ _ _ _ a8 v9 hc9 (plain_get ⟨i3, j3⟩ ⟨i4, j4⟩ ⟨i5, j5⟩ hm.2) (by omega) (by omega) ((KP8.out.mono (fun i hi e => Or.inl e)).trans k9 (fun i hi e => Or.inr e))
    · refine hK _ _ HC8.out.cs ?_
      clear hK K
      refine HW.take 46 (v := ?_) rfl (by kernel_rfl) (by kernel_rfl) (by kernel_rfl) (fun _ _ _ h => h) (by kernel_rfl) ?_ ?_; rotate_left 1; (focus (intro W hW; (try dsimp only at hW); go_split_ands; first | (go_simp; done) | (go_simp; with_reducible rfl))); simp only [Act.put, List.setIfInBounds_toArray, List.set_cons_zero, List.set_cons_succ]
      refine HW.only 47 rfl (by kernel_rfl) (by kernel_rfl) (fun K hK => Or.inl ?_)
      have d0 : w8.cell? ⟨w7.heap.size, 18, none⟩ = some (.int .i64 15) := BB8.out.cell 18
      have d1 : w8.cell? ⟨w7.heap.size, 19, none⟩ = some (.int .i64 0) := BB8.out.cell 19
      have d2 : w8.cell? ⟨w7.heap.size, 20, none⟩ = some (.int .i64 0) := BB8.out.cell 20
      have d3 : w8.cell? ⟨w7.heap.size, 21, none⟩ = some (.int .i64 y6) := BB8.out.cell 21
      have d4 : w8.cell? ⟨w7.heap.size, 22, none⟩ = some (.int .i64 0) := BB8.out.cell 22
      have d5 : w8.cell? ⟨w7.heap.size, 23, none⟩ = some (.int .i64 0) := BB8.out.cell 23
      have d6 : w8.cell? ⟨w7.heap.size, 24, none⟩ = some (.int .i64 0) := BB8.out.cell 24
      have d7 : w8.cell? ⟨w7.heap.size, 25, none⟩ = some (.int .i64 0) := BB8.out.cell 25
      have d8 : w8.cell? ⟨w7.heap.size, 26, none⟩ = some (.int .i64 0) := BB8.out.cell 26
      go_simp
      clear d0 d1 d2 d3 d4 d5 d6 d7 d8
      refine hK _ _ HC8.out.cs ?_
      clear hK K
      refine HW.only 48 rfl (by kernel_rfl) (by kernel_rfl) (fun K hK => Or.inl ?_)
      go_simp
      refine (add_any _ HC8.out hl ⟨15, 0, 0, y6, 0, 0, 0, 0, 0⟩).mono ?_
      rintro e w9 ⟨rfl, v9, hc9, k9⟩
      dsimp only
      refine hK _ _ hc9.cs ?_
      clear hK K
      refine HW.done (by kernel_rfl) (NoPanic.normal ?_)
      exact HQ.out w9 _ _ _ _ _ _ _ _ _ _ _ _ _ _ _ _ _ _ _ _ _ _ _ _ _ _ _ _ _ _ _ _ _ _ _ _ _ _ _ _ _ _ _ _ _ _ _ _ _ _ a8 v9 hc9 (plain_mac ⟨i6, j6⟩) (by omega) (by omega) ((KP8.out.mono (fun i hi e => Or.inl e)).trans k9 (fun i hi e => Or.inr e))
    · refine hK _ _ HC8.out.cs ?_
      clear hK K
      refine HW.take 46 (v := ?_) rfl (by kernel_rfl) (by kernel_rfl) (by kernel_rfl) (fun _ _ _ h => h) (by kernel_rfl) ?_ ?_; rotate_left 1; (focus (intro W hW; (try dsimp only at hW); go_split_ands; first | (go_simp; done) | (go_simp; with_reducible rfl))); simp only [Act.put, List.setIfInBounds_toArray, List.set_cons_zero, List.set_cons_succ]
      refine HW.only 47 rfl (by kernel_rfl) (by kernel_rfl) (fun K hK => Or.inl ?_)
      have d0 : w8.cell? ⟨w7.heap.size, 27, none⟩ = some (.int .i64 16) := BB8.out.cell 27
      have d1 : w8.cell? ⟨w7.heap.size, 28, none⟩ = some (.int .i64 0) := BB8.out.cell 28
      have d2 : w8.cell? ⟨w7.heap.size, 29, none⟩ = some (.int .i64 0) := BB8.out.cell 29
      have d3 : w8.cell? ⟨w7.heap.size, 30, none⟩ = some (.int .i64 0) := BB8.out.cell 30
      have d4 : w8.cell? ⟨w7.heap.size, 31, none⟩ = some (.int .i64 0) := BB8.out.cell 31
      have d5 : w8.cell? ⟨w7.heap.size, 32, none⟩ = some (.int .i64 0) := BB8.out.cell 32
      have d6 : w8.cell? ⟨w7.heap.size, 33, none⟩ = some (.int .i64 0) := BB8.out.cell 33
      have d7 : w8.cell? ⟨w7.heap.size, 34, none⟩ = some (.int .i64 0) := BB8.out.cell 34
      have d8 : w8.cell? ⟨w7.heap.size, 35, none⟩ = some (.int .i64 0) := BB8.out.cell 35
      go_simp
      clear d0 d1 d2 d3 d4 d5 d6 d7 d8
      refine hK _ _ HC8.out.cs ?_
      clear hK K
      refine HW.only 48 rfl (by kernel_rfl) (by kernel_rfl) (fun K hK => Or.inl ?_)
      go_simp
      refine (add_any _ HC8.out hl ⟨16, 0, 0, 0, 0, 0, 0, 0, 0⟩).mono ?_
      rintro e w9 ⟨rfl, v9, hc9, k9⟩
      dsimp only
      refine hK _ _ hc9.cs ?_
      clear hK K
      refine HW.done (by kernel_rfl) (NoPanic.normal ?_)
      exact HQ.out w9 _ _ _ _ _ _ _ _ _ _ _ _ _ _ _ _ _ _ _ _ _ _ _ _ _ _ _ _ _ _ _ _ _ _ _ _ _ _ _ _ _ _ _ _ _ _ _ _ _ _ a8 v9 hc9 (plain_clr) (by omega) (by omega) ((KP8.out.mono (fun i hi e => Or.inl e)).trans k9 (fun i hi e => Or.inr e))
    · refine hK _ _ HC8.out.cs ?_
      clear hK K
      refine HW.take 46 (v := ?_) rfl (by kernel_rfl) (by kernel_rfl) (by kernel_rfl) (fun _ _ _ h => h) (by kernel_rfl) ?_ ?_; rotate_left 1; (focus (intro W hW; (try dsimp only at hW); go_split_ands; first | (go_simp; done) | (go_simp; with_reducible rfl))); simp only [Act.put, List.setIfInBounds_toArray, List.set_cons_zero, List.set_cons_succ]
      refine HW.only 47 rfl (by kernel_rfl) (by kernel_rfl) (fun K hK => Or.inl ?_)
      have d0 : w8.cell? ⟨w7.heap.size, 36, none⟩ = some (.int .i64 17) := BB8.out.cell 36
      have d1 : w8.cell? ⟨w7.heap.size, 37, none⟩ = some (.int .i64 0) := BB8.out.cell 37
      have d2 : w8.cell? ⟨w7.heap.size, 38, none⟩ = some (.int .i64 y7) := BB8.out.cell 38
      have d3 : w8.cell? ⟨w7.heap.size, 39, none⟩ = some (.int .i64 0) := BB8.out.cell 39
      have d4 : w8.cell? ⟨w7.heap.size, 40, none⟩ = some (.int .i64 0) := BB8.out.cell 40
      have d5 : w8.cell? ⟨w7.heap.size, 41, none⟩ = some (.int .i64 0) := BB8.out.cell 41
      have d6 : w8.cell? ⟨w7.heap.size, 42, none⟩ = some (.int .i64 0) := BB8.out.cell 42
      have d7 : w8.cell? ⟨w7.heap.size, 43, none⟩ = some (.int .i64 0) := BB8.out.cell 43
      have d8 : w8.cell? ⟨w7.heap.size, 44, none⟩ = some (.int .i64 0) := BB8.out.cell 44
      go_simp
      clear d0 d1 d2 d3 d4 d5 d6 d7 d8
      refine hK _ _ HC8.out.cs ?_
      clear hK K
      refine HW.only 48 rfl (by kernel_rfl) (by kernel_rfl) (fun K hK => Or.inl ?_)
      go_simp
      refine (add_any _ HC8.out hl ⟨17, 0, y7, 0, 0, 0, 0, 0, 0⟩).mono ?_
      rintro e w9 ⟨rfl, v9, hc9, k9⟩
      dsimp only
      refine hK _ _ hc9.cs ?_
      clear hK K
      refine HW.done (by kernel_rfl) (NoPanic.normal ?_)
      exact HQ.out w9 _ _ _ _ _ _ _ _ _ _ _ _ _ _ _ _ _ _ _ _ _ _ _ _ _ _ _ _ _ _ _ _ _ _ _ _ _ _ _ _ _ _ _ _ _ _ _ _ _ _ a8 v9 hc9 (plain_acc ⟨i7, j7⟩) (by omega) (by omega) ((KP8.out.mono (fun i hi e => Or.inl e)).trans k9 (fun i hi e => Or.inr e))
  · go_simp
    refine (next_any _ p A n c l a7 5 HC7.out.str (by omega) (by omega)).mono ?_
    rintro e w8 ⟨y8, a8, rfl, ⟨i8, j8, -⟩, g8, h8, hs8, k8⟩
    have j8 := j8 (by omega)
    have HC8 := Lib.hid (HC7.out.moved hs8 k8)
    clear hs8
    have KP8 := Lib.hid (KP7.out.tr k8)
    clear k8
    dsimp only
    rcases (show y8 = 0 ∨ y8 = 1 ∨ y8 = 2 ∨ y8 = 3 ∨ y8 = 4 by omega) with rfl | rfl | rfl | rfl | rfl
    · refine hK _ _ HC8.out.cs ?_
      clear hK K
      refine HW.only 40 rfl (by kernel_rfl) (by kernel_rfl) (fun K hK => Or.inl ?_)
      go_simp
      have HBb := Lib.hid (HC8.out.alloc (.cells #[.int .i64 12, .int .i64 0, .int .i64 y1, .int .i64 y2, .int .i64 0, .int .i64 0, .int .i64 0, .int .i64 0, .int .i64 0, .int .i64 13, .int .i64 0, .int .i64 y3, .int .i64 y4, .int .i64 0, .int .i64 0, .int .i64 0, .int .i64 y5, .int .i64 0, .int .i64 15, .int .i64 0, .int .i64 0, .int .i64 y6, .int .i64 0, .int .i64 0, .int .i64 0, .int .i64 0, .int .i64 0, .int .i64 16, .int .i64 0, .int .i64 0, .int .i64 0, .int .i64 0, .int .i64 0, .int .i64 0, .int .i64 0, .int .i64 0, .int .i64 17, .int .i64 0, .int .i64 y7, .int .i64 0, .int .i64 0, .int .i64 0, .int .i64 0, .int .i64 0, .int .i64 0] 44))
      have KBb := Lib.hid (KP8.out.alloc (.cells #[.int .i64 12, .int .i64 0, .int .i64 y1, .int .i64 y2, .int .i64 0, .int .i64 0, .int .i64 0, .int .i64 0, .int .i64 0, .int .i64 13, .int .i64 0, .int .i64 y3, .int .i64 y4, .int .i64 0, .int .i64 0, .int .i64 0, .int .i64 y5, .int .i64 0, .int .i64 15, .int .i64 0, .int .i64 0, .int .i64 y6, .int .i64 0, .int .i64 0, .int .i64 0, .int .i64 0, .int .i64 0, .int .i64 16, .int .i64 0, .int .i64 0, .int .i64 0, .int .i64 0, .int .i64 0, .int .i64 0, .int .i64 0, .int .i64 0, .int .i64 17, .int .i64 0, .int .i64 y7, .int .i64 0, .int .i64 0, .int .i64 0, .int .i64 0, .int .i64 0, .int .i64 0] 44))
      have BB := Lib.hid (Blk.new w8 44 #[.int .i64 12, .int .i64 0, .int .i64 y1, .int .i64 y2, .int .i64 0, .int .i64 0, .int .i64 0, .int .i64 0, .int .i64 0, .int .i64 13, .int .i64 0, .int .i64 y3, .int .i64 y4, .int .i64 0, .int .i64 0, .int .i64 0, .int .i64 y5, .int .i64 0, .int .i64 15, .int .i64 0, .int .i64 0, .int .i64 y6, .int .i64 0, .int .i64 0, .int .i64 0, .int .i64 0, .int .i64 0, .int .i64 16, .int .i64 0, .int .i64 0, .int .i64 0, .int .i64 0, .int .i64 0, .int .i64 0, .int .i64 0, .int .i64 0, .int .i64 17, .int .i64 0, .int .i64 y7, .int .i64 0, .int .i64 0, .int .i64 0, .int .i64 0, .int .i64 0, .int .i64 0])
      have zbb : B ≤ w8.heap.size := by have h1 := HC8.out.blk.lt; omega
      refine hK _ _ HBb.out.cs ?_
      clear hK K
      refine HW.take 46 (v := ?_) rfl (by kernel_rfl) (by kernel_rfl) (by kernel_rfl) (fun _ _ _ h => h) (by kernel_rfl) ?_ ?_; rotate_left 1; (focus (intro W hW; (try dsimp only at hW); go_split_ands; first | (go_simp; done) | (go_simp; with_reducible rfl))); simp only [Act.put, List.setIfInBounds_toArray, List.set_cons_zero, List.set_cons_succ]
      refine HW.only 47 rfl (by kernel_rfl) (by kernel_rfl) (fun K hK => Or.inl ?_)
      have d0 : (w8.alloc (.cells #[.int .i64 12, .int .i64 0, .int .i64 y1, .int .i64 y2, .int .i64 0, .int .i64 0, .int .i64 0, .int .i64 0, .int .i64 0, .int .i64 13, .int .i64 0, .int .i64 y3, .int .i64 y4, .int .i64 0, .int .i64 0, .int .i64 0, .int .i64 y5, .int .i64 0, .int .i64 15, .int .i64 0, .int .i64 0, .int .i64 y6, .int .i64 0, .int .i64 0, .int .i64 0, .int .i64 0, .int .i64 0, .int .i64 16, .int .i64 0, .int .i64 0, .int .i64 0, .int .i64 0, .int .i64 0, .int .i64 0, .int .i64 0, .int .i64 0, .int .i64 17, .int .i64 0, .int .i64 y7, .int .i64 0, .int .i64 0, .int .i64 0, .int .i64 0, .int .i64 0, .int .i64 0] 44)).cell? ⟨w8.heap.size, 0, none⟩ = some (.int .i64 12) := BB.out.cell 0
      have d1 : (w8.alloc (.cells #[.int .i64 12, .int .i64 0, .int .i64 y1, .int .i64 y2, .int .i64 0, .int .i64 0, .int .i64 0, .int .i64 0, .int .i64 0, .int .i64 13, .int .i64 0, .int .i64 y3, .int .i64 y4, .int .i64 0, .int .i64 0, .int .i64 0, .int .i64 y5, .int .i64 0, .int .i64 15, .int .i64 0, .int .i64 0, .int .i64 y6, .int .i64 0, .int .i64 0, .int .i64 0, .int .i64 0, .int .i64 0, .int .i64 16, .int .i64 0, .int .i64 0, .int .i64 0, .int .i64 0, .int .i64 0, .int .i64 0, .int .i64 0, .int .i64 0, .int .i64 17, .int .i64 0, .int .i64 y7, .int .i64 0, .int .i64 0, .int .i64 0, .int .i64 0, .int .i64 0, .int .i64 0] 44)).cell? ⟨w8.heap.size, 1, none⟩ = some (.int .i64 0) := BB.out.cell 1
      have d2 : (w8.alloc (.cells #[.int .i64 12, .int .i64 0, .int .i64 y1, .int .i64 y2, .int .i64 0, .int .i64 0, .int .i64 0, .int .i64 0, .int .i64 0, .int .i64 13, .int .i64 0, .int .i64 y3, .int .i64 y4, .int .i64 0, .int .i64 0, .int .i64 0, .int .i64 y5, .int .i64 0, .int .i64 15, .int .i64 0, .int .i64 0, .int .i64 y6, .int .i64 0, .int .i64 0, .int .i64 0, .int .i64 0, .int .i64 0, .int .i64 16, .int .i64 0, .int .i64 0, .int .i64 0, .int .i64 0, .int .i64 0, .int .i64 0, .int .i64 0, .int .i64 0, .int .i64 17, .int .i64 0, .int .i64 y7, .int .i64 0, .int .i64 0, .int .i64 0, .int .i64 0, .int .i64 0, .int .i64 0] 44)).cell? ⟨w8.heap.size, 2, none⟩ = some (.int .i64 y1) := BB.out.cell 2
      have d3 : (w8.alloc (.cells #[.int .i64 12, .int .i64 0, .int .i64 y1, .int .i64 y2, .int .i64 0, .int .i64 0, .int .i64 0, .int .i64 0, .int .i64 0, .int .i64 13, .int .i64 0, .int .i64 y3, .int .i64 y4, .int .i64 0, .int .i64 0, .int .i64 0, .int .i64 y5, .int .i64 0, .int .i64 15, .int .i64 0, .int .i64 0, .int .i64 y6, .int .i64 0, .int .i64 0, .int .i64 0, .int .i64 0, .int .i64 0, .int .i64 16, .int .i64 0, .int .i64 0, .int .i64 0, .int .i64 0, .int .i64 0, .int .i64 0, .int .i64 0, .int .i64 0, .int .i64 17, .int .i64 0, .int .i64 y7, .int .i64 0, .int .i64 0, .int .i64 0, .int .i64 0, .int .i64 0, .int .i64 0] 44)).cell? ⟨w8.heap.size, 3, none⟩ = some (.int .i64 y2) := BB.out.cell 3
      have d4 : (w8.alloc (.cells #[.int .i64 12, .int .i64 0, .int .i64 y1, .int .i64 y2, .int .i64 0, .int .i64 0, .int .i64 0, .int .i64 0, .int .i64 0, .int .i64 13, .int .i64 0, .int .i64 y3, .int .i64 y4, .int .i64 0, .int .i64 0, .int .i64 0, .int .i64 y5, .int .i64 0, .int .i64 15, .int .i64 0, .int .i64 0, .int .i64 y6, .int .i64 0, .int .i64 0, .int .i64 0, .int .i64 0, .int .i64 0, .int .i64 16, .int .i64 0, .int .i64 0, .int .i64 0, .int .i64 0, .int .i64 0, .int .i64 0, .int .i64 0, .int .i64 0, .int .i64 17, .int .i64 0, .int .i64 y7, .int .i64 0, .int .i64 0, .int .i64 0, .int .i64 0, .int .i64 0, .int .i64 0] 44)).cell? ⟨w8.heap.size, 4, none⟩ = some (.int .i64 0) := BB.out.cell 4
      have d5 : (w8.alloc (.cells #[.int .i64 12, .int .i64 0, .int .i64 y1, .int .i64 y2, .int .i64 0, .int .i64 0, .int .i64 0, .int .i64 0, .int .i64 0, .int .i64 13, .int .i64 0, .int .i64 y3, .int .i64 y4, .int .i64 0, .int .i64 0, .int .i64 0, .int .i64 y5, .int .i64 0, .int .i64 15, .int .i64 0, .int .i64 0, .int .i64 y6, .int .i64 0, .int .i64 0, .int .i64 0, .int .i64 0, .int .i64 0, .int .i64 16, .int .i64 0, .int .i64 0, .int .i64 0, .int .i64 0, .int .i64 0, .int .i64 0, .int .i64 0, .int .i64 0, .int .i64 17, .int .i64 0, .int .i64 y7, .int .i64 0, .int .i64 0, .int .i64 0, .int .i64 0, .int .i64 0, .int .i64 0] 44)).cell? ⟨w8.heap.size, 5, none⟩ = some (.int .i64 0) := BB.out.cell 5
      have d6 : (w8.alloc (.cells #[.int .i64 12, .int .i64 0, .int .i64 y1, .int .i64 y2, .int .i64 0, .int .i64 0, .int .i64 0, .int .i64 0, .int .i64 0, .int .i64 13, .int .i64 0, .int .i64 y3, .int .i64 y4, .int .i64 0, .int .i64 0, .int .i64 0, .int .i64 y5, .int .i64 0, .int .i64 15, .int .i64 0, .int .i64 0, .int .i64 y6, .int .i64 0, .int .i64 0, .int .i64 0, .int .i64 0, .int .i64 0, .int .i64 16, .int .i64 0, .int .i64 0, .int .i64 0, .int .i64 0, .int .i64 0, .int .i64 0, .int .i64 0, .int .i64 0, .int .i64 17, .int .i64 0, .int .i64 y7, .int .i64 0, .int .i64 0, .int .i64 0, .int .i64 0, .int .i64 0, .int .i64 0] 44)).cell? ⟨w8.heap.size, 6, none⟩ = some (.int .i64 0) := BB.out.cell 6
      have d7 : (w8.alloc (.cells #[.int .i64 12, .int .i64 0, .int .i64 y1, .int .i64 y2, .int .i64 0, .int .i64 0, .int .i64 0, .int .i64 0, .int .i64 0, .int .i64 13, .int .i64 0, .int .i64 y3, .int .i64 y4, .int .i64 0, .int .i64 0, .int .i64 0, .int .i64 y5, .int .i64 0, .int .i64 15, .int .i64 0, .int .i64 0, .int .i64 y6, .int .i64 0, .int .i64 0, .int .i64 0, .int .i64 0, .int .i64 0, .int .i64 16, .int .i64 0, .int .i64 0, .int .i64 0, .int .i64 0, .int .i64 0, .int .i64 0, .int .i64 0, .int .i64 0, .int .i64 17, .int .i64 0, .int .i64 y7, .int .i64 0, .int .i64 0, .int .i64 0, .int .i64 0, .int .i64 0, .int .i64 0] 44)).cell? ⟨w8.heap.size, 7, none⟩ = some (.int .i64 0) := BB.out.cell 7
      have d8 : (w8.alloc (.cells #[.int .i64 12, .int .i64 0, .int .i64 y1, .int .i64 y2, .int .i64 0, .int .i64 0, .int .i64 0, .int .i64 0, .int .i64 0, .int .i64 13, .int .i64 0, .int .i64 y3, .int .i64 y4, .int .i64 0, .int .i64 0, .int .i64 0, .int .i64 y5, .int .i64 0, .int .i64 15, .int .i64 0, .int .i64 0, .int .i64 y6, .int .i64 0, .int .i64 0, .int .i64 0, .int .i64 0, .int .i64 0, .int .i64 16, .int .i64 0, .int .i64 0, .int .i64 0, .int .i64 0, .int .i64 0, .int .i64 0, .int .i64 0, .int .i64 0, .int .i64 17, .int .i64 0, .int .i64 y7, .int .i64 0, .int .i64 0, .int .i64 0, .int .i64 0, .int .i64 0, .int .i64 0] 44)).cell? ⟨w8.heap.size, 8, none⟩ = some (.int .i64 0) := BB.out.cell 8
      go_simp
      clear d0 d1 d2 d3 d4 d5 d6 d7 d8
      refine hK _ _ HBb.out.cs ?_
      clear hK K
      refine HW.only 48 rfl (by kernel_rfl) (by kernel_rfl) (fun K hK => Or.inl ?_)
      go_simp
      refine (add_any _ HBb.out hl ⟨12, 0, y1, y2, 0, 0, 0, 0, 0⟩).mono ?_
      rintro e w9 ⟨rfl, v9, hc9, k9⟩
      dsimp only
      refine hK _ _ hc9.cs ?_
      clear hK K
      refine HW.done (by kernel_rfl) (NoPanic.normal ?_)
      exact HQ.out w9 _ _ _ _ _ _ _ _ _ _ _ _ _ _ _ _ _ _ _ _ _ _ _ _ _ _ _ _ _ _ _ _ _ _ _ _ _ _ _ _ _ _ _ _ _ _ _ _ _ _ a8 v9 hc9 (plain_dup ⟨i1, j1⟩ ⟨i2, j2⟩) (by omega) (by omega) ((KBb.out.mono (fun i hi e => Or.inl e)).trans k9 (fun i hi e => Or.inr e))
    · refine hK _ _ HC8.out.cs ?_
      clear hK K
      refine HW.only 40 rfl (by kernel_rfl) (by kernel_rfl) (fun K hK => Or.inl ?_)
      go_simp
      have HBb := Lib.hid (HC8.out.alloc (.cells #[.int .i64 12, .int .i64 0, .int .i64 y1, .int .i64 y2, .int .i64 0, .int .i64 0, .int .i64 0, .int .i64 0, .int .i64 0, .int .i64 13, .int .i64 0, .int .i64 y3, .int .i64 y4, .int .i64 0, .int .i64 0, .int .i64 0, .int .i64 y5, .int .i64 0, .int .i64 15, .int .i64 0, .int .i64 0, .int .i64 y6, .int .i64 0, .int .i64 0, .int .i64 0, .int .i64 0, .int .i64 0, .int .i64 16, .int .i64 0, .int .i64 0, .int .i64 0, .int .i64 0, .int .i64 0, .int .i64 0, .int .i64 0, .int .i64 0, .int .i64 17, .int .i64 0, .int .i64 y7, .int .i64 0, .int .i64 0, .int .i64 0, .int .i64 0, .int .i64 0, .int .i64 0] 44))
      have KBb := Lib.hid (KP8.out.alloc (.cells #[.int .i64 12, .int .i64 0, .int .i64 y1, .int .i64 y2, .int .i64 0, .int .i64 0, .int .i64 0, .int .i64 0, .int .i64 0, .int .i64 13, .int .i64 0, .int .i64 y3, .int .i64 y4, .int .i64 0, .int .i64 0, .int .i64 0, .int .i64 y5, .int .i64 0, .int .i64 15, .int .i64 0, .int .i64 0, .int .i64 y6, .int .i64 0, .int .i64 0, .int .i64 0, .int .i64 0, .int .i64 0, .int .i64 16, .int .i64 0, .int .i64 0, .int .i64 0, .int .i64 0, .int .i64 0, .int .i64 0, .int .i64 0, .int .i64 0, .int .i64 17, .int .i64 0, .int .i64 y7, .int .i64 0, .int .i64 0, .int .i64 0, .int .i64 0, .int .i64 0, .int .i64 0] 44))
      have BB := Lib.hid (Blk.new w8 44 #[.int .i64 12, .int .i64 0, .int .i64 y1, .int .i64 y2, .int .i64 0, .int .i64 0, .int .i64 0, .int .i64 0, .int .i64 0, .int .i64 13, .int .i64 0, .int .i64 y3, .int .i64 y4, .int .i64 0, .int .i64 0, .int .i64 0, .int .i64 y5, .int .i64 0, .int .i64 15, .int .i64 0, .int .i64 0, .int .i64 y6, .int .i64 0, .int .i64 0, .int .i64 0, .int .i64 0, .int .i64 0, .int .i64 16, .int .i64 0, .int .i64 0, .int .i64 0, .int .i64 0, .int .i64 0, .int .i64 0, .int .i64 0, .int .i64 0, .int .i64 17, .int .i64 0, .int .i64 y7, .int .i64 0, .int .i64 0, .int .i64 0, .int .i64 0, .int .i64 0, .int .i64 0])
      have zbb : B ≤ w8.heap.size := by have h1 := HC8.out.blk.lt; omega
      refine hK _ _ HBb.out.cs ?_
      clear hK K
      refine HW.take 46 (v := ?_) rfl (by kernel_rfl) (by kernel_rfl) (by kernel_rfl) (fun _ _ _ h => h) (by kernel_rfl) ?_ ?_; rotate_left 1; (focus (intro W hW; (try dsimp only at hW); go_split_ands; first | (go_simp; done) | (go_simp; with_reducible rfl))); simp only [Act.put, List.setIfInBounds_toArray, List.set_cons_zero, List.set_cons_succ]
      refine HW.only 47 rfl (by kernel_rfl) (by kernel_rfl) (fun K hK => Or.inl ?_)
      have d0 : (w8.alloc (.cells #[.int .i64 12, .int .i64 0, .int .i64 y1, .int .i64 y2, .int .i64 0, .int .i64 0, .int .i64 0, .int .i64 0, .int .i64 0, .int .i64 13, .int .i64 0, .int .i64 y3, .int .i64 y4, .int .i64 0, .int .i64 0, .int .i64 0, .int .i64 y5, .int .i64 0, .int .i64 15, .int .i64 0, .int .i64 0, .int .i64 y6, .int .i64 0, .int .i64 0, .int .i64 0, .int .i64 0, .int .i64 0, .int .i64 16, .int .i64 0, .int .i64 0, .int .i64 0, .int .i64 0, .int .i64 0, .int .i64 0, .int .i64 0, .int .i64 0, .int .i64 17, .int .i64 0, .int .i64 y7, .int .i64 0, .int .i64 0, .int .i64 0, .int .i64 0, .int .i64 0, .int .i64 0] 44)).cell? ⟨w8.heap.size, 9, none⟩ = some (.int .i64 13) := BB.out.cell 9
      have d1 : (w8.alloc (.cells #[.int .i64 12, .int .i64 0, .int .i64 y1, .int .i64 y2, .int .i64 0, .int .i64 0, .int .i64 0, .int .i64 0, .int .i64 0, .int .i64 13, .int .i64 0, .int .i64 y3, .int .i64 y4, .int .i64 0, .int .i64 0, .int .i64 0, .int .i64 y5, .int .i64 0, .int .i64 15, .int .i64 0, .int .i64 0, .int .i64 y6, .int .i64 0, .int .i64 0, .int .i64 0, .int .i64 0, .int .i64 0, .int .i64 16, .int .i64 0, .int .i64 0, .int .i64 0, .int .i64 0, .int .i64 0, .int .i64 0, .int .i64 0, .int .i64 0, .int .i64 17, .int .i64 0, .int .i64 y7, .int .i64 0, .int .i64 0, .int .i64 0, .int .i64 0, .int .i64 0, .int .i64 0] 44)).cell? ⟨w8.heap.size, 10, none⟩ = some (.int .i64 0) := BB.out.cell 10
      have d2 : (w8.alloc (.cells #[.int .i64 12, .int .i64 0, .int .i64 y1, .int .i64 y2, .int .i64 0, .int .i64 0, .int .i64 0, .int .i64 0, .int .i64 0, .int .i64 13, .int .i64 0, .int .i64 y3, .int .i64 y4, .int .i64 0, .int .i64 0, .int .i64 0, .int .i64 y5, .int .i64 0, .int .i64 15, .int .i64 0, .int .i64 0, .int .i64 y6, .int .i64 0, .int .i64 0, .int .i64 0, .int .i64 0, .int .i64 0, .int .i64 16, .int .i64 0, .int .i64 0, .int .i64 0, .int .i64 0, .int .i64 0, .int .i64 0, .int .i64 0, .int .i64 0, .int .i64 17, .int .i64 0, .int .i64 y7, .int .i64 0, .int .i64 0, .int .i64 0, .int .i64 0, .int .i64 0, .int .i64 0] 44)).cell? ⟨w8.heap.size, 11, none⟩ = some (.int .i64 y3) := BB.out.cell 11
      have d3 : (w8.alloc (.cells #[.int .i64 12, .int .i64 0, .int .i64 y1, .int .i64 y2, .int .i64 0, .int .i64 0, .int .i64 0, .int .i64 0, .int .i64 0, .int .i64 13, .int .i64 0, .int .i64 y3, .int .i64 y4, .int .i64 0, .int .i64 0, .int .i64 0, .int .i64 y5, .int .i64 0, .int .i64 15, .int .i64 0, .int .i64 0, .int .i64 y6, .int .i64 0, .int .i64 0, .int .i64 0, .int .i64 0, .int .i64 0, .int .i64 16, .int .i64 0, .int .i64 0, .int .i64 0, .int .i64 0, .int .i64 0, .int .i64 0, .int .i64 0, .int .i64 0, .int .i64 17, .int .i64 0, .int .i64 y7, .int .i64 0, .int .i64 0, .int .i64 0, .int .i64 0, .int .i64 0, .int .i64 0] 44)).cell? ⟨w8.heap.size, 12, none⟩ = some (.int .i64 y4) := BB.out.cell 12
      have d4 : (w8.alloc (.cells #[.int .i64 12, .int .i64 0, .int .i64 y1, .int .i64 y2, .int .i64 0, .int .i64 0, .int .i64 0, .int .i64 0, .int .i64 0, .int .i64 13, .int .i64 0, .int .i64 y3, .int .i64 y4, .int .i64 0, .int .i64 0, .int .i64 0, .int .i64 y5, .int .i64 0, .int .i64 15, .int .i64 0, .int .i64 0, .int .i64 y6, .int .i64 0, .int .i64 0, .int .i64 0, .int .i64 0, .int .i64 0, .int .i64 16, .int .i64 0, .int .i64 0, .int .i64 0, .int .i64 0, .int .i64 0, .int .i64 0, .int .i64 0, .int .i64 0, .int .i64 17, .int .i64 0, .int .i64 y7, .int .i64 0, .int .i64 0, .int .i64 0, .int .i64 0, .int .i64 0, .int .i64 0] 44)).cell? ⟨w8.heap.size, 13, none⟩ = some (.int .i64 0) := BB.out.cell 13
      have d5 : (w8.alloc (.cells #[.int .i64 12, .int .i64 0, .int .i64 y1, .int .i64 y2, .int .i64 0, .int .i64 0, .int .i64 0, .int .i64 0, .int .i64 0, .int .i64 13, .int .i64 0, .int .i64 y3, .int .i64 y4, .int .i64 0, .int .i64 0, .int .i64 0, .int .i64 y5, .int .i64 0, .int .i64 15, .int .i64 0, .int .i64 0, .int .i64 y6, .int .i64 0, .int .i64 0, .int .i64 0, .int .i64 0, .int .i64 0, .int .i64 16, .int .i64 0, .int .i64 0, .int .i64 0, .int .i64 0, .int .i64 0, .int .i64 0, .int .i64 0, .int .i64 0, .int .i64 17, .int .i64 0, .int .i64 y7, .int .i64 0, .int .i64 0, .int .i64 0, .int .i64 0, .int .i64 0, .int .i64 0] 44)).cell? ⟨w8.heap.size, 14, none⟩ = some (.int .i64 0) := BB.out.cell 14
      have d6 : (w8.alloc (.cells #[.int .i64 12, .int .i64 0, .int .i64 y1, .int .i64 y2, .int .i64 0, .int .i64 0, .int .i64 0, .int .i64 0, .int .i64 0, .int .i64 13, .int .i64 0, .int .i64 y3, .int .i64 y4, .int .i64 0, .int .i64 0, .int .i64 0, .int .i64 y5, .int .i64 0, .int .i64 15, .int .i64 0, .int .i64 0, .int .i64 y6, .int .i64 0, .int .i64 0, .int .i64 0, .int .i64 0, .int .i64 0, .int .i64 16, .int .i64 0, .int .i64 0, .int .i64 0, .int .i64 0, .int .i64 0, .int .i64 0, .int .i64 0, .int .i64 0, .int .i64 17, .int .i64 0, .int .i64 y7, .int .i64 0, .int .i64 0, .int .i64 0, .int .i64 0, .int .i64 0, .int .i64 0] 44)).cell? ⟨w8.heap.size, 15, none⟩ = some (.int .i64 0) := BB.out.cell 15
      have d7 : (w8.alloc (.cells #[.int .i64 12, .int .i64 0, .int .i64 y1, .int .i64 y2, .int .i64 0, .int .i64 0, .int .i64 0, .int .i64 0, .int .i64 0, .int .i64 13, .int .i64 0, .int .i64 y3, .int .i64 y4, .int .i64 0, .int .i64 0, .int .i64 0, .int .i64 y5, .int .i64 0, .int .i64 15, .int .i64 0, .int .i64 0, .int .i64 y6, .int .i64 0, .int .i64 0, .int .i64 0, .int .i64 0, .int .i64 0, .int .i64 16, .int .i64 0, .int .i64 0, .int .i64 0, .int .i64 0, .int .i64 0, .int .i64 0, .int .i64 0, .int .i64 0, .int .i64 17, .int .i64 0, .int .i64 y7, .int .i64 0, .int .i64 0, .int .i64 0, .int .i64 0, .int .i64 0, .int .i64 0] 44)).cell? ⟨w8.heap.size, 16, none⟩ = some (.int .i64 y5) := BB.out.cell 16
      have d8 : (w8.alloc (.cells #[.int .i64 12, .int .i64 0, .int .i64 y1, .int .i64 y2, .int .i64 0, .int .i64 0, .int .i64 0, .int .i64 0, .int .i64 0, .int .i64 13, .int .i64 0, .int .i64 y3, .int .i64 y4, .int .i64 0, .int .i64 0, .int .i64 0, .int .i64 y5, .int .i64 0, .int .i64 15, .int .i64 0, .int .i64 0, .int .i64 y6, .int .i64 0, .int .i64 0, .int .i64 0, .int .i64 0, .int .i64 0, .int .i64 16, .int .i64 0, .int .i64 0, .int .i64 0, .int .i64 0, .int .i64 0, .int .i64 0, .int .i64 0, .int .i64 0, .int .i64 17, .int .i64 0, .int .i64 y7, .int .i64 0, .int .i64 0, .int .i64 0, .int .i64 0, .int .i64 0, .int .i64 0] 44)).cell? ⟨w8.heap.size, 17, none⟩ = some (.int .i64 0) := BB.out.cell 17
      go_simp
      clear d0 d1 d2 d3 d4 d5 d6 d7 d8
      refine hK _ _ HBb.out.cs ?_
      clear hK K
      refine HW.only 48 rfl (by kernel_rfl) (by kernel_rfl) (fun K hK => Or.inl ?_)
      go_simp
      refine (add_any _ HBb.out hl ⟨13, 0, y3, y4, 0, 0, 0, y5, 0⟩).mono ?_
      rintro e w9 ⟨rfl, v9, hc9, k9⟩
      dsimp only
      refine hK _ _ hc9.cs ?_
      clear hK K
      refine HW.done (by kernel_rfl) (NoPanic.normal ?_)
      exact HQ.out w9 _ _ _ _ _ _ _ _ _ _ _ _ _ _ _ _ _ _ _ _ _ _ _ _ _ _ _ _ _ _ _ _ _ _ _ _ _ _ _ _ _ _ _ _ _ _ _ _ _ _ a8 v9 hc9 (plain_get ⟨i3, j3⟩ ⟨i4, j4⟩ ⟨i5, j5⟩ hm.2) (by omega) (by omega) ((KBb.out.mono (fun i hi e => Or.inl e)).trans k9 (fun i hi e => Or.inr e))
    · refine hK _ _ HC8.out.cs ?_
      clear hK K
      refine HW.only 40 rfl (by kernel_rfl) (by kernel_rfl) (fun K hK => Or.inl ?_)
      go_simp
      have HBb := Lib.hid (HC8.out.alloc (.cells #[.int .i64 12, .int .i64 0, .int .i64 y1, .int .i64 y2, .int .i64 0, .int .i64 0, .int .i64 0, .int .i64 0, .int .i64 0, .int .i64 13, .int .i64 0, .int .i64 y3, .int .i64 y4, .int .i64 0, .int .i64 0, .int .i64 0, .int .i64 y5, .int .i64 0, .int .i64 15, .int .i64 0, .int .i64 0, .int .i64 y6, .int .i64 0, .int .i64 0, .int .i64 0, .int .i64 0, .int .i64 0, .int .i64 16, .int .i64 0, .int .i64 0, .int .i64 0, .int .i64 0, .int .i64 0, .int .i64 0, .int .i64 0, .int .i64 0, .int .i64 17, .int .i64 0, .int .i64 y7, .int .i64 0, .int .i64 0, .int .i64 0, .int .i64 0, .int .i64 0, .int .i64 0] 44))
      have KBb := Lib.hid (KP8.out.alloc (.cells #[.int .i64 12, .int .i64 0, .int .i64 y1, .int .i64 y2, .int .i64 0, .int .i64 0, .int .i64 0, .int .i64 0, .int .i64 0, .int .i64 13, .int .i64 0, .int .i64 y3, .int .i64 y4, .int .i64 0, .int .i64 0, .int .i64 0, .int .i64 y5, .int .i64 0, .int .i64 15, .int .i64 0, .int .i64 0, .int .i64 y6, .int .i64 0, .int .i64 0, .int .i64 0, .int .i64 0, .int .i64 0, .int .i64 16, .int .i64 0, .int .i64 0, .int .i64 0, .int .i64 0, .int .i64 0, .int .i64 0, .int .i64 0, .int .i64 0, .int .i64 17, .int .i64 0, .int .i64 y7, .int .i64 0, .int .i64 0, .int .i64 0, .int .i64 0, .int .i64 0, .int .i64 0] 44))
      have BB := Lib.hid (Blk.new w8 44 #[.int .i64 12, .int .i64 0, .int .i64 y1, .int .i64 y2, .int .i64 0, .int .i64 0, .int .i64 0, .int .i64 0, .int .i64 0, .int .i64 13, .int .i64 0, .int .i64 y3, .int .i64 y4, .int .i64 0, .int .i64 0, .int .i64 0, .int .i64 y5, .int .i64 0, .int .i64 15, .int .i64 0, .int .i64 0, .int .i64 y6, .int .i64 0, .int .i64 0, .int .i64 0, .int .i64 0, .int .i64 0, .int .i64 16, .int .i64 0, .int .i64 0, .int .i64 0, .int .i64 0, .int .i64 0, .int .i64 0, .int .i64 0, .int .i64 0, .int .i64 17, .int .i64 0, .int .i64 y7, .int .i64 0, .int .i64 0, .int .i64 0, .int .i64 0, .int .i64 0, .int .i64 0])
      have zbb : B ≤ w8.heap.size := by have h1 := HC8.out.blk.lt; omega
      refine hK _ _ HBb.out.cs ?_
      clear hK K
      refine HW.take 46 (v := ?_) rfl (by kernel_rfl) (by kernel_rfl) (by kernel_rfl) (fun _ _ _ h => h) (by kernel_rfl) ?_ ?_; rotate_left 1; (focus (intro W hW; (try dsimp only at hW); go_split_ands; first | (go_simp; done) | (go_simp; with_reducible rfl))); simp only [Act.put, List.setIfInBounds_toArray, List.set_cons_zero, List.set_cons_succ]
      refine HW.only 47 rfl (by kernel_rfl) (by kernel_rfl) (fun K hK => Or.inl ?_)
      have d0 : (w8.alloc (.cells #[.int .i64 12, .int .i64 0, .int .i64 y1, .int .i64 y2, .int .i64 0, .int .i64 0, .int .i64 0, .int .i64 0, .int .i64 0, .int .i64 13, .int .i64 0, .int .i64 y3, .int .i64 y4, .int .i64 0, .int .i64 0, .int .i64 0, .int .i64 y5, .int .i64 0, .int .i64 15, .int .i64 0, .int .i64 0, .int .i64 y6, .int .i64 0, .int .i64 0, .int .i64 0, .int .i64 0, .int .i64 0, .int .i64 16, .int .i64 0, .int .i64 0, .int .i64 0, .int .i64 0, .int .i64 0, .int .i64 0, .int .i64 0, .int .i64 0, .int .i64 17, .int .i64 0, .int .i64 y7, .int .i64 0, .int .i64 0, .int .i64 0, .int .i64 0, .int .i64 0, .int .i64 0] 44)).cell? ⟨w8.heap.size, 18, none⟩ = some (.int .i64 15) := BB.out.cell 18
      have d1 : (w8.alloc (.cells #[.int .i64 12, .int .i64 0, .int .i64 y1, .int .i64 y2, .int .i64 0, .int .i64 0, .int .i64 0, .int .i64 0, .int .i64 0, .int .i64 13, .int .i64 0, .int .i64 y3, .int .i64 y4, .int .i64 0, .int .i64 0, .int .i64 0, .int .i64 y5, .int .i64 0, .int .i64 15, .int .i64 0, .int .i64 0, .int .i64 y6, .int .i64 0, .int .i64 0, .int .i64 0, .int .i64 0, .int .i64 0, .int .i64 16, .int .i64 0, .int .i64 0, .int .i64 0, .int .i64 0, .int .i64 0, .int .i64 0, .int .i64 0, .int .i64 0, .int .i64 17, .int .i64 0, .int .i64 y7, .int .i64 0, .int .i64 0, .int .i64 0, .int .i64 0, .int .i64 0, .int .i64 0] 44)).cell? ⟨w8.heap.size, 19, none⟩ = some (.int .i64 0) := BB.out.cell 19
      have d2 : (w8.alloc (.cells #[.int .i64 12, .int .i64 0, .int .i64 y1, .int .i64 y2, .int .i64 0, .int .i64 0, .int .i64 0, .int .i64 0, .int .i64 0, .int .i64 13, .int .i64 0, .int .i64 y3, .int .i64 y4, .int .i64 0, .int .i64 0, .int .i64 0, .int .i64 y5, .int .i64 0, .int .i64 15, .int .i64 0, .int .i64 0, .int .i64 y6, .int .i64 0, .int .i64 0, .int .i64 0, .int .i64 0, .int .i64 0, .int .i64 16, .int .i64 0, .int .i64 0, .int .i64 0, .int .i64 0, .int .i64 0, .int .i64 0, .int .i64 0, .int .i64 0, .int .i64 17, .int .i64 0, .int .i64 y7, .int .i64 0, .int .i64 0, .int .i64 0, .int .i64 0, .int .i64 0, .int .i64 0] 44)).cell? ⟨w8.heap.size, 20, none⟩ = some (.int .i64 0) := BB.out.cell 20
      have d3 : (w8.alloc (.cells #[.int .i64 12, .int .i64 0, .int .i64 y1, .int .i64 y2, .int .i64 0, .int .i64 0, .int .i64 0, .int .i64 0, .int .i64 0, .int .i64 13, .int .i64 0, .int .i64 y3, .int .i64 y4, .int .i64 0, .int .i64 0, .int .i64 0, .int .i64 y5, .int .i64 0, .int .i64 15, .int .i64 0, .int .i64 0, .int .i64 y6, .int .i64 0, .int .i64 0, .int .i64 0, .int .i64 0, .int .i64 0, .int .i64 16, .int .i64 0, .int .i64 0, .int .i64 0, .int .i64 0, .int .i64 0, .int .i64 0, .int .i64 0, .int .i64 0, .int .i64 17, .int .i64 0, .int .i64 y7, .int .i64 0, .int .i64 0, .int .i64 0, .int .i64 0, .int .i64 0, .int .i64 0] 44)).cell? ⟨w8.heap.size, 21, none⟩ = some (.int .i64 y6) := BB.out.cell 21
      have d4 : (w8.alloc (.cells #[.int .i64 12, .int .i64 0, .int .i64 y1, .int .i64 y2, .int .i64 0, .int .i64 0, .int .i64 0, .int .i64 0, .int .i64 0, .int .i64 13, .int .i64 0, .int .i64 y3, .int .i64 y4, .int .i64 0, .int .i64 0, .int .i64 0, .int .i64 y5, .int .i64 0, .int .i64 15, .int .i64 0, .int .i64 0, .int .i64 y6, .int .i64 0, .int .i64 0, .int .i64 0, .int .i64 0, .int .i64 0, .int .i64 16, .int .i64 0, .int .i64 0, .int .i64 0, .int .i64 0, .int .i64 0, .int .i64 0, .int .i64 0, .int .i64 0, .int .i64 17, .int .i64 0, .int .i64 y7, .int .i64 0, .int .i64 0, .int .i64 0, .int .i64 0, .int .i64 0, .int .i64 0] 44)).cell? ⟨w8.heap.size, 22, none⟩ = some (.int .i64 0) := BB.out.cell 22
      have d5 : (w8.alloc (.cells #[.int .i64 12, .int .i64 0, .int .i64 y1, .int .i64 y2, .int .i64 0, .int .i64 0, .int .i64 0, .int .i64 0, .int .i64 0, .int .i64 13, .int .i64 0, .int .i64 y3, .int .i64 y4, .int .i64 0, .int .i64 0, .int .i64 0, .int .i64 y5, .int .i64 0, .int .i64 15, .int .i64 0, .int .i64 0, .int .i64 y6, .int .i64 0, .int .i64 0, .int .i64 0, .int .i64 0, .int .i64 0, .int .i64 16, .int .i64 0, .int .i64 0, .int .i64 0, .int .i64 0, .int .i64 0, .int .i64 0, .int .i64 0, .int .i64 0, .int .i64 17, .int .i64 0, .int .i64 y7, .int .i64 0, .int .i64 0, .int .i64 0, .int .i64 0, .int .i64 0, .int .i64 0] 44)).cell? ⟨w8.heap.size, 23, none⟩ = some (.int .i64 0) := BB.out.cell 23
      have d6 : (w8.alloc (.cells #[.int .i64 12, .int .i64 0, .int .i64 y1, .int .i64 y2, .int .i64 0, .int .i64 0, .int .i64 0, .int .i64 0, .int .i64 0, .int .i64 13, .int .i64 0, .int .i64 y3, .int .i64 y4, .int .i64 0, .int .i64 0, .int .i64 0, .int .i64 y5, .int .i64 0, .int .i64 15, .int .i64 0, .int .i64 0, .int .i64 y6, .int .i64 0, .int .i64 0, .int .i64 0, .int .i64 0, .int .i64 0, .int .i64 16, .int .i64 0, .int .i64 0, .int .i64 0, .int .i64 0, .int .i64 0, .int .i64 0, .int .i64 0, .int .i64 0, .int .i64 17, .int .i64 0, .int .i64 y7, .int .i64 0, .int .i64 0, .int .i64 0, .int .i64 0, .int .i64 0, .int .i64 0] 44)).cell? ⟨w8.heap.size, 24, none⟩ = some (.int .i64 0) := BB.out.cell 24
      have d7 : (w8.alloc (.cells #[.int .i64 12, .int .i64 0, .int .i64 y1, .int .i64 y2, .int .i64 0, .int .i64 0, .int .i64 0, .int .i64 0, .int .i64 0, .int .i64 13, .int .i64 0, .int .i64 y3, .int .i64 y4, .int .i64 0, .int .i64 0, .int .i64 0, .int .i64 y5, .int .i64 0, .int .i64 15, .int .i64 0, .int .i64 0, .int .i64 y6, .int .i64 0, .int .i64 0, .int .i64 0, .int .i64 0, .int .i64 0, .int .i64 16, .int .i64 0, .int .i64 0, .int .i64 0, .int .i64 0, .int .i64 0, .int .i64 0, .int .i64 0, .int .i64 0, .int .i64 17, .int .i64 0, .int .i64 y7, .int .i64 0, .int .i64 0, .int .i64 0, .int .i64 0, .int .i64 0, .int .i64 0] 44)).cell? ⟨w8.heap.size, 25, none⟩ = some (.int .i64 0) := BB.out.cell 25
      have d8 : (w8.alloc (.cells #[.int .i64 12, .int .i64 0, .int .i64 y1, .int .i64 y2, .int .i64 0, .int .i64 0, .int .i64 0, .int .i64 0, .int .i64 0, .int .i64 13, .int .i64 0, .int .i64 y3, .int .i64 y4, .int .i64 0, .int .i64 0, .int .i64 0, .int .i64 y5, .int .i64 0, .int .i64 15, .int .i64 0, .int .i64 0, .int .i64 y6, .int .i64 0, .int .i64 0, .int .i64 0, .int .i64 0, .int .i64 0, .int .i64 16, .int .i64 0, .int .i64 0, .int .i64 0, .int .i64 0, .int .i64 0, .int .i64 0, .int .i64 0, .int .i64 0, .int .i64 17, .int .i64 0, .int .i64 y7, .int .i64 0, .int .i64 0, .int .i64 0, .int .i64 0, .int .i64 0, .int .i64 0] 44)).cell? ⟨w8.heap.size, 26, none⟩ = some (.int .i64 0) := BB.out.cell 26
      go_simp
      clear d0 d1 d2 d3 d4 d5 d6 d7 d8
      refine hK _ _ HBb.out.cs ?_
      clear hK K
      refine HW.only 48 rfl (by kernel_rfl) (by kernel_rfl) (fun K hK => Or.inl ?_)
      go_simp
      refine (add_any _ HBb.out hl ⟨15, 0, 0, y6, 0, 0, 0, 0, 0⟩).mono ?_
      rintro e w9 ⟨rfl, v9, hc9, k9⟩
      dsimp only
      refine hK _ _ hc9.cs ?_
      clear hK K
      refine HW.done (by kernel_rfl) (NoPanic.normal ?_)
      exact HQ.out w9 _ _ _ _ _ _ _ _ _ _ _ _ _ _ _ _ _ _ _ _ _ _ _ _ _ _ _ _ _ _ _ _ _ _ _ _ _ _ _ _ _ _ _ _ _ _ _ _ _ _ a8 v9 hc9 (plain_mac ⟨i6, j6⟩) (by omega) (by omega) ((KBb.out.mono (fun i hi e => Or.inl e)).trans k9 (fun i hi e => Or.inr e))
    · refine hK _ _ HC8.out.cs ?_
      clear hK K
      refine HW.only 40 rfl (by kernel_rfl) (by kernel_rfl) (fun K hK => Or.inl ?_)
      go_simp
      have HBb := Lib.hid (HC8.out.alloc (.cells #[.int .i64 12, .int .i64 0, .int .i64 y1, .int .i64 y2, .int .i64 0, .int .i64 0, .int .i64 0, .int .i64 0, .int .i64 0, .int .i64 13, .int .i64 0, .int .i64 y3, .int .i64 y4, .int .i64 0, .int .i64 0, .int .i64 0, .int .i64 y5, .int .i64 0, .int .i64 15, .int .i64 0, .int .i64 0, .int .i64 y6, .int .i64 0, .int .i64 0, .int .i64 0, .int .i64 0, .int .i64 0, .int .i64 16, .int .i64 0, .int .i64 0, .int .i64 0, .int .i64 0, .int .i64 0, .int .i64 0, .int .i64 0, .int .i64 0, .int .i64 17, .int .i64 0, .int .i64 y7, .int .i64 0, .int .i64 0, .int .i64 0, .int .i64 0, .int .i64 0, .int .i64 0] 44))
      have KBb := Lib.hid (KP8.out.alloc (.cells #[.int .i64 12, .int .i64 0, .int .i64 y1, .int .i64 y2, .int .i64 0, .int .i64 0, .int .i64 0, .int .i64 0, .int .i64 0, .int .i64 13, .int .i64 0, .int .i64 y3, .int .i64 y4, .int .i64 0, .int .i64 0, .int .i64 0, .int .i64 y5, .int .i64 0, .int .i64 15, .int .i64 0, .int .i64 0, .int .i64 y6, .int .i64 0, .int .i64 0, .int .i64 0, .int .i64 0, .int .i64 0, .int .i64 16, .int .i64 0, .int .i64 0, .int .i64 0, .int .i64 0, .int .i64 0, .int .i64 0, .int .i64 0, .int .i64 0, .int .i64 17, .int .i64 0, .int .i64 y7, .int .i64 0, .int .i64 0, .int .i64 0, .int .i64 0, .int .i64 0, .int .i64 0] 44))
      have BB := Lib.hid (Blk.new w8 44 #[.int .i64 12, .int .i64 0, .int .i64 y1, .int .i64 y2, .int .i64 0, .int .i64 0, .int .i64 0, .int .i64 0, .int .i64 0, .int .i64 13, .int .i64 0, .int .i64 y3, .int .i64 y4, .int .i64 0, .int .i64 0, .int .i64 0, .int .i64 y5, .int .i64 0, .int .i64 15, .int .i64 0, .int .i64 0, .int .i64 y6, .int .i64 0, .int .i64 0, .int .i64 0, .int .i64 0, .int .i64 0, .int .i64 16, .int .i64 0, .int .i64 0, .int .i64 0, .int .i64 0, .int .i64 0, .int .i64 0, .int .i64 0, .int .i64 0, .int .i64 17, .int .i64 0, .int .i64 y7, .int .i64 0, .int .i64 0, .int .i64 0, .int .i64 0, .int .i64 0, .int .i64 0])
      have zbb : B ≤ w8.heap.size := by have h1 := HC8.out.blk.lt; omega
      refine hK _ _ HBb.out.cs ?_
      clear hK K
      refine HW.take 46 (v := ?_) rfl (by kernel_rfl) (by kernel_rfl) (by kernel_rfl) (fun _ _ _ h => h) (by kernel_rfl) ?_ ?_; rotate_left 1; (focus (intro W hW; (try dsimp only at hW); go_split_ands; first | (go_simp; done) | (go_simp; with_reducible rfl))); simp only [Act.put, List.setIfInBounds_toArray, List.set_cons_zero, List.set_cons_succ]
      refine HW.only 47 rfl (by kernel_rfl) (by kernel_rfl) (fun K hK => Or.inl ?_)
      have d0 : (w8.alloc (.cells #[.int .i64 12, .int .i64 0, .int .i64 y1, .int .i64 y2, .int .i64 0, .int .i64 0, .int .i64 0, .int .i64 0, .int .i64 0, .int .i64 13, .int .i64 0, .int .i64 y3, .int .i64 y4, .int .i64 0, .int .i64 0, .int .i64 0, .int .i64 y5, .int .i64 0, .int .i64 15, .int .i64 0, .int .i64 0, .int .i64 y6, .int .i64 0, .int .i64 0, .int .i64 0, .int .i64 0, .int .i64 0, .int .i64 16, .int .i64 0, .int .i64 0, .int .i64 0, .int .i64 0, .int .i64 0, .int .i64 0, .int .i64 0, .int .i64 0, .int .i64 17, .int .i64 0, .int .i64 y7, .int .i64 0, .int .i64 0, .int .i64 0, .int .i64 0, .int .i64 0, .int .i64 0] 44)).cell? ⟨w8.heap.size, 27, none⟩ = some (.int .i64 16) := BB.out.cell 27
      have d1 : (w8.alloc (.cells #[.int .i64 12, .int .i64 0, .int .i64 y1, .int .i64 y2, .int .i64 0, .int .i64 0, .int .i64 0, .int .i64 0, .int .i64 0, .int .i64 13, .int .i64 0, .int .i64 y3, .int .i64 y4, .int .i64 0, .int .i64 0, .int .i64 0, .int .i64 y5, .int .i64 0, .int .i64 15, .int .i64 0, .int .i64 0, .int .i64 y6, .int .i64 0, .int .i64 0, .int .i64 0, .int .i64 0, .int .i64 0, .int .i64 16, .int .i64 0, .int .i64 0, .int .i64 0, .int .i64 0, .int .i64 0, .int .i64 0, .int .i64 0, .int .i64 0, .int .i64 17, .int .i64 0, .int .i64 y7, .int .i64 0, .int .i64 0, .int .i64 0, .int .i64 0, .int .i64 0, .int .i64 0] 44)).cell? ⟨w8.heap.size, 28, none⟩ = some (.int .i64 0) := BB.out.cell 28
      have d2 : (w8.alloc (.cells #[.int .i64 12, .int .i64 0, .int .i64 y1, .int .i64 y2, .int .i64 0, .int .i64 0, .int .i64 0, .int .i64 0, .int .i64 0, .int .i64 13, .int .i64 0, .int .i64 y3, .int .i64 y4, .int .i64 0, .int .i64 0, .int .i64 0, .int .i64 y5, .int .i64 0, .int .i64 15, .int .i64 0, .int .i64 0, .int .i64 y6, .int .i64 0, .int .i64 0, .int .i64 0, .int .i64 0, .int .i64 0, .int .i64 16, .int .i64 0, .int .i64 0, .int .i64 0, .int .i64 0, .int .i64 0, .int .i64 0, .int .i64 0, .int .i64 0, .int .i64 17, .int .i64 0, .int .i64 y7, .int .i64 0, .int .i64 0, .int .i64 0, .int .i64 0, .int .i64 0, .int .i64 0] 44)).cell? ⟨w8.heap.size, 29, none⟩ = some (.int .i64 0) := BB.out.cell 29
      have d3 : (w8.alloc (.cells #[.int .i64 12, .int .i64 0, .int .i64 y1, .int .i64 y2, .int .i64 0, .int .i64 0, .int .i64 0, .int .i64 0, .int .i64 0, .int .i64 13, .int .i64 0, .int .i64 y3, .int .i64 y4, .int .i64 0, .int .i64 0, .int .i64 0, .int .i64 y5, .int .i64 0, .int .i64 15, .int .i64 0, .int .i64 0, .int .i64 y6, .int .i64 0, .int .i64 0, .int .i64 0, .int .i64 0, .int .i64 0, .int .i64 16, .int .i64 0, .int .i64 0, .int .i64 0, .int .i64 0, .int .i64 0, .int .i64 0, .int .i64 0, .int .i64 0, .int .i64 17, .int .i64 0, .int .i64 y7, .int .i64 0, .int .i64 0, .int .i64 0, .int .i64 0, .int .i64 0, .int .i64 0] 44)).cell? ⟨w8.heap.size, 30, none⟩ = some (.int .i64 0) := BB.out.cell 30
      have d4 : (w8.alloc (.cells #[.int .i64 12, .int .i64 0, .int .i64 y1, .int .i64 y2, .int .i64 0, .int .i64 0, .int .i64 0, .int .i64 0, .int .i64 0, .int .i64 13, .int .i64 0, .int .i64 y3, .int .i64 y4, .int .i64 0, .int .i64 0, .int .i64 0, .int .i64 y5, .int .i64 0, .int .i64 15, .int .i64 0, .int .i64 0, .int .i64 y6, .int .i64 0, .int .i64 0, .int .i64 0, .int .i64 0, .int .i64 0, .int .i64 16, .int .i64 0, .int .i64 0, .int .i64 0, .int .i64 0, .int .i64 0, .int .i64 0, .int .i64 0, .int .i64 0, .int .i64 17, .int .i64 0, .int .i64 y7, .int .i64 0, .int .i64 0, .int .i64 0, .int .i64 0, .int .i64 0, .int .i64 0] 44)).cell? ⟨w8.heap.size, 31, none⟩ = some (.int .i64 0) := BB.out.cell 31
      have d5 : (w8.alloc (.cells #[.int .i64 12, .int .i64 0, .int .i64 y1, .int .i64 y2, .int .i64 0, .int .i64 0, .int .i64 0, .int .i64 0, .int .i64 0, .int .i64 13, .int .i64 0, .int .i64 y3, .int .i64 y4, .int .i64 0, .int .i64 0, .int .i64 0, .int .i64 y5, .int .i64 0, .int .i64 15, .int .i64 0, .int .i64 0, .int .i64 y6, .int .i64 0, .int .i64 0, .int .i64 0, .int .i64 0, .int .i64 0, .int .i64 16, .int .i64 0, .int .i64 0, .int .i64 0, .int .i64 0, .int .i64 0, .int .i64 0, .int .i64 0, .int .i64 0, .int .i64 17, .int .i64 0, .int .i64 y7, .int .i64 0, .int .i64 0, .int .i64 0, .int .i64 0, .int .i64 0, .int .i64 0] 44)).cell? ⟨w8.heap.size, 32, none⟩ = some (.int .i64 0) := BB.out.cell 32
      have d6 : (w8.alloc (.cells #[.int .i64 12, .int .i64 0, .int .i64 y1, .int .i64 y2, .int .i64 0, .int .i64 0, .int .i64 0, .int .i64 0, .int .i64 0, .int .i64 13, .int .i64 0, .int .i64 y3, .int .i64 y4, .int .i64 0, .int .i64 0, .int .i64 0, .int .i64 y5, .int .i64 0, .int .i64 15, .int .i64 0, .int .i64 0, .int .i64 y6, .int .i64 0, .int .i64 0, .int .i64 0, .int .i64 0, .int .i64 0, .int .i64 16, .int .i64 0, .int .i64 0, .int .i64 0, .int .i64 0, .int .i64 0, .int .i64 0, .int .i64 0, .int .i64 0, .int .i64 17, .int .i64 0, .int .i64 y7, .int .i64 0, .int .i64 0, .int .i64 0, .int .i64 0, .int .i64 0, .int .i64 0] 44)).cell? ⟨w8.heap.size, 33, none⟩ = some (.int .i64 0) := BB.out.cell 33
      have d7 : (w8.alloc (.cells #[.int .i64 12, .int .i64 0, .int .i64 y1, .int .i64 y2, .int .i64 0, .int .i64 0, .int .i64 0, .int .i64 0, .int .i64 0, .int .i64 13, .int .i64 0, .int .i64 y3, .int .i64 y4, .int .i64 0, .int .i64 0, .int .i64 0, .int .i64 y5, .int .i64 0, .int .i64 15, .int .i64 0, .int .i64 0, .int .i64 y6, .int .i64 0, .int .i64 0, .int .i64 0, .int .i64 0, .int .i64 0, .int .i64 16, .int .i64 0, .int .i64 0, .int .i64 0, .int .i64 0, .int .i64 0, .int .i64 0, .int .i64 0, .int .i64 0, .int .i64 17, .int .i64 0, .int .i64 y7, .int .i64 0, .int .i64 0, .int .i64 0, .int .i64 0, .int .i64 0, .int .i64 0] 44)).cell? ⟨w8.heap.size, 34, none⟩ = some (.int .i64 0) := BB.out.cell 34
      have d8 : (w8.alloc (.cells #[.int .i64 12, .int .i64 0, .int .i64 y1, .int .i64 y2, .int .i64 0, .int .i64 0, .int .i64 0, .int .i64 0, .int .i64 0, .int .i64 13, .int .i64 0, .int .i64 y3, .int .i64 y4, .int .i64 0, .int .i64 0, .int .i64 0, .int .i64 y5, .int .i64 0, .int .i64 15, .int .i64 0, .int .i64 0, .int .i64 y6, .int .i64 0, .int .i64 0, .int .i64 0, .int .i64 0, .int .i64 0, .int .i64 16, .int .i64 0, .int .i64 0, .int .i64 0, .int .i64 0, .int .i64 0, .int .i64 0, .int .i64 0, .int .i64 0, .int .i64 17, .int .i64 0, .int .i64 y7, .int .i64 0, .int .i64 0, .int .i64 0, .int .i64 0, .int .i64 0, .int .i64 0] 44)).cell? ⟨w8.heap.size, 35, none⟩ = some (.int .i64 0) := BB.out.cell 35
      go_simp
      clear d0 d1 d2 d3 d4 d5 d6 d7 d8
      refine hK _ _ HBb.out.cs ?_
      clear hK K
      refine HW.only 48 rfl (by kernel_rfl) (by kernel_rfl) (fun K hK => Or.inl ?_)
      go_simp
      refine (add_any _ HBb.out hl ⟨16, 0, 0, 0, 0, 0, 0, 0, 0⟩).mono ?_
      rintro e w9 ⟨rfl, v9, hc9, k9⟩
      dsimp only
      refine hK _ _ hc9.cs ?_
      clear hK K
      refine HW.done (by kernel_rfl) (NoPanic.normal ?_)
      exact HQ.out w9 _ _ _ _ _ _ _ _ _ _ _ _ _ _ _ _ _ _ _ _ _ _ _ _ _ _ _ _ _ _ _ _ _ _ _ _ _ _ _ _ _ _ _ _ _ _ _ _ _ _ a8 v9 hc9 (plain_clr) (by omega) (by omega) ((KBb.out.mono (fun i hi e => Or.inl e)).trans k9 (fun i hi e => Or.inr e))
    · refine hK _ _ HC8.out.cs ?_
      clear hK K
      refine HW.only 40 rfl (by kernel_rfl) (by kernel_rfl) (fun K hK => Or.inl ?_)
      go_simp
      have HBb := Lib.hid (HC8.out.alloc (.cells #[.int .i64 12, .int .i64 0, .int .i64 y1, .int .i64 y2, .int .i64 0, .int .i64 0, .int .i64 0, .int .i64 0, .int .i64 0, .int .i64 13, .int .i64 0, .int .i64 y3, .int .i64 y4, .int .i64 0, .int .i64 0, .int .i64 0, .int .i64 y5, .int .i64 0, .int .i64 15, .int .i64 0, .int .i64 0, .int .i64 y6, .int .i64 0, .int .i64 0, .int .i64 0, .int .i64 0, .int .i64 0, .int .i64 16, .int .i64 0, .int .i64 0, .int .i64 0, .int .i64 0, .int .i64 0, .int .i64 0, .int .i64 0, .int .i64 0, .int .i64 17, .int .i64 0, .int .i64 y7, .int .i64 0, .int .i64 0, .int .i64 0, .int .i64 0, .int .i64 0, .int .i64 0] 44))
      have KBb := Lib.hid (KP8.out.alloc (.cells #[.int .i64 12, .int .i64 0, .int .i64 y1, .int .i64 y2, .int .i64 0, .int .i64 0, .int .i64 0, .int .i64 0, .int .i64 0, .int .i64 13, .int .i64 0, .int .i64 y3, .int .i64 y4, .int .i64 0, .int .i64 0, .int .i64 0, .int .i64 y5, .int .i64 0, .int .i64 15, .int .i64 0, .int .i64 0, .int .i64 y6, .int .i64 0, .int .i64 0, .int .i64 0, .int .i64 0, .int .i64 0, .int .i64 16, .int .i64 0, .int .i64 0, .int .i64 0, .int .i64 0, .int .i64 0, .int .i64 0, .int .i64 0, .int .i64 0, .int .i64 17, .int .i64 0, .int .i64 y7, .int .i64 0, .int .i64 0, .int .i64 0, .int .i64 0, .int .i64 0, .int .i64 0] 44))
      have BB := Lib.hid (Blk.new w8 44 #[.int .i64 12, .int .i64 0, .int .i64 y1, .int .i64 y2, .int .i64 0, .int .i64 0, .int .i64 0, .int .i64 0, .int .i64 0, .int .i64 13, .int .i64 0, .int .i64 y3, .int .i64 y4, .int .i64 0, .int .i64 0, .int .i64 0, .int .i64 y5, .int .i64 0, .int .i64 15, .int .i64 0, .int .i64 0, .int .i64 y6, .int .i64 0, .int .i64 0, .int .i64 0, .int .i64 0, .int .i64 0, .int .i64 16, .int .i64 0, .int .i64 0, .int .i64 0, .int .i64 0, .int .i64 0, .int .i64 0, .int .i64 0, .int .i64 0, .int .i64 17, .int .i64 0, .int .i64 y7, .int .i64 0, .int .i64 0, .int .i64 0, .int .i64 0, .int .i64 0, .int .i64 0])
      have zbb : B ≤ w8.heap.size := by have h1 := HC8.out.blk.lt; omega
      refine hK _ _ HBb.out.cs ?_
      clear hK K
      refine HW.take 46 (v := ?_) rfl (by kernel_rfl) (by kernel_rfl) (by kernel_rfl) (fun _ _ _ h => h) (by kernel_rfl) ?_ ?_; rotate_left 1; (focus (intro W hW; (try dsimp only at hW); go_split_ands; first | (go_simp; done) | (go_simp; with_reducible rfl))); simp only [Act.put, List.setIfInBounds_toArray, List.set_cons_zero, List.set_cons_succ]
      refine HW.only 47 rfl (by kernel_rfl) (by kernel_rfl) (fun K hK => Or.inl ?_)
      have d0 : (w8.alloc (.cells #[.int .i64 12, .int .i64 0, .int .i64 y1, .int .i64 y2, .int .i64 0, .int .i64 0, .int .i64 0, .int .i64 0, .int .i64 0, .int .i64 13, .int .i64 0, .int .i64 y3, .int .i64 y4, .int .i64 0, .int .i64 0, .int .i64 0, .int .i64 y5, .int .i64 0, .int .i64 15, .int .i64 0, .int .i64 0, .int .i64 y6, .int .i64 0, .int .i64 0, .int .i64 0, .int .i64 0, .int .i64 0, .int .i64 16, .int .i64 0, .int .i64 0, .int .i64 0, .int .i64 0, .int .i64 0, .int .i64 0, .int .i64 0, .int .i64 0, .int .i64 17, .int .i64 0, .int .i64 y7, .int .i64 0, .int .i64 0, .int .i64 0, .int .i64 0, .int .i64 0, .int .i64 0] 44)).cell? ⟨w8.heap.size, 36, none⟩ = some (.int .i64 17) := BB.out.cell 36
      have d1 : (w8.alloc (.cells #[.int .i64 12, .int .i64 0, .int .i64 y1, .int .i64 y2, .int .i64 0, .int .i64 0, .int .i64 0, .int .i64 0, .int .i64 0, .int .i64 13, .int .i64 0, .int .i64 y3, .int .i64 y4, .int .i64 0, .int .i64 0, .int .i64 0, .int .i64 y5, .int .i64 0, .int .i64 15, .int .i64 0, .int .i64 0, .int .i64 y6, .int .i64 0, .int .i64 0, .int .i64 0, .int .i64 0, .int .i64 0, .int .i64 16, .int .i64 0, .int .i64 0, .int .i64 0, .int .i64 0, .int .i64 0, .int .i64 0, .int .i64 0, .int .i64 0, .int .i64 17, .int .i64 0, .int .i64 y7, .int .i64 0, .int .i64 0, .int .i64 0, .int .i64 0, .int .i64 0, .int .i64 0] 44)).cell? ⟨w8.heap.size, 37, none⟩ = some (.int .i64 0) := BB.out.cell 37
      have d2 : (w8.alloc (.cells #[.int .i64 12, .int .i64 0, .int .i64 y1, .int .i64 y2, .int .i64 0, .int .i64 0, .int .i64 0, .int .i64 0, .int .i64 0, .int .i64 13, .int .i64 0, .int .i64 y3, .int .i64 y4, .int .i64 0, .int .i64 0, .int .i64 0, .int .i64 y5, .int .i64 0, .int .i64 15, .int .i64 0, .int .i64 0, .int .i64 y6, .int .i64 0, .int .i64 0, .int .i64 0, .int .i64 0, .int .i64 0, .int .i64 16, .int .i64 0, .int .i64 0, .int .i64 0, .int .i64 0, .int .i64 0, .int .i64 0, .int .i64 0, .int .i64 0, .int .i64 17, .int .i64 0, .int .i64 y7, .int .i64 0, .int .i64 0, .int .i64 0, .int .i64 0, .int .i64 0, .int .i64 0] 44)).cell? ⟨w8.heap.size, 38, none⟩ = some (.int .i64 y7) := BB.out.cell 38
      have d3 : (w8.alloc (.cells #[.int .i64 12, .int .i64 0, .int .i64 y1, .int .i64 y2, .int .i64 0, .int .i64 0, .int .i64 0, .int .i64 0, .int .i64 0, .int .i64 13, .int .i64 0, .int .i64 y3, .int .i64 y4, .int .i64 0, .int .i64 0, .int .i64 0, .int .i64 y5, .int .i64 0, .int .i64 15, .int .i64 0, .int .i64 0, .int .i64 y6, .int .i64 0, .int .i64 0, .int .i64 0, .int .i64 0, .int .i64 0, .int .i64 16, .int .i64 0, .int .i64 0, .int .i64 0, .int .i64 0, .int .i64 0, .int .i64 0, .int .i64 0, .int .i64 0, .int .i64 17, .int .i64 0, .int .i64 y7, .int .i64 0, .int .i64 0, .int .i64 0, .int .i64 0, .int .i64 0, .int .i64 0] 44)).cell? ⟨w8.heap.size, 39, none⟩ = some (.int .i64 0) := BB.out.cell 39
      have d4 : (w8.alloc (.cells #[.int .i64 12, .int .i64 0, .int .i64 y1, .int .i64 y2, .int .i64 0, .int .i64 0, .int .i64 0, .int .i64 0, .int .i64 0, .int .i64 13, .int .i64 0, .int .i64 y3, .int .i64 y4, .int .i64 0, .int .i64 0, .int .i64 0, .int .i64 y5, .int .i64 0, .int .i64 15, .int .i64 0, .int .i64 0, .int .i64 y6, .int .i64 0, .int .i64 0, .int .i64 0, .int .i64 0, .int .i64 0, .int .i64 16, .int .i64 0, .int .i64 0, .int .i64 0, .int .i64 0, .int .i64 0, .int .i64 0, .int .i64 0, .int .i64 0, .int .i64 17, .int .i64 0, .int .i64 y7, .int .i64 0, .int .i64 0, .int .i64 0, .int .i64 0, .int .i64 0, .int .i64 0] 44)).cell? ⟨w8.heap.size, 40, none⟩ = some (.int .i64 0) := BB.out.cell 40
      have d5 : (w8.alloc (.cells #[.int .i64 12, .int .i64 0, .int .i64 y1, .int .i64 y2, .int .i64 0, .int .i64 0, .int .i64 0, .int .i64 0, .int .i64 0, .int .i64 13, .int .i64 0, .int .i64 y3, .int .i64 y4, .int .i64 0, .int .i64 0, .int .i64 0, .int .i64 y5, .int .i64 0, .int .i64 15, .int .i64 0, .int .i64 0, .int .i64 y6, .int .i64 0, .int .i64 0, .int .i64 0, .int .i64 0, .int .i64 0, .int .i64 16, .int .i64 0, .int .i64 0, .int .i64 0, .int .i64 0, .int .i64 0, .int .i64 0, .int .i64 0, .int .i64 0, .int .i64 17, .int .i64 0, .int .i64 y7, .int .i64 0, .int .i64 0, .int .i64 0, .int .i64 0, .int .i64 0, .int .i64 0] 44)).cell? ⟨w8.heap.size, 41, none⟩ = some (.int .i64 0) := BB.out.cell 41
      have d6 : (w8.alloc (.cells #[.int .i64 12, .int .i64 0, .int .i64 y1, .int .i64 y2, .int .i64 0, .int .i64 0, .int .i64 0, .int .i64 0, .int .i64 0, .int .i64 13, .int .i64 0, .int .i64 y3, .int .i64 y4, .int .i64 0, .int .i64 0, .int .i64 0, .int .i64 y5, .int .i64 0, .int .i64 15, .int .i64 0, .int .i64 0, .int .i64 y6, .int .i64 0, .int .i64 0, .int .i64 0, .int .i64 0, .int .i64 0, .int .i64 16, .int .i64 0, .int .i64 0, .int .i64 0, .int .i64 0, .int .i64 0, .int .i64 0, .int .i64 0, .int .i64 0, .int .i64 17, .int .i64 0, .int .i64 y7, .int .i64 0, .int .i64 0, .int .i64 0, .int .i64 0, .int .i64 0, .int .i64 0] 44)).cell? ⟨w8.heap.size, 42, none⟩ = some (.int .i64 0) := BB.out.cell 42
      have d7 : (w8.alloc (.cells #[.int .i64 12, .int .i64 0, .int .i64 y1, .int .i64 y2, .int .i64 0, .int .i64 0, .int .i64 0, .int .i64 0, .int .i64 0, .int .i64 13, .int .i64 0, .int .i64 y3, .int .i64 y4, .int .i64 0, .int .i64 0, .int .i64 0, .int .i64 y5, .int .i64 0, .int .i64 15, .int .i64 0, .int .i64 0, .int .i64 y6, .int .i64 0, .int .i64 0, .int .i64 0, .int .i64 0, .int .i64 0, .int .i64 16, .int .i64 0, .int .i64 0, .int .i64 0, .int .i64 0, .int .i64 0, .int .i64 0, .int .i64 0, .int .i64 0, .int .i64 17, .int .i64 0, .int .i64 y7, .int .i64 0, .int .i64 0, .int .i64 0, .int .i64 0, .int .i64 0, .int .i64 0] 44)).cell? ⟨w8.heap.size, 43, none⟩ = some (.int .i64 0) := BB.out.cell 43
      have d8 : (w8.alloc (.cells #[.int .i64 12, .int .i64 0, .int .i64 y1, .int .i64 y2, .int .i64 0, .int .i64 0, .int .i64 0, .int .i64 0, .int .i64 0, .int .i64 13, .int .i64 0, .int .i64 y3, .int .i64 y4, .int .i64 0, .int .i64 0, .int .i64 0, .int .i64 y5, .int .i64 0, .int .i64 15, .int .i64 0, .int .i64 0, .int .i64 y6, .int .i64 0, .int .i64 0, .int .i64 0, .int .i64 0, .int .i64 0, .int .i64 16, .int .i64 0, .int .i64 0, .int .i64 0, .int .i64 0, .int .i64 0, .int .i64 0, .int .i64 0, .int .i64 0, .int .i64 17, .int .i64 0, .int .i64 y7, .int .i64 0, .int .i64 0, .int .i64 0, .int .i64 0, .int .i64 0, .int .i64 0] 44)).cell? ⟨w8.heap.size, 44, none⟩ = some (.int .i64 0) := BB.out.cell 44
      go_simp
      clear d0 d1 d2 d3 d4 d5 d6 d7 d8
      refine hK _ _ HBb.out.cs ?_
      clear hK K
      refine HW.only 48 rfl (by kernel_rfl) (by kernel_rfl) (fun K hK => Or.inl ?_)
      go_simp
      refine (add_any _ HBb.out hl ⟨17, 0, y7, 0, 0, 0, 0, 0, 0⟩).mono ?_
      rintro e w9 ⟨rfl, v9, hc9, k9⟩
      dsimp only
      refine hK _ _ hc9.cs ?_
      clear hK K
      refine HW.done (by kernel_rfl) (NoPanic.normal ?_)
      exact HQ.out w9 _ _ _ _ _ _ _ _ _ _ _ _ _ _ _ _ _ _ _ _ _ _ _ _ _ _ _ _ _ _ _ _ _ _ _ _ _ _ _ _ _ _ _ _ _ _ _ _ _ _ a8 v9 hc9 (plain_acc ⟨i7, j7⟩) (by omega) (by omega) ((KBb.out.mono (fun i hi e => Or.inl e)).trans k9 (fun i hi e => Or.inr e))
noncomputable def oneR22 : Code := (Tryz.f18.body.bind (findRg 22)).getD .skip
set_option maxRecDepth 100000 in
set_option maxHeartbeats 8000000 in
theorem oneR22_ok (W : World) {B p q : Nat} {A : Option Addr} {n c : Nat} {l : List Int} {a : Int} {m : Mach} {st : Int} {v : Value} {xs : List Ins} (h : Cod W B p q A n c l a m st v xs) (ha : a ≤ 100000000) (hl : xs.length ≤ 1000000) {g k cap N : Nat} {xs0 ys : List Ins} {x : Ins} (hv : v = .slice (some ⟨g, 0, none⟩) k cap) (hx : xs = xs0 ++ x :: ys) (hN : xs0.length = N) (hNk : N < k) {s1 s2 s3 s5 s6 s7 s8 s9 s10 s11 s12 s13 s14 s15 s16 s17 s18 s19 s20 s21 s22 s23 s24 s25 s26 s27 s28 s29 s30 s31 s32 s33 s34 s35 s36 s37 s38 s39 s40 s41 s42 s43 s44 s45 s46 s47 s48 s49 s50 s51 s52 s53 s54 s55 s56 s57 s58 s59 s60 s61 s62 s63 s64 s65 s66 s67 s68 s69 s70 s71 s72 s73 s74 s75 s76 s77 s78 s79 s80 s81 s82 s83 s84 s85 s86 s87 s88 s89 s90 s91 s92 s93 s94 s95 s96 s97 s98 s99 s100 s101 s102 s103 s104 s105 s106 s107 s108 s109 s110 s111 s112 s113 s114 s115 s116 s117 s118 s119 s120 s121 s122 s123 s124 s125 s126 s127 s128 s129 s130 s131 s132 s133 s134 s135 s136 s137 s138 s139 s140 s141 s142 s143 s144 s145 s146 s147 s148 s149 s150 s151 s152 s153 s154 s155 s156 s157 s158 s159 s160 s161 s162 s163 s164 s165 s166 s167 s168 s169 s170 s171 s172 s173 s174 s175 s176 s177 s178 s179 s180 s181 s182 s183 s184 s185 s186 s187 s188 s189 s190 s191 s192 s193 s194 s195 s196 s197 s198 s199 s200 s201 s202 s203 s204 s205 s206 : Value} (Q : Exit → Act → World → Prop)
    (hQ : ∀ (w' : World) (y195 y196 y197 y198 y199 y200 y201 y202 y203 y204 y205 y206 : Value) (y1 a' : Int), Cod w' B p q A n c l a' m st v (xs0 ++ { x with p := y1 } :: ys) → (1 ≤ y1 ∧ y1 ≤ 5) → a ≤ a' → a' ≤ a + 1 → Keeps (fun i => i = p ∨ B ≤ i) W w' → Q .normal ⟨#[.pointer (some ⟨q, 0, none⟩), s1, s2, s3, .int .i64 (N : Int), s5, s6, s7, s8, s9, s10, s11, s12, s13, s14, s15, s16, s17, s18, s19, s20, s21, s22, s23, s24, s25, s26, s27, s28, s29, s30, s31, s32, s33, s34, s35, s36, s37, s38, s39, s40, s41, s42, s43, s44, s45, s46, s47, s48, s49, s50, s51, s52, s53, s54, s55, s56, s57, s58, s59, s60, s61, s62, s63, s64, s65, s66, s67, s68, s69, s70, s71, s72, s73, s74, s75, s76, s77, s78, s79, s80, s81, s82, s83, s84, s85, s86, s87, s88, s89, s90, s91, s92, s93, s94, s95, s96, s97, s98, s99, s100, s101, s102, s103, s104, s105, s106, s107, s108, s109, s110, s111, s112, s113, s114, s115, s116, s117, s118, s119, s120, s121, s122, s123, s124, s125, s126, s127, s128, s129, s130, s131, s132, s133, s134, s135, s136, s137, s138, s139, s140, s141, s142, s143, s144, s145, s146, s147, s148, s149, s150, s151, s152, s153, s154, s155, s156, s157, s158, s159, s160, s161, s162, s163, s164, s165, s166, s167, s168, s169, s170, s171, s172, s173, s174, s175, s176, s177, s178, s179, s180, s181, s182, s183, s184, s185, s186, s187, s188, s189, s190, s191, s192, s193, s194, y195, y196, y197, y198, y199, y200, y201, y202, y203, y204, y205, y206], []⟩ w') :
    Code.wp Tryz.prog oneR22 Q ⟨#[.pointer (some ⟨q, 0, none⟩), s1, s2, s3, .int .i64 (N : Int), s5, s6, s7, s8, s9, s10, s11, s12, s13, s14, s15, s16, s17, s18, s19, s20, s21, s22, s23, s24, s25, s26, s27, s28, s29, s30, s31, s32, s33, s34, s35, s36, s37, s38, s39, s40, s41, s42, s43, s44, s45, s46, s47, s48, s49, s50, s51, s52, s53, s54, s55, s56, s57, s58, s59, s60, s61, s62, s63, s64, s65, s66, s67, s68, s69, s70, s71, s72, s73, s74, s75, s76, s77, s78, s79, s80, s81, s82, s83, s84, s85, s86, s87, s88, s89, s90, s91, s92, s93, s94, s95, s96, s97, s98, s99, s100, s101, s102, s103, s104, s105, s106, s107, s108, s109, s110, s111, s112, s113, s114, s115, s116, s117, s118, s119, s120, s121, s122, s123, s124, s125, s126, s127, s128, s129, s130, s131, s132, s133, s134, s135, s136, s137, s138, s139, s140, s141, s142, s143, s144, s145, s146, s147, s148, s149, s150, s151, s152, s153, s154, s155, s156, s157, s158, s159, s160, s161, s162, s163, s164, s165, s166, s167, s168, s169, s170, s171, s172, s173, s174, s175, s176, s177, s178, s179, s180, s181, s182, s183, s184, s185, s186, s187, s188, s189, s190, s191, s192, s193, s194, s195, s196, s197, s198, s199, s200, s201, s202, s203, s204, s205, s206], []⟩ W := by
  conv => arg 2; whnf
  subst hv hx hN
  have hpB := h.pB
  have hqB := h.Bq
  have HC0 := Lib.hid h.drew
  have KP0 := Lib.hid (Keeps.refl (· = p) W).drew
  have HQ := Lib.hid hQ
  have c0 : W.drew.cell? ⟨q, 0, none⟩ = some (.pointer (some ⟨p, 0, none⟩)) ∧ W.drew.cell? ⟨q, 4, none⟩ = some (.int .i64 m.lanes) ∧ W.drew.cell? ⟨q, 5, none⟩ = some (.int .i64 m.queues) ∧ W.drew.cell? ⟨q, 7, none⟩ = some (.int .i64 st) ∧ W.drew.cell? ⟨q, 6, none⟩ = some (.slice (some ⟨g, 0, none⟩) k cap) := h.drew.cs6
  clear h hQ
  refine wp_region_hw (fun w' => w'.cell? ⟨q, 0, none⟩ = some (.pointer (some ⟨p, 0, none⟩)) ∧ w'.cell? ⟨q, 4, none⟩ = some (.int .i64 m.lanes) ∧ w'.cell? ⟨q, 5, none⟩ = some (.int .i64 m.queues) ∧ w'.cell? ⟨q, 7, none⟩ = some (.int .i64 st) ∧ w'.cell? ⟨q, 6, none⟩ = some (.slice (some ⟨g, 0, none⟩) k cap)) 13 (by kernel_rfl) rfl c0 ?_
  clear c0
  refine HW.take 0 (v := ?_) rfl (by kernel_rfl) (by kernel_rfl) (by kernel_rfl) (fun _ _ _ h => h) (by kernel_rfl) ?_ ?_; rotate_left 1; (focus (intro W hW; (try dsimp only at hW); go_split_ands; first | (go_simp; done) | (go_simp; with_reducible rfl))); simp only [Act.put, List.setIfInBounds_toArray, List.set_cons_zero, List.set_cons_succ]
  refine HW.take 1 (v := ?_) rfl (by kernel_rfl) (by kernel_rfl) (by kernel_rfl) (fun _ _ _ h => h) (by kernel_rfl) ?_ ?_; rotate_left 1; (focus (intro W hW; (try dsimp only at hW); go_split_ands; first | (go_simp; done) | (go_simp; with_reducible rfl))); simp only [Act.put, List.setIfInBounds_toArray, List.set_cons_zero, List.set_cons_succ]
  refine HW.take 2 (v := ?_) rfl (by kernel_rfl) (by kernel_rfl) (by kernel_rfl) (fun _ _ _ h => h) (by kernel_rfl) ?_ ?_; rotate_left 1; (focus (intro W hW; (try dsimp only at hW); go_split_ands; first | (go_simp; done) | (go_simp; with_reducible rfl))); simp only [Act.put, List.setIfInBounds_toArray, List.set_cons_zero, List.set_cons_succ]
  refine HW.take 3 (v := ?_) rfl (by kernel_rfl) (by kernel_rfl) (by kernel_rfl) (fun _ _ _ h => h) (by kernel_rfl) ?_ ?_; rotate_left 1; (focus (intro W hW; (try dsimp only at hW); go_split_ands; first | (go_simp; done) | (go_simp; with_reducible rfl))); simp only [Act.put, List.setIfInBounds_toArray, List.set_cons_zero, List.set_cons_succ]
  refine HW.take 4 (v := ?_) rfl (by kernel_rfl) (by kernel_rfl) (by kernel_rfl) (fun _ _ _ h => h) (by kernel_rfl) ?_ ?_; rotate_left 1; (focus (intro W hW; (try dsimp only at hW); go_split_ands; first | (go_simp; done) | (go_simp; with_reducible rfl))); simp only [Act.put, List.setIfInBounds_toArray, List.set_cons_zero, List.set_cons_succ]
  refine HW.take 5 (v := ?_) rfl (by kernel_rfl) (by kernel_rfl) (by kernel_rfl) (fun _ _ _ h => h) (by kernel_rfl) ?_ ?_; rotate_left 1; (focus (intro W hW; (try dsimp only at hW); go_split_ands; first | (go_simp; done) | (go_simp; with_reducible rfl))); simp only [Act.put, List.setIfInBounds_toArray, List.set_cons_zero, List.set_cons_succ]
  refine HW.take 6 (v := ?_) rfl (by kernel_rfl) (by kernel_rfl) (by kernel_rfl) (fun _ _ _ h => h) (by kernel_rfl) ?_ ?_; rotate_left 1; (focus (intro W hW; (try dsimp only at hW); go_split_ands; first | (go_simp; done) | (go_simp; with_reducible rfl))); simp only [Act.put, List.setIfInBounds_toArray, List.set_cons_zero, List.set_cons_succ]
  refine HW.take 7 (v := ?_) rfl (by kernel_rfl) (by kernel_rfl) (by kernel_rfl) (fun _ _ _ h => h) (by kernel_rfl) ?_ ?_; rotate_left 1; (focus (intro W hW; (try dsimp only at hW); go_split_ands; first | (go_simp; done) | (go_simp; with_reducible rfl))); simp only [Act.put, List.setIfInBounds_toArray, List.set_cons_zero, List.set_cons_succ]
  refine HW.take 8 (v := ?_) rfl (by kernel_rfl) (by kernel_rfl) (by kernel_rfl) (fun _ _ _ h => h) (by kernel_rfl) ?_ ?_; rotate_left 1; (focus (intro W hW; (try dsimp only at hW); go_split_ands; first | (go_simp; done) | (go_simp; with_reducible rfl))); simp only [Act.put, List.setIfInBounds_toArray, List.set_cons_zero, List.set_cons_succ]
  refine HW.only 9 rfl (by kernel_rfl) (by kernel_rfl) (fun K hK => Or.inl ?_)
  go_simp
  refine (range_any _ p A n c l a 1 5 HC0.out.str (by omega) (by omega) (by omega) (by omega)).mono ?_
  rintro e w1 ⟨y1, a1, rfl, ⟨i1, j1⟩, g1, h1, hs1, k1⟩
  have HC1 := Lib.hid (HC0.out.moved hs1 k1)
  clear hs1
  have KP1 := Lib.hid (KP0.out.tr k1)
  clear k1
  dsimp only
  refine hK _ _ HC1.out.cs6 ?_
  clear hK K
  refine HW.take 10 (v := ?_) rfl (by kernel_rfl) (by kernel_rfl) (by kernel_rfl) (fun _ _ _ h => h) (by kernel_rfl) ?_ ?_; rotate_left 1; (focus (intro W hW; (try dsimp only at hW); go_split_ands; first | (go_simp; done) | (go_simp; with_reducible rfl))); simp only [Act.put, List.setIfInBounds_toArray, List.set_cons_zero, List.set_cons_succ]
  refine HW.take 11 (v := ?_) rfl (by kernel_rfl) (by kernel_rfl) (by kernel_rfl) (fun _ _ _ h => h) (by kernel_rfl) ?_ ?_; rotate_left 1; (focus (intro W hW; (try dsimp only at hW); go_split_ands; first | (go_simp; done) | (go_simp; with_reducible rfl))); simp only [Act.put, List.setIfInBounds_toArray, List.set_cons_zero, List.set_cons_succ]
  refine HW.only 12 rfl (by kernel_rfl) (by kernel_rfl) (fun K hK => Or.inl ?_)
  have d6 : w1.cell? ⟨g, xs0.length * 9 + 6, none⟩ = some (.int .i64 x.p) := HC1.out.at_ 6 (by omega)
  have f6 := HC1.out.thawed (xs0.length * 9 + 6)
  go_simp
  obtain ⟨p1, p2⟩ := HC1.out.pred y1
  refine hK _ _ p1.cs6 ?_
  clear hK K
  refine HW.done (by kernel_rfl) (NoPanic.normal ?_)
  exact HQ.out _ _ _ _ _ _ _ _ _ _ _ _ _ y1 a1 p1 ⟨i1, j1⟩ (by omega) (by omega) ((KP1.out.mono (fun i hi e => Or.inl e)).trans p2 (fun i hi e => Or.inr e))
end Go.Proofs.YtpcejpcbkjnlkaaGreatDoor

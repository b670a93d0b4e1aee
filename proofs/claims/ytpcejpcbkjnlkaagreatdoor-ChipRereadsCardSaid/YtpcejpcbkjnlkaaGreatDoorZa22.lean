/- coder.op: regions that draw their order. Printed by gen_chip1.py. The coder in drawn regions. Code as the generator makes it; slices.Contains at numbers. Loops and turns of a code, in plain words. The stack of turns, the words of a code: plain laws for the walks of turns, Check, Encode, Decode. -/
import Derived.Test.YtpcejpcbkjnlkaaGreatDoorZa15
import Derived.Test.YtpcejpcbkjnlkaaGreatDoorZa21
import Derived.Deep.RegionHeld3
set_option linter.unusedVariables false
namespace Go.Proofs.YtpcejpcbkjnlkaaGreatDoor
open Go.RowKit

theorem Cod.setFar {W W' : World} {B p q : Nat} {A : Option Addr} {n c : Nat} {l : List Int} {a : Int} {m : Mach} {st : Int} {v : Value} {xs : List Ins} (h : Cod W B p q A n c l a m st v xs) {g : Nat} (hk : Keeps (· = g) W W') (hB : B ≤ g) (hq : q ≠ g) (hv : ∀ b, v.ownBlock = some b → b ≠ g) : Cod W' B p q A n c l a m st v xs := by
  have := h.pB
  refine ⟨h.str.far hk (by omega) (fun ad hn e => by have := h.low ad hn e; omega), h.low, hk.blk h.blk (by omega), ?_, h.pB, h.Bq⟩
  exact ((show Own W (fun b => (B ≤ b ∧ b ≠ q) ∧ b ≠ g) 44 9 v xs.length (insL xs) from ⟨h.own.1, fun b hb => ⟨h.own.2 b hb, hv b hb⟩⟩).keeps hk (fun i hi e => hi.2 e)).more fun _ _ hb => hb.1
noncomputable def opR1 : Code := (Tryz.f34.body.bind (findRg 1)).getD .skip
set_option maxRecDepth 100000 in
set_option maxHeartbeats 4000000 in
theorem op_r1 (W : World) {B p q : Nat} {A : Option Addr} {n c : Nat} {l : List Int} {a : Int} {m : Mach} {st : Int} {v : Value} {xs : List Ins} (h : Cod W B p q A n c l a m st v xs) (ha : a ≤ 100000000) (hBW : B ≤ W.heap.size) (kind regs : Int) (hr1 : 2 ≤ regs) (hr2 : regs ≤ 16) {s3 s4 s5 s6 s7 s8 s9 s10 s11 s12 s13 s14 s15 s16 s17 s18 s19 s20 s21 s22 s23 s24 s25 s26 s27 s28 s29 s30 s31 s32 s33 s34 s35 s36 s37 s38 s39 s40 s41 s42 s43 s44 s45 s46 s47 s48 s49 s50 s51 s52 s53 s54 s55 s56 s57 s58 s59 s60 s61 s62 s63 s64 s65 s66 s67 s68 s69 s70 s71 s72 s73 s74 s75 s76 s77 s78 s79 s80 s81 s82 s83 : Value} (Q : Exit → Act → World → Prop)
    (hQ : ∀ (w' : World) (y8 y9 y10 y11 y12 y13 y14 y15 y16 y17 y18 y19 y20 y21 y22 y23 y24 y25 y26 y27 : Value) (g : Nat) (y1 y2 y3 a' : Int), Cod w' B p q A n c l a' m st v xs → Blk w' g 44 (Ins.cells ⟨kind, y1, y2, y3, 0, 0, 0, 0, 0⟩) → (4 ≤ y1 ∧ y1 ≤ 15) → (1 ≤ y2 ∧ y2 ≤ regs - 1) → (0 ≤ y3 ∧ y3 < regs) → a ≤ a' → a' ≤ a + 3 → W.heap.size ≤ g → Keeps (· = p) W w' → Q .normal ⟨#[.pointer (some ⟨q, 0, none⟩), .int .i64 kind, .int .i64 regs, s3, s4, s5, s6, .pointer (some ⟨g, 0, none⟩), y8, y9, y10, y11, y12, y13, y14, y15, y16, y17, y18, y19, y20, y21, y22, y23, y24, y25, y26, y27, s28, s29, s30, s31, s32, s33, s34, s35, s36, s37, s38, s39, s40, s41, s42, s43, s44, s45, s46, s47, s48, s49, s50, s51, s52, s53, s54, s55, s56, s57, s58, s59, s60, s61, s62, s63, s64, s65, s66, s67, s68, s69, s70, s71, s72, s73, s74, s75, s76, s77, s78, s79, s80, s81, s82, s83], []⟩ w') :
    Code.wp Tryz.prog opR1 Q ⟨#[.pointer (some ⟨q, 0, none⟩), .int .i64 kind, .int .i64 regs, s3, s4, s5, s6, s7, s8, s9, s10, s11, s12, s13, s14, s15, s16, s17, s18, s19, s20, s21, s22, s23, s24, s25, s26, s27, s28, s29, s30, s31, s32, s33, s34, s35, s36, s37, s38, s39, s40, s41, s42, s43, s44, s45, s46, s47, s48, s49, s50, s51, s52, s53, s54, s55, s56, s57, s58, s59, s60, s61, s62, s63, s64, s65, s66, s67, s68, s69, s70, s71, s72, s73, s74, s75, s76, s77, s78, s79, s80, s81, s82, s83], []⟩ W := by
  conv => arg 2; whnf
  have hpB := h.pB
  have hql := h.blk.lt
  have HV := Lib.hid (fun b (e : v.ownBlock = some b) => h.own.lt e)
  have HC0 := Lib.hid h.drew
  have KP0 := Lib.hid (Keeps.refl (· = p) W).drew
  have HQ := Lib.hid hQ
  have c0 : W.drew.cell? ⟨q, 0, none⟩ = some (.pointer (some ⟨p, 0, none⟩)) := h.blk.cell 0
  have hwr : IntKind.i64.wrap (regs - 1) = regs - 1 := IntWalk.i64_in _ ⟨by omega, by omega⟩
  have zW : W.drew.heap.size = W.heap.size := rfl
  clear h hQ
  refine wp_region_last (n := 21) (fun w' => w'.cell? ⟨q, 0, none⟩ = some (.pointer (some ⟨p, 0, none⟩))) _ (by kernel_rfl) (by kernel_rfl) (by simp only [offLast]; exact rfl) c0 ?_
  refine HW.take 0 (v := ?_) rfl (by kernel_rfl) (by kernel_rfl) (by kernel_rfl) (fun _ _ _ h => h) (by kernel_rfl) ?_ ?_; rotate_left 1; (focus (intro W hW; (try dsimp only at hW); go_split_ands; first | (go_simp; done) | (go_simp; with_reducible rfl))); simp only [Act.put, List.setIfInBounds_toArray, List.set_cons_zero, List.set_cons_succ]
  refine HW.take 1 (v := ?_) rfl (by kernel_rfl) (by kernel_rfl) (by kernel_rfl) (fun _ _ _ h => h) (by kernel_rfl) ?_ ?_; rotate_left 1; (focus (intro W hW; (try dsimp only at hW); go_split_ands; first | (go_simp; done) | (go_simp; with_reducible rfl))); simp only [Act.put, List.setIfInBounds_toArray, List.set_cons_zero, List.set_cons_succ]
  refine HW.take 2 (v := ?_) rfl (by kernel_rfl) (by kernel_rfl) (by kernel_rfl) (fun _ _ _ h => h) (by kernel_rfl) ?_ ?_; rotate_left 1; (focus (intro W hW; (try dsimp only at hW); go_split_ands; first | (go_simp; done) | (go_simp; with_reducible rfl))); simp only [Act.put, List.setIfInBounds_toArray, List.set_cons_zero, List.set_cons_succ]
  refine HW.take 3 (v := ?_) rfl (by kernel_rfl) (by kernel_rfl) (by kernel_rfl) (fun _ _ _ h => h) (by kernel_rfl) ?_ ?_; rotate_left 1; (focus (intro W hW; (try dsimp only at hW); go_split_ands; first | (go_simp; done) | (go_simp; with_reducible rfl))); simp only [Act.put, List.setIfInBounds_toArray, List.set_cons_zero, List.set_cons_succ]
  refine HW.take 4 (v := ?_) rfl (by kernel_rfl) (by kernel_rfl) (by kernel_rfl) (fun _ _ _ h => h) (by kernel_rfl) ?_ ?_; rotate_left 1; (focus (intro W hW; (try dsimp only at hW); go_split_ands; first | (go_simp; done) | (go_simp; with_reducible rfl))); simp only [Act.put, List.setIfInBounds_toArray, List.set_cons_zero, List.set_cons_succ]
  refine HW.take 6 (v := ?_) rfl (by kernel_rfl) (by kernel_rfl) (by kernel_rfl) (fun _ _ _ h => h) (by kernel_rfl) ?_ ?_; rotate_left 1; (focus (intro W hW; (try dsimp only at hW); go_split_ands; first | (go_simp; done) | (go_simp; with_reducible rfl))); simp only [Act.put, List.setIfInBounds_toArray, List.set_cons_zero, List.set_cons_succ]
  refine HW.take 7 (v := ?_) rfl (by kernel_rfl) (by kernel_rfl) (by kernel_rfl) (fun _ _ _ h => h) (by kernel_rfl) ?_ ?_; rotate_left 1; (focus (intro W hW; (try dsimp only at hW); go_split_ands; first | (go_simp; done) | (go_simp; with_reducible rfl))); simp only [Act.put, List.setIfInBounds_toArray, List.set_cons_zero, List.set_cons_succ]
  refine HW.take 8 (v := ?_) rfl (by kernel_rfl) (by kernel_rfl) (by kernel_rfl) (fun _ _ _ h => h) (by kernel_rfl) ?_ ?_; rotate_left 1; (focus (intro W hW; (try dsimp only at hW); go_split_ands; first | (go_simp; done) | (go_simp; with_reducible rfl))); simp only [Act.put, List.setIfInBounds_toArray, List.set_cons_zero, List.set_cons_succ]
  refine HW.take 9 (v := ?_) rfl (by kernel_rfl) (by kernel_rfl) (by kernel_rfl) (fun _ _ _ h => h) (by kernel_rfl) ?_ ?_; rotate_left 1; (focus (intro W hW; (try dsimp only at hW); go_split_ands; first | (go_simp; done) | (go_simp; with_reducible rfl))); simp only [Act.put, List.setIfInBounds_toArray, List.set_cons_zero, List.set_cons_succ]
  refine HW.take 10 (v := ?_) rfl (by kernel_rfl) (by kernel_rfl) (by kernel_rfl) (fun _ _ _ h => h) (by kernel_rfl) ?_ ?_; rotate_left 1; (focus (intro W hW; (try dsimp only at hW); go_split_ands; first | (go_simp; done) | (go_simp; with_reducible rfl))); simp only [Act.put, List.setIfInBounds_toArray, List.set_cons_zero, List.set_cons_succ]
  refine HW.take 11 (v := ?_) rfl (by kernel_rfl) (by kernel_rfl) (by kernel_rfl) (fun _ _ _ h => h) (by kernel_rfl) ?_ ?_; rotate_left 1; (focus (intro W hW; (try dsimp only at hW); go_split_ands; first | (go_simp; done) | (go_simp; with_reducible rfl))); simp only [Act.put, List.setIfInBounds_toArray, List.set_cons_zero, List.set_cons_succ]
  refine HW.take 13 (v := ?_) rfl (by kernel_rfl) (by kernel_rfl) (by kernel_rfl) (fun _ _ _ h => h) (by kernel_rfl) ?_ ?_; rotate_left 1; (focus (intro W hW; (try dsimp only at hW); go_split_ands; first | (go_simp; done) | (go_simp; with_reducible rfl))); simp only [Act.put, List.setIfInBounds_toArray, List.set_cons_zero, List.set_cons_succ]
  refine HW.take 14 (v := ?_) rfl (by kernel_rfl) (by kernel_rfl) (by kernel_rfl) (fun _ _ _ h => h) (by kernel_rfl) ?_ ?_; rotate_left 1; (focus (intro W hW; (try dsimp only at hW); go_split_ands; first | (go_simp; done) | (go_simp; with_reducible rfl))); simp only [Act.put, List.setIfInBounds_toArray, List.set_cons_zero, List.set_cons_succ]
  refine HW.take 15 (v := ?_) rfl (by kernel_rfl) (by kernel_rfl) (by kernel_rfl) (fun _ _ _ h => h) (by kernel_rfl) ?_ ?_; rotate_left 1; (focus (intro W hW; (try dsimp only at hW); go_split_ands; first | (go_simp; done) | (go_simp; with_reducible rfl))); simp only [Act.put, List.setIfInBounds_toArray, List.set_cons_zero, List.set_cons_succ]
  refine HW.take 16 (v := ?_) rfl (by kernel_rfl) (by kernel_rfl) (by kernel_rfl) (fun _ _ _ h => h) (by kernel_rfl) ?_ ?_; rotate_left 1; (focus (intro W hW; (try dsimp only at hW); go_split_ands; first | (go_simp; done) | (go_simp; with_reducible rfl))); simp only [Act.put, List.setIfInBounds_toArray, List.set_cons_zero, List.set_cons_succ]
  refine HW.take 17 (v := ?_) rfl (by kernel_rfl) (by kernel_rfl) (by kernel_rfl) (fun _ _ _ h => h) (by kernel_rfl) ?_ ?_; rotate_left 1; (focus (intro W hW; (try dsimp only at hW); go_split_ands; first | (go_simp; done) | (go_simp; with_reducible rfl))); simp only [Act.put, List.setIfInBounds_toArray, List.set_cons_zero, List.set_cons_succ]
  refine HW.two 5 20 rfl rfl (by kernel_rfl) (by kernel_rfl) (by kernel_rfl) (fun K hK => Or.inl ?_) (fun K hK => Or.inl ?_)
  · go_simp
    refine (range_any _ p A n c l a 4 15 HC0.out.str (by omega) (by omega) (by omega) (by omega)).mono ?_
    rintro e w1 ⟨y1, a1, rfl, ⟨i1, j1⟩, g1, h1, hs1, k1⟩
    have HC1 := Lib.hid (HC0.out.moved hs1 k1)
    have KP1 := Lib.hid (KP0.out.tr k1)
    have z1 := k1.size
    (try simp only [World.size_alloc] at z1)
    have S1 : w1.cell? ⟨q, 0, none⟩ = some (.pointer (some ⟨p, 0, none⟩)) := HC1.out.blk.cell 0
    clear hs1 k1
    dsimp only
    refine hK _ _ S1 ?_
    clear hK K
    refine HW.two 12 20 rfl rfl (by kernel_rfl) (by kernel_rfl) (by kernel_rfl) (fun K hK => Or.inl ?_) (fun K hK => Or.inl ?_)
    · go_simp
      refine (range_any _ p A n c l a1 1 _ HC1.out.str (by omega) (by omega) (by omega) (by omega)).mono ?_
      rintro e w2 ⟨y2, a2, rfl, ⟨i2, j2⟩, g2, h2, hs2, k2⟩
      have HC2 := Lib.hid (HC1.out.moved hs2 k2)
      have KP2 := Lib.hid (KP1.out.tr k2)
      have z2 := k2.size
      (try simp only [World.size_alloc] at z2)
      have S2 : w2.cell? ⟨q, 0, none⟩ = some (.pointer (some ⟨p, 0, none⟩)) := HC2.out.blk.cell 0
      clear hs2 k2
      dsimp only
      refine hK _ _ S2 ?_
      clear hK K
      refine HW.two 18 20 rfl rfl (by kernel_rfl) (by kernel_rfl) (by kernel_rfl) (fun K hK => Or.inl ?_) (fun K hK => Or.inl ?_)
      · go_simp
        refine (next_any _ p A n c l a2 _ HC2.out.str (by omega) (by omega)).mono ?_
        rintro e w3 ⟨y3, a3, rfl, ⟨i3, j3, -⟩, g3, h3, hs3, k3⟩
        have j3 := j3 (by omega)
        have HC3 := Lib.hid (HC2.out.moved hs3 k3)
        have KP3 := Lib.hid (KP2.out.tr k3)
        have z3 := k3.size
        (try simp only [World.size_alloc] at z3)
        have S3 : w3.cell? ⟨q, 0, none⟩ = some (.pointer (some ⟨p, 0, none⟩)) := HC3.out.blk.cell 0
        clear hs3 k3
        dsimp only
        refine hK _ _ S3 ?_
        clear hK K
        refine HW.take 19 (v := ?_) rfl (by kernel_rfl) (by kernel_rfl) (by kernel_rfl) (fun _ _ _ h => h) (by kernel_rfl) ?_ ?_; rotate_left 1; (focus (intro W hW; (try dsimp only at hW); go_split_ands; first | (go_simp; done) | (go_simp; with_reducible rfl))); simp only [Act.put, List.setIfInBounds_toArray, List.set_cons_zero, List.set_cons_succ]
        refine HW.only 20 rfl (by kernel_rfl) (by kernel_rfl) (fun K hK => Or.inl ?_)
        go_simp
        have HCa := Lib.hid (HC3.out.alloc (.cells #[.int .i64 0, .int .i64 0, .int .i64 0, .int .i64 0, .int .i64 0, .int .i64 0, .int .i64 0, .int .i64 0, .int .i64 0] 44))
        have KPa := Lib.hid (KP3.out.alloc (.cells #[.int .i64 0, .int .i64 0, .int .i64 0, .int .i64 0, .int .i64 0, .int .i64 0, .int .i64 0, .int .i64 0, .int .i64 0] 44))
        have HBa := Lib.hid (Blk.new w3 44 #[.int .i64 0, .int .i64 0, .int .i64 0, .int .i64 0, .int .i64 0, .int .i64 0, .int .i64 0, .int .i64 0, .int .i64 0])
        have Sa : (w3.alloc (.cells #[.int .i64 0, .int .i64 0, .int .i64 0, .int .i64 0, .int .i64 0, .int .i64 0, .int .i64 0, .int .i64 0, .int .i64 0] 44)).cell? ⟨q, 0, none⟩ = some (.pointer (some ⟨p, 0, none⟩)) := HCa.out.blk.cell 0
        have za := KP3.out.size
        have zb : w3.heap.size < (w3.alloc (.cells #[.int .i64 0, .int .i64 0, .int .i64 0, .int .i64 0, .int .i64 0, .int .i64 0, .int .i64 0, .int .i64 0, .int .i64 0] 44)).heap.size := by simp
        refine hK _ _ Sa ?_
        clear hK K
        refine HW.skip 21 rfl (by kernel_rfl) (by kernel_rfl) (by kernel_rfl) (fun _ _ _ h => h) (by kernel_rfl) ?_
        refine HW.last (by kernel_rfl) rfl (fun K hK => ?_)
        refine step_store_blk (by rfl) 44 _ _ (by rfl) w3.heap.size (Ins.cells ⟨kind, y1, y2, y3, 0, 0, 0, 0, 0⟩) (by rfl) (by rfl) 44 #[.int .i64 0, .int .i64 0, .int .i64 0, .int .i64 0, .int .i64 0, .int .i64 0, .int .i64 0, .int .i64 0, .int .i64 0] HBa.out (by kernel_rfl) (by rfl) (by simp [Ins.cells, Value.oneCell']) ?_
        intro w9 kb9 kk9
        refine hK _ _ ?_
        simp only [Act.put, List.setIfInBounds_toArray]
        refine HQ.out w9 _ _ _ _ _ _ _ _ _ _ _ _ _ _ _ _ _ _ _ _ w3.heap.size y1 y2 y3 a3 (HCa.out.setFar kk9 (by omega) (by omega) (fun b hb => by have := HV.out b hb; omega)) kb9 ⟨i1, j1⟩ ⟨i2, j2⟩ ⟨i3, j3⟩ (by omega) (by omega) (by omega) (KPa.out.trans kk9 (fun i hi e => by have e : i = w3.heap.size := e; omega))
      · go_simp
        have HCa := Lib.hid (HC2.out.alloc (.cells #[.int .i64 0, .int .i64 0, .int .i64 0, .int .i64 0, .int .i64 0, .int .i64 0, .int .i64 0, .int .i64 0, .int .i64 0] 44))
        have KPa := Lib.hid (KP2.out.alloc (.cells #[.int .i64 0, .int .i64 0, .int .i64 0, .int .i64 0, .int .i64 0, .int .i64 0, .int .i64 0, .int .i64 0, .int .i64 0] 44))
        have HBa := Lib.hid (Blk.new w2 44 #[.int .i64 0, .int .i64 0, .int .i64 0, .int .i64 0, .int .i64 0, .int .i64 0, .int .i64 0, .int .i64 0, .int .i64 0])
        have Sa : (w2.alloc (.cells #[.int .i64 0, .int .i64 0, .int .i64 0, .int .i64 0, .int .i64 0, .int .i64 0, .int .i64 0, .int .i64 0, .int .i64 0] 44)).cell? ⟨q, 0, none⟩ = some (.pointer (some ⟨p, 0, none⟩)) := HCa.out.blk.cell 0
        have za := KP2.out.size
        have zb : w2.heap.size < (w2.alloc (.cells #[.int .i64 0, .int .i64 0, .int .i64 0, .int .i64 0, .int .i64 0, .int .i64 0, .int .i64 0, .int .i64 0, .int .i64 0] 44)).heap.size := by simp
        refine hK _ _ Sa ?_
        clear hK K
        refine HW.only 18 rfl (by kernel_rfl) (by kernel_rfl) (fun K hK => Or.inl ?_)
        go_simp
        refine (next_any _ p A n c l a2 _ HCa.out.str (by omega) (by omega)).mono ?_
        rintro e w3 ⟨y3, a3, rfl, ⟨i3, j3, -⟩, g3, h3, hs3, k3⟩
        have j3 := j3 (by omega)
        have HC3 := Lib.hid (HCa.out.moved hs3 k3)
        have KP3 := Lib.hid (KPa.out.tr k3)
        have z3 := k3.size
        (try simp only [World.size_alloc] at z3)
        have HB3 := Lib.hid (k3.blk HBa.out (by omega))
        have S3 : w3.cell? ⟨q, 0, none⟩ = some (.pointer (some ⟨p, 0, none⟩)) := HC3.out.blk.cell 0
        clear hs3 k3
        dsimp only
        refine hK _ _ S3 ?_
        clear hK K
        refine HW.take 19 (v := ?_) rfl (by kernel_rfl) (by kernel_rfl) (by kernel_rfl) (fun _ _ _ h => h) (by kernel_rfl) ?_ ?_; rotate_left 1; (focus (intro W hW; (try dsimp only at hW); go_split_ands; first | (go_simp; done) | (go_simp; with_reducible rfl))); simp only [Act.put, List.setIfInBounds_toArray, List.set_cons_zero, List.set_cons_succ]
        refine HW.skip 21 rfl (by kernel_rfl) (by kernel_rfl) (by kernel_rfl) (fun _ _ _ h => h) (by kernel_rfl) ?_
        refine HW.last (by kernel_rfl) rfl (fun K hK => ?_)
        refine step_store_blk (by rfl) 44 _ _ (by rfl) w2.heap.size (Ins.cells ⟨kind, y1, y2, y3, 0, 0, 0, 0, 0⟩) (by rfl) (by rfl) 44 #[.int .i64 0, .int .i64 0, .int .i64 0, .int .i64 0, .int .i64 0, .int .i64 0, .int .i64 0, .int .i64 0, .int .i64 0] HB3.out (by kernel_rfl) (by rfl) (by simp [Ins.cells, Value.oneCell']) ?_
        intro w9 kb9 kk9
        refine hK _ _ ?_
        simp only [Act.put, List.setIfInBounds_toArray]
        refine HQ.out w9 _ _ _ _ _ _ _ _ _ _ _ _ _ _ _ _ _ _ _ _ w2.heap.size y1 y2 y3 a3 (HC3.out.setFar kk9 (by omega) (by omega) (fun b hb => by have := HV.out b hb; omega)) kb9 ⟨i1, j1⟩ ⟨i2, j2⟩ ⟨i3, j3⟩ (by omega) (by omega) (by omega) (KP3.out.trans kk9 (fun i hi e => by have e : i = w2.heap.size := e; omega))
    · go_simp
      have HCa := Lib.hid (HC1.out.alloc (.cells #[.int .i64 0, .int .i64 0, .int .i64 0, .int .i64 0, .int .i64 0, .int .i64 0, .int .i64 0, .int .i64 0, .int .i64 0] 44))
      have KPa := Lib.hid (KP1.out.alloc (.cells #[.int .i64 0, .int .i64 0, .int .i64 0, .int .i64 0, .int .i64 0, .int .i64 0, .int .i64 0, .int .i64 0, .int .i64 0] 44))
      have HBa := Lib.hid (Blk.new w1 44 #[.int .i64 0, .int .i64 0, .int .i64 0, .int .i64 0, .int .i64 0, .int .i64 0, .int .i64 0, .int .i64 0, .int .i64 0])
      have Sa : (w1.alloc (.cells #[.int .i64 0, .int .i64 0, .int .i64 0, .int .i64 0, .int .i64 0, .int .i64 0, .int .i64 0, .int .i64 0, .int .i64 0] 44)).cell? ⟨q, 0, none⟩ = some (.pointer (some ⟨p, 0, none⟩)) := HCa.out.blk.cell 0
      have za := KP1.out.size
      have zb : w1.heap.size < (w1.alloc (.cells #[.int .i64 0, .int .i64 0, .int .i64 0, .int .i64 0, .int .i64 0, .int .i64 0, .int .i64 0, .int .i64 0, .int .i64 0] 44)).heap.size := by simp
      refine hK _ _ Sa ?_
      clear hK K
      refine HW.only 12 rfl (by kernel_rfl) (by kernel_rfl) (fun K hK => Or.inl ?_)
      go_simp
      refine (range_any _ p A n c l a1 1 _ HCa.out.str (by omega) (by omega) (by omega) (by omega)).mono ?_
      rintro e w2 ⟨y2, a2, rfl, ⟨i2, j2⟩, g2, h2, hs2, k2⟩
      have HC2 := Lib.hid (HCa.out.moved hs2 k2)
      have KP2 := Lib.hid (KPa.out.tr k2)
      have z2 := k2.size
      (try simp only [World.size_alloc] at z2)
      have HB2 := Lib.hid (k2.blk HBa.out (by omega))
      have S2 : w2.cell? ⟨q, 0, none⟩ = some (.pointer (some ⟨p, 0, none⟩)) := HC2.out.blk.cell 0
      clear hs2 k2
      dsimp only
      refine hK _ _ S2 ?_
      clear hK K
      refine HW.only 18 rfl (by kernel_rfl) (by kernel_rfl) (fun K hK => Or.inl ?_)
      go_simp
      refine (next_any _ p A n c l a2 _ HC2.out.str (by omega) (by omega)).mono ?_
      rintro e w3 ⟨y3, a3, rfl, ⟨i3, j3, -⟩, g3, h3, hs3, k3⟩
      have j3 := j3 (by omega)
      have HC3 := Lib.hid (HC2.out.moved hs3 k3)
      have KP3 := Lib.hid (KP2.out.tr k3)
      have z3 := k3.size
      (try simp only [World.size_alloc] at z3)
      have HB3 := Lib.hid (k3.blk HB2.out (by omega))
      have S3 : w3.cell? ⟨q, 0, none⟩ = some (.pointer (some ⟨p, 0, none⟩)) := HC3.out.blk.cell 0
      clear hs3 k3
      dsimp only
      refine hK _ _ S3 ?_
      clear hK K
      refine HW.take 19 (v := ?_) rfl (by kernel_rfl) (by kernel_rfl) (by kernel_rfl) (fun _ _ _ h => h) (by kernel_rfl) ?_ ?_; rotate_left 1; (focus (intro W hW; (try dsimp only at hW); go_split_ands; first | (go_simp; done) | (go_simp; with_reducible rfl))); simp only [Act.put, List.setIfInBounds_toArray, List.set_cons_zero, List.set_cons_succ]
      refine HW.skip 21 rfl (by kernel_rfl) (by kernel_rfl) (by kernel_rfl) (fun _ _ _ h => h) (by kernel_rfl) ?_
      refine HW.last (by kernel_rfl) rfl (fun K hK => ?_)
      refine step_store_blk (by rfl) 44 _ _ (by rfl) w1.heap.size (Ins.cells ⟨kind, y1, y2, y3, 0, 0, 0, 0, 0⟩) (by rfl) (by rfl) 44 #[.int .i64 0, .int .i64 0, .int .i64 0, .int .i64 0, .int .i64 0, .int .i64 0, .int .i64 0, .int .i64 0, .int .i64 0] HB3.out (by kernel_rfl) (by rfl) (by simp [Ins.cells, Value.oneCell']) ?_
      intro w9 kb9 kk9
      refine hK _ _ ?_
      simp only [Act.put, List.setIfInBounds_toArray]
      refine HQ.out w9 _ _ _ _ _ _ _ _ _ _ _ _ _ _ _ _ _ _ _ _ w1.heap.size y1 y2 y3 a3 (HC3.out.setFar kk9 (by omega) (by omega) (fun b hb => by have := HV.out b hb; omega)) kb9 ⟨i1, j1⟩ ⟨i2, j2⟩ ⟨i3, j3⟩ (by omega) (by omega) (by omega) (KP3.out.trans kk9 (fun i hi e => by have e : i = w1.heap.size := e; omega))
  · go_simp
    have HCa := Lib.hid (HC0.out.alloc (.cells #[.int .i64 0, .int .i64 0, .int .i64 0, .int .i64 0, .int .i64 0, .int .i64 0, .int .i64 0, .int .i64 0, .int .i64 0] 44))
    have KPa := Lib.hid (KP0.out.alloc (.cells #[.int .i64 0, .int .i64 0, .int .i64 0, .int .i64 0, .int .i64 0, .int .i64 0, .int .i64 0, .int .i64 0, .int .i64 0] 44))
    have HBa := Lib.hid (Blk.new W.drew 44 #[.int .i64 0, .int .i64 0, .int .i64 0, .int .i64 0, .int .i64 0, .int .i64 0, .int .i64 0, .int .i64 0, .int .i64 0])
    have Sa : (W.drew.alloc (.cells #[.int .i64 0, .int .i64 0, .int .i64 0, .int .i64 0, .int .i64 0, .int .i64 0, .int .i64 0, .int .i64 0, .int .i64 0] 44)).cell? ⟨q, 0, none⟩ = some (.pointer (some ⟨p, 0, none⟩)) := HCa.out.blk.cell 0
    have za := KP0.out.size
    have zb : W.drew.heap.size < (W.drew.alloc (.cells #[.int .i64 0, .int .i64 0, .int .i64 0, .int .i64 0, .int .i64 0, .int .i64 0, .int .i64 0, .int .i64 0, .int .i64 0] 44)).heap.size := by simp
    refine hK _ _ Sa ?_
    clear hK K
    refine HW.only 5 rfl (by kernel_rfl) (by kernel_rfl) (fun K hK => Or.inl ?_)
    go_simp
    refine (range_any _ p A n c l a 4 15 HCa.out.str (by omega) (by omega) (by omega) (by omega)).mono ?_
    rintro e w1 ⟨y1, a1, rfl, ⟨i1, j1⟩, g1, h1, hs1, k1⟩
    have HC1 := Lib.hid (HCa.out.moved hs1 k1)
    have KP1 := Lib.hid (KPa.out.tr k1)
    have z1 := k1.size
    (try simp only [World.size_alloc] at z1)
    have HB1 := Lib.hid (k1.blk HBa.out (by omega))
    have S1 : w1.cell? ⟨q, 0, none⟩ = some (.pointer (some ⟨p, 0, none⟩)) := HC1.out.blk.cell 0
    clear hs1 k1
    dsimp only
    refine hK _ _ S1 ?_
    clear hK K
    refine HW.only 12 rfl (by kernel_rfl) (by kernel_rfl) (fun K hK => Or.inl ?_)
    go_simp
    refine (range_any _ p A n c l a1 1 _ HC1.out.str (by omega) (by omega) (by omega) (by omega)).mono ?_
    rintro e w2 ⟨y2, a2, rfl, ⟨i2, j2⟩, g2, h2, hs2, k2⟩
    have HC2 := Lib.hid (HC1.out.moved hs2 k2)
    have KP2 := Lib.hid (KP1.out.tr k2)
    have z2 := k2.size
    (try simp only [World.size_alloc] at z2)
    have HB2 := Lib.hid (k2.blk HB1.out (by omega))
    have S2 : w2.cell? ⟨q, 0, none⟩ = some (.pointer (some ⟨p, 0, none⟩)) := HC2.out.blk.cell 0
    clear hs2 k2
    dsimp only
    refine hK _ _ S2 ?_
    clear hK K
    refine HW.only 18 rfl (by kernel_rfl) (by kernel_rfl) (fun K hK => Or.inl ?_)
    go_simp
    refine (next_any _ p A n c l a2 _ HC2.out.str (by omega) (by omega)).mono ?_
    rintro e w3 ⟨y3, a3, rfl, ⟨i3, j3, -⟩, g3, h3, hs3, k3⟩
    have j3 := j3 (by omega)
    have HC3 := Lib.hid (HC2.out.moved hs3 k3)
    have KP3 := Lib.hid (KP2.out.tr k3)
    have z3 := k3.size
    (try simp only [World.size_alloc] at z3)
    have HB3 := Lib.hid (k3.blk HB2.out (by omega))
    have S3 : w3.cell? ⟨q, 0, none⟩ = some (.pointer (some ⟨p, 0, none⟩)) := HC3.out.blk.cell 0
    clear hs3 k3
    dsimp only
    refine hK _ _ S3 ?_
    clear hK K
    refine HW.take 19 (v := ?_) rfl (by kernel_rfl) (by kernel_rfl) (by kernel_rfl) (fun _ _ _ h => h) (by kernel_rfl) ?_ ?_; rotate_left 1; (focus (intro W hW; (try dsimp only at hW); go_split_ands; first | (go_simp; done) | (go_simp; with_reducible rfl))); simp only [Act.put, List.setIfInBounds_toArray, List.set_cons_zero, List.set_cons_succ]
    refine HW.skip 21 rfl (by kernel_rfl) (by kernel_rfl) (by kernel_rfl) (fun _ _ _ h => h) (by kernel_rfl) ?_
    refine HW.last (by kernel_rfl) rfl (fun K hK => ?_)
    refine step_store_blk (by rfl) 44 _ _ (by rfl) W.drew.heap.size (Ins.cells ⟨kind, y1, y2, y3, 0, 0, 0, 0, 0⟩) (by rfl) (by rfl) 44 #[.int .i64 0, .int .i64 0, .int .i64 0, .int .i64 0, .int .i64 0, .int .i64 0, .int .i64 0, .int .i64 0, .int .i64 0] HB3.out (by kernel_rfl) (by rfl) (by simp [Ins.cells, Value.oneCell']) ?_
    intro w9 kb9 kk9
    refine hK _ _ ?_
    simp only [Act.put, List.setIfInBounds_toArray]
    refine HQ.out w9 _ _ _ _ _ _ _ _ _ _ _ _ _ _ _ _ _ _ _ _ W.drew.heap.size y1 y2 y3 a3 (HC3.out.setFar kk9 (by omega) (by omega) (fun b hb => by have := HV.out b hb; omega)) kb9 ⟨i1, j1⟩ ⟨i2, j2⟩ ⟨i3, j3⟩ (by omega) (by omega) (by omega) (KP3.out.trans kk9 (fun i hi e => by have e : i = W.drew.heap.size := e; omega))
noncomputable def opR8 : Code := (Tryz.f34.body.bind (findRg 8)).getD .skip
set_option maxRecDepth 100000 in
set_option maxHeartbeats 4000000 in
theorem op_r8 (w W : World) {B p q : Nat} {A : Option Addr} {n c : Nat} {l : List Int} {a : Int} {m : Mach} {st : Int} {v : Value} {xs : List Ins} {q6 q7 : Nat} {x : Ins} (h : OpS w W B p q A n c l a m st v xs q6 q7 x) (ha : a ≤ 100000000) (hql : q < w.heap.size) (hvl : ∀ g, v.ownBlock = some g → g < w.heap.size) {s1 s2 s3 s4 s5 s6 s8 s9 s10 s11 s12 s13 s14 s15 s16 s17 s18 s19 s20 s21 s22 s23 s24 s25 s26 s27 s28 s29 s30 s31 s32 s33 s34 s35 s36 s37 s38 s39 s40 s41 s42 s43 s44 s45 s46 s47 s48 s49 s50 s51 s52 s53 s54 s55 s56 s57 s58 s59 s60 s61 s62 s63 s64 s65 s66 s67 s68 s69 s70 s71 s72 s73 s74 s75 s76 s77 s78 s79 s80 s81 s82 s83 : Value} (Q : Exit → Act → World → Prop)
    (hQ : ∀ (w' : World) (y54 y55 y56 y57 y58 y59 y60 y61 y62 y63 y64 y65 : Value) (y1 y2 a' : Int), OpS w w' B p q A n c l a' m st v xs q6 q7 { x with n := y1, m := y2 } → (-9 ≤ y1 ∧ y1 ≤ 2) → (2 ≤ y2 ∧ y2 ≤ 9) → a ≤ a' → a' ≤ a + 2 → Q .normal ⟨#[.pointer (some ⟨q, 0, none⟩), s1, s2, s3, s4, s5, s6, .pointer (some ⟨q7, 0, none⟩), s8, s9, s10, s11, s12, s13, s14, s15, s16, s17, s18, s19, s20, s21, s22, s23, s24, s25, s26, s27, s28, s29, s30, s31, s32, s33, s34, s35, s36, s37, s38, s39, s40, s41, s42, s43, s44, s45, s46, s47, s48, s49, s50, s51, s52, s53, y54, y55, y56, y57, y58, y59, y60, y61, y62, y63, y64, y65, s66, s67, s68, s69, s70, s71, s72, s73, s74, s75, s76, s77, s78, s79, s80, s81, s82, s83], []⟩ w') :
    Code.wp Tryz.prog opR8 Q ⟨#[.pointer (some ⟨q, 0, none⟩), s1, s2, s3, s4, s5, s6, .pointer (some ⟨q7, 0, none⟩), s8, s9, s10, s11, s12, s13, s14, s15, s16, s17, s18, s19, s20, s21, s22, s23, s24, s25, s26, s27, s28, s29, s30, s31, s32, s33, s34, s35, s36, s37, s38, s39, s40, s41, s42, s43, s44, s45, s46, s47, s48, s49, s50, s51, s52, s53, s54, s55, s56, s57, s58, s59, s60, s61, s62, s63, s64, s65, s66, s67, s68, s69, s70, s71, s72, s73, s74, s75, s76, s77, s78, s79, s80, s81, s82, s83], []⟩ W := by
  conv => arg 2; whnf
  have HC0 := Lib.hid h.drew
  have HQ := Lib.hid hQ
  have HV := Lib.hid hvl
  have c0 : W.drew.cell? ⟨q, 0, none⟩ = some (.pointer (some ⟨p, 0, none⟩)) := h.cod.blk.cell 0
  clear h hQ hvl
  refine wp_region_last (n := 13) (fun w' => w'.cell? ⟨q, 0, none⟩ = some (.pointer (some ⟨p, 0, none⟩))) _ (by kernel_rfl) (by kernel_rfl) (by simp only [offLast]; exact rfl) c0 ?_
  refine HW.take 0 (v := ?_) rfl (by kernel_rfl) (by kernel_rfl) (by kernel_rfl) (fun _ _ _ h => h) (by kernel_rfl) ?_ ?_; rotate_left 1; (focus (intro W hW; (try dsimp only at hW); go_split_ands; first | (go_simp; done) | (go_simp; with_reducible rfl))); simp only [Act.put, List.setIfInBounds_toArray, List.set_cons_zero, List.set_cons_succ]
  refine HW.take 1 (v := ?_) rfl (by kernel_rfl) (by kernel_rfl) (by kernel_rfl) (fun _ _ _ h => h) (by kernel_rfl) ?_ ?_; rotate_left 1; (focus (intro W hW; (try dsimp only at hW); go_split_ands; first | (go_simp; done) | (go_simp; with_reducible rfl))); simp only [Act.put, List.setIfInBounds_toArray, List.set_cons_zero, List.set_cons_succ]
  refine HW.take 2 (v := ?_) rfl (by kernel_rfl) (by kernel_rfl) (by kernel_rfl) (fun _ _ _ h => h) (by kernel_rfl) ?_ ?_; rotate_left 1; (focus (intro W hW; (try dsimp only at hW); go_split_ands; first | (go_simp; done) | (go_simp; with_reducible rfl))); simp only [Act.put, List.setIfInBounds_toArray, List.set_cons_zero, List.set_cons_succ]
  refine HW.take 3 (v := ?_) rfl (by kernel_rfl) (by kernel_rfl) (by kernel_rfl) (fun _ _ _ h => h) (by kernel_rfl) ?_ ?_; rotate_left 1; (focus (intro W hW; (try dsimp only at hW); go_split_ands; first | (go_simp; done) | (go_simp; with_reducible rfl))); simp only [Act.put, List.setIfInBounds_toArray, List.set_cons_zero, List.set_cons_succ]
  refine HW.take 5 (v := ?_) rfl (by kernel_rfl) (by kernel_rfl) (by kernel_rfl) (fun _ _ _ h => h) (by kernel_rfl) ?_ ?_; rotate_left 1; (focus (intro W hW; (try dsimp only at hW); go_split_ands; first | (go_simp; done) | (go_simp; with_reducible rfl))); simp only [Act.put, List.setIfInBounds_toArray, List.set_cons_zero, List.set_cons_succ]
  refine HW.take 6 (v := ?_) rfl (by kernel_rfl) (by kernel_rfl) (by kernel_rfl) (fun _ _ _ h => h) (by kernel_rfl) ?_ ?_; rotate_left 1; (focus (intro W hW; (try dsimp only at hW); go_split_ands; first | (go_simp; done) | (go_simp; with_reducible rfl))); simp only [Act.put, List.setIfInBounds_toArray, List.set_cons_zero, List.set_cons_succ]
  refine HW.take 7 (v := ?_) rfl (by kernel_rfl) (by kernel_rfl) (by kernel_rfl) (fun _ _ _ h => h) (by kernel_rfl) ?_ ?_; rotate_left 1; (focus (intro W hW; (try dsimp only at hW); go_split_ands; first | (go_simp; done) | (go_simp; with_reducible rfl))); simp only [Act.put, List.setIfInBounds_toArray, List.set_cons_zero, List.set_cons_succ]
  refine HW.take 8 (v := ?_) rfl (by kernel_rfl) (by kernel_rfl) (by kernel_rfl) (fun _ _ _ h => h) (by kernel_rfl) ?_ ?_; rotate_left 1; (focus (intro W hW; (try dsimp only at hW); go_split_ands; first | (go_simp; done) | (go_simp; with_reducible rfl))); simp only [Act.put, List.setIfInBounds_toArray, List.set_cons_zero, List.set_cons_succ]
  refine HW.only 4 rfl (by kernel_rfl) (by kernel_rfl) (fun K hK => Or.inl ?_)
  go_simp
  refine (range_any _ p A n c l a (-9) 2 HC0.out.cod.str (by omega) (by omega) (by omega) (by omega)).mono ?_
  rintro e w1 ⟨y1, a1, rfl, ⟨i1, j1⟩, g1, h1, hs1, k1⟩
  have HC1 := Lib.hid (HC0.out.moved hs1 k1)
  have S1 : w1.cell? ⟨q, 0, none⟩ = some (.pointer (some ⟨p, 0, none⟩)) := HC1.out.cod.blk.cell 0
  clear hs1 k1
  dsimp only
  refine hK _ _ S1 ?_
  clear hK K
  refine HW.take 10 (v := ?_) rfl (by kernel_rfl) (by kernel_rfl) (by kernel_rfl) (fun _ _ _ h => h) (by kernel_rfl) ?_ ?_; rotate_left 1; (focus (intro W hW; (try dsimp only at hW); go_split_ands; first | (go_simp; done) | (go_simp; with_reducible rfl))); simp only [Act.put, List.setIfInBounds_toArray, List.set_cons_zero, List.set_cons_succ]
  refine HW.only 9 rfl (by kernel_rfl) (by kernel_rfl) (fun K hK => Or.inl ?_)
  go_simp
  refine (range_any _ p A n c l a1 2 9 HC1.out.cod.str (by omega) (by omega) (by omega) (by omega)).mono ?_
  rintro e w2 ⟨y2, a2, rfl, ⟨i2, j2⟩, g2, h2, hs2, k2⟩
  have HC2 := Lib.hid (HC1.out.moved hs2 k2)
  have S2 : w2.cell? ⟨q, 0, none⟩ = some (.pointer (some ⟨p, 0, none⟩)) := HC2.out.cod.blk.cell 0
  clear hs2 k2
  dsimp only
  refine hK _ _ S2 ?_
  clear hK K
  refine HW.only 11 rfl (by kernel_rfl) (by kernel_rfl) (fun K hK => Or.inl ?_)
  have d7 : w2.cell? ⟨q7, 7, none⟩ = some (.int .i64 x.n) := HC2.out.k7.cell 7
  have f7 := HC2.out.k7.frozen 7
  go_simp
  have HCs := Lib.hid (HC2.out.set 7 (.int .i64 y1) { x with n := y1 } rfl hql HV.out)
  have Ss : (w2.setCell ⟨q7, 7, none⟩ (.int .i64 y1)).cell? ⟨q, 0, none⟩ = some (.pointer (some ⟨p, 0, none⟩)) := HCs.out.cod.blk.cell 0
  clear d7 f7
  refine hK _ _ Ss ?_
  clear hK K
  refine HW.take 12 (v := ?_) rfl (by kernel_rfl) (by kernel_rfl) (by kernel_rfl) (fun _ _ _ h => h) (by kernel_rfl) ?_ ?_; rotate_left 1; (focus (intro W hW; (try dsimp only at hW); go_split_ands; first | (go_simp; done) | (go_simp; with_reducible rfl))); simp only [Act.put, List.setIfInBounds_toArray, List.set_cons_zero, List.set_cons_succ]
  refine HW.skip 13 rfl (by kernel_rfl) (by kernel_rfl) (by kernel_rfl) (fun _ _ _ h => h) (by kernel_rfl) ?_
  refine HW.last (by kernel_rfl) rfl (fun K hK => ?_)
  have d8 : (w2.setCell ⟨q7, 7, none⟩ (.int .i64 y1)).cell? ⟨q7, 8, none⟩ = some (.int .i64 x.m) := HCs.out.k7.cell 8
  have f8 := HCs.out.k7.frozen 8
  go_simp
  refine hK _ _ ?_
  exact HQ.out _ _ _ _ _ _ _ _ _ _ _ _ _ y1 y2 a2 (HCs.out.set 8 (.int .i64 y2) { x with n := y1, m := y2 } rfl hql HV.out) ⟨i1, j1⟩ ⟨i2, j2⟩ (by omega) (by omega)
end Go.Proofs.YtpcejpcbkjnlkaaGreatDoor

namespace Go.Proofs.YtpcejpcbkjnlkaaGreatDoor
open Go.RowKit

theorem Cod.cs {W : World} {B p q : Nat} {A : Option Addr} {n c : Nat} {l : List Int} {a : Int} {m : Mach} {st : Int} {v : Value} {xs : List Ins} (h : Cod W B p q A n c l a m st v xs) : W.cell? ⟨q, 0, none⟩ = some (.pointer (some ⟨p, 0, none⟩)) ∧ W.cell? ⟨q, 4, none⟩ = some (.int .i64 m.lanes) ∧ W.cell? ⟨q, 5, none⟩ = some (.int .i64 m.queues) ∧ W.cell? ⟨q, 7, none⟩ = some (.int .i64 st) := ⟨h.blk.cell 0, h.blk.cell 4, h.blk.cell 5, h.blk.cell 7⟩
theorem Cod.cs6 {W : World} {B p q : Nat} {A : Option Addr} {n c : Nat} {l : List Int} {a : Int} {m : Mach} {st : Int} {g k cap : Nat} {xs : List Ins} (h : Cod W B p q A n c l a m st (.slice (some ⟨g, 0, none⟩) k cap) xs) : W.cell? ⟨q, 0, none⟩ = some (.pointer (some ⟨p, 0, none⟩)) ∧ W.cell? ⟨q, 4, none⟩ = some (.int .i64 m.lanes) ∧ W.cell? ⟨q, 5, none⟩ = some (.int .i64 m.queues) ∧ W.cell? ⟨q, 7, none⟩ = some (.int .i64 st) ∧ W.cell? ⟨q, 6, none⟩ = some (.slice (some ⟨g, 0, none⟩) k cap) := ⟨h.blk.cell 0, h.blk.cell 4, h.blk.cell 5, h.blk.cell 7, h.blk.cell 6⟩
theorem reads_lit {B : Nat} (w : World) (xs : List Int) (hb : B ≤ w.heap.size) : Reads (w.alloc (.cells (ints xs).toArray 3)) (B ≤ ·) 1 (some ⟨w.heap.size, 0, none⟩) xs.length (ints xs) :=
  (reads_new w 3 xs xs.length rfl).more fun b _ e => by have e : b = w.heap.size := e; show B ≤ b; omega
/-- a row of structs: its cells one by one -/
theorem Own.cellN {w : World} {T : Nat → Prop} {e : TypeId} {size n : Nat} {xs : List Value} {g cap : Nat} (h : Own w T e size (.slice (some ⟨g, 0, none⟩) n cap) n xs) (j : Nat) (hj : j < n * size) : w.cell? ⟨g, j, none⟩ = xs[j]? := h.1.cellAt j hj
theorem Own.frozenN {w : World} {T : Nat → Prop} {e : TypeId} {size n : Nat} {xs : List Value} {g cap : Nat} (h : Own w T e size (.slice (some ⟨g, 0, none⟩) n cap) n xs) (j : Nat) : w.frozen? ⟨g, j, none⟩ = false := h.1.frozenAt j
theorem Own.setN {w : World} {T : Nat → Prop} {e : TypeId} {size n : Nat} {xs : List Value} {g cap : Nat} (h : Own w T e size (.slice (some ⟨g, 0, none⟩) n cap) n xs) (j : Nat) (u : Value) : Own (w.setCell ⟨g, j, none⟩ u) T e size (.slice (some ⟨g, 0, none⟩) n cap) n (xs.set j u) := ⟨(h.1.stored j u).1, h.2⟩
theorem insL_get (xs : List Ins) (x : Ins) (ys : List Ins) (i : Nat) (hi : i < 9) : (insL (xs ++ x :: ys))[xs.length * 9 + i]? = x.cells[i]? := by
  have h1 : insL (xs ++ x :: ys) = insL xs ++ (x.cells.toList ++ insL ys) := by simp [insL]
  rw [h1, List.getElem?_append_right (by rw [insL_length]; omega), insL_length, Nat.add_sub_cancel_left, List.getElem?_append_left (by simp [Ins.cells]; omega)]
  simp
theorem insL_set (xs : List Ins) (x : Ins) (ys : List Ins) (i : Nat) (u : Value) (x' : Ins) (hi : i < 9) (hx : x.cells.toList.set i u = x'.cells.toList) : (insL (xs ++ x :: ys)).set (xs.length * 9 + i) u = insL (xs ++ x' :: ys) := by
  have h1 : ∀ x, insL (xs ++ x :: ys) = insL xs ++ (x.cells.toList ++ insL ys) := fun x => by simp [insL]
  rw [h1, h1, List.set_append_right _ _ (by rw [insL_length]; omega), insL_length, Nat.add_sub_cancel_left, List.set_append_left _ _ (by simp [Ins.cells]; omega), hx]
section
variable {W : World} {B p q : Nat} {A : Option Addr} {n c : Nat} {l : List Int} {a : Int} {m : Mach} {st : Int} {g k cap : Nat} {xs ys : List Ins} {x : Ins}
theorem Cod.size (h : Cod W B p q A n c l a m st (.slice (some ⟨g, 0, none⟩) k cap) xs) : k = xs.length := by
  obtain ⟨A', cap', e, -⟩ := h.own.shape
  injection e with e1 e2 e3
theorem Cod.at_ (h : Cod W B p q A n c l a m st (.slice (some ⟨g, 0, none⟩) k cap) (xs ++ x :: ys)) (i : Nat) (hi : i < 9) : W.cell? ⟨g, xs.length * 9 + i, none⟩ = x.cells[i]? := by
  obtain rfl := h.size
  rw [h.own.cellN _ (by simp; omega)]
  exact insL_get xs x ys i hi
theorem Cod.thawed (h : Cod W B p q A n c l a m st (.slice (some ⟨g, 0, none⟩) k cap) xs) (j : Nat) : W.frozen? ⟨g, j, none⟩ = false := by
  obtain rfl := h.size
  exact h.own.frozenN j
end
/-- the predicate of an instruction is turned -/
theorem Cod.pred {W : World} {B p q : Nat} {A : Option Addr} {n c : Nat} {l : List Int} {a : Int} {m : Mach} {st : Int} {g k cap : Nat} {xs ys : List Ins} {x : Ins} (h : Cod W B p q A n c l a m st (.slice (some ⟨g, 0, none⟩) k cap) (xs ++ x :: ys)) (y : Int) :
    Cod (W.setCell ⟨g, xs.length * 9 + 6, none⟩ (.int .i64 y)) B p q A n c l a m st (.slice (some ⟨g, 0, none⟩) k cap) (xs ++ { x with p := y } :: ys) ∧ Keeps (B ≤ ·) W (W.setCell ⟨g, xs.length * 9 + 6, none⟩ (.int .i64 y)) := by
  have hp := h.pB
  have hT := h.own.2 g rfl
  obtain ⟨t1, t2⟩ := hT
  have hk := h.size
  have hK : Keeps (· = g) W (W.setCell ⟨g, xs.length * 9 + 6, none⟩ (.int .i64 y)) := Keeps.setCell (p := ⟨g, xs.length * 9 + 6, none⟩) (Keeps.refl (· = g) W) (fun _ => rfl) _
  have hK2 : Keeps (B ≤ ·) W (W.setCell ⟨g, xs.length * 9 + 6, none⟩ (.int .i64 y)) := hK.mono fun i _ e => by have e : i = g := e; show B ≤ i; omega
  refine ⟨⟨h.str.far hK (by omega) (fun ad hn e => by have := h.low ad hn e; omega), h.low, hK.blk h.blk (fun e => t2 e.symm), ?_, h.pB, h.Bq⟩, hK2⟩
  have ho := h.own
  subst hk
  have h2 := ho.setN (xs.length * 9 + 6) (.int .i64 y)
  rw [insL_set xs x ys 6 (.int .i64 y) { x with p := y } (by omega) rfl] at h2
  have e : (xs ++ x :: ys).length = (xs ++ { x with p := y } :: ys).length := by simp
  rw [← e]
  exact h2
end Go.Proofs.YtpcejpcbkjnlkaaGreatDoor

namespace Go.Proofs.YtpcejpcbkjnlkaaGreatDoor
open Go.RowKit

def endIns : Ins := ⟨4, 0, 0, 0, 0, 0, 0, 0, 0⟩
def PlainI (m : Mach) (x : Ins) : Prop := InsOk 2 255 m.lanes m.queues x ∧ x.op ≠ 3 ∧ x.op ≠ 4
def LoopI (m : Mach) (x : Ins) : Prop := InsOk 2 255 m.lanes m.queues x ∧ x.op = 3 ∧ 0 ≤ x.m ∧ x.m ≤ 4
theorem PlainIns.i {m : Mach} {x : Ins} (h : PlainIns m x) : PlainI m x := ⟨h.1, h.2.2⟩
/-- k steps of the generator's, loops within one another to the depth d -/
inductive Seg (m : Mach) : Nat → Nat → List Ins → Prop
  | nil (d : Nat) : Seg m d 0 []
  | none {d k : Nat} {ys : List Ins} : Seg m d k ys → Seg m d (k + 1) ys
  | one {d k : Nat} {ys : List Ins} {x : Ins} : Seg m d k ys → PlainI m x → Seg m d (k + 1) (ys ++ [x])
  | two {d k : Nat} {ys : List Ins} {x y : Ins} : Seg m d k ys → PlainI m x → PlainI m y → Seg m d (k + 1) (ys ++ [x, y])
  | loop {d k j : Nat} {ys bs : List Ins} {x : Ins} : Seg m (d + 1) k ys → LoopI m x → Seg m d j bs → j ≤ 4 → Seg m (d + 1) (k + 1) (ys ++ x :: (bs ++ [endIns]))
/-- one step that is no loop -/
def Simple (m : Mach) (ys : List Ins) : Prop := ys = [] ∨ (∃ x, ys = [x] ∧ PlainI m x) ∨ ∃ x y, ys = [x, y] ∧ PlainI m x ∧ PlainI m y
/-- one step -/
def Item (m : Mach) (d : Nat) (ys : List Ins) : Prop := Simple m ys ∨ ∃ (d' j : Nat) (x : Ins) (bs : List Ins), d = d' + 1 ∧ ys = x :: (bs ++ [endIns]) ∧ LoopI m x ∧ Seg m d' j bs ∧ j ≤ 4
theorem Simple.length {m : Mach} {ys : List Ins} (h : Simple m ys) : ys.length ≤ 2 := by
  rcases h with rfl | ⟨x, rfl, -⟩ | ⟨x, y, rfl, -⟩ <;> simp
theorem Simple.head {m : Mach} {ys : List Ins} (h : Simple m ys) : ys = [] ∨ ∃ (x : Ins) (zs : List Ins), ys = x :: zs ∧ PlainI m x ∧ ∀ x', PlainI m x' → Simple m (x' :: zs) := by
  rcases h with h | ⟨x, rfl, hx⟩ | ⟨x, y, rfl, hx, hy⟩
  · exact Or.inl h
  · exact Or.inr ⟨x, [], rfl, hx, fun x' h => Or.inr (Or.inl ⟨x', rfl, h⟩)⟩
  · exact Or.inr ⟨x, [y], rfl, hx, fun x' h => Or.inr (Or.inr ⟨x', y, rfl, h, hy⟩)⟩
theorem MemGen.simple {m : Mach} {ys : List Ins} (h : MemGen m ys) : Simple m ys := by
  rcases h with ⟨x, rfl, hx⟩ | ⟨x, y, rfl, hx, hy⟩
  · exact Or.inr (Or.inl ⟨x, rfl, hx.i⟩)
  · exact Or.inr (Or.inr ⟨x, y, rfl, hx.i, hy.i⟩)
theorem Seg.item {m : Mach} {d k : Nat} {xs ys : List Ins} (h : Seg m d k xs) (hi : Item m d ys) : Seg m d (k + 1) (xs ++ ys) := by
  rcases hi with (rfl | ⟨x, rfl, hx⟩ | ⟨x, y, rfl, hx, hy⟩) | ⟨d', j, x, bs, rfl, rfl, hx, hb, hj⟩
  · rw [List.append_nil]; exact h.none
  · exact h.one hx
  · exact h.two hx hy
  · exact h.loop hx hb hj
/-- a predicate is put to the first instruction, which may have one -/
theorem pred_ok {m : Mach} {x : Ins} (h : PlainI m x) (hop : x.op ∈ ([1, 2, 5, 6, 7, 8] : List Int)) {y : Int} (hy : 1 ≤ y ∧ y ≤ 5) : PlainI m { x with p := y } := by
  obtain ⟨⟨f, hf, ho⟩, h3, h4⟩ := h
  refine ⟨⟨f, hf, ho.k, fun e => ?_, ho.fd, ho.fa, ho.fb, ho.fc, ho.fn, ho.fm, ⟨by dsimp only; omega, by dsimp only; omega⟩, ho.ex⟩, h3, h4⟩
  exfalso
  simp only [List.mem_cons, List.not_mem_nil, or_false] at hop
  obtain ⟨op, k, d, a, b, c, p, n, mm⟩ := x
  dsimp only at hop hf
  rcases hop with rfl | rfl | rfl | rfl | rfl | rfl <;> (injection hf with hf; subst hf; exact absurd e (by simp [operF]))
set_option maxRecDepth 100000 in
set_option maxHeartbeats 1000000 in
theorem index_some (w : World) (T : Nat → Prop) (A : Option Addr) (n c : Nat) (xs : List Int) (hr : Reads w T 1 A n (ints xs)) (hn : n ≤ 1000000) (z : Int) :
    Calls Tryz.prog 74 #[.slice A n c, .int .i64 z] w fun e w' => ∃ i : Int, e = .returned (.int .i64 i) ∧ (0 ≤ i → z ∈ xs) ∧ -1 ≤ i ∧ w = w' := by
  have hlx : xs.length = n := by have := hr.1; simp [ints] at this; omega
  have HLX := Lib.hid hlx
  clear hlx
  go_enter Tryz.func74, Tryz.ntmps74
  go_wp2_with fail
  go_loopw [8] (fun i wr => ∃ k : Nat, k ≤ n ∧ i = .int .i64 k ∧ wr = w) (fun i _ => n - (intOf i).toNat)
  case atStart => exact ⟨0, Nat.zero_le _, rfl, rfl⟩
  obtain ⟨k, hk, rfl, rfl⟩ := hrel
  by_cases hlt : k < n
  · obtain ⟨ad, u, rfl, _, _, hu, hc⟩ := hr.at_ hlt
    have l1 : k < xs.length := by rw [HLX.out]; exact hlt
    rw [ints_get xs _ l1] at hu
    injection hu with hu
    subst hu
    have HM := Lib.hid (List.getElem_mem l1)
    generalize xs[k] = x at *
    clear l1
    by_cases hz : z = x
    · have HZ := Lib.hid hz
      have hb : ((z : Int) == x) = true := by simpa using hz
      clear hz
      go_wp2_with fail
      go_ret
      exact ⟨_, rfl, fun _ => by rw [HZ.out]; exact HM.out, by omega, rfl⟩
    · have hb : ((z : Int) == x) = false := by simpa using hz
      clear hz
      go_wp2_with fail
      go_roundw
      case rel => exact ⟨k + 1, by omega, by go_num, trivial⟩
      case measure => simp [intOf]; omega
  · obtain rfl : k = n := by omega
    go_wp2_with fail
    go_ret
    exact ⟨-1, rfl, fun h => by omega, by omega, rfl⟩
theorem contains_some (w : World) (T : Nat → Prop) (A : Option Addr) (n c : Nat) (xs : List Int) (hr : Reads w T 1 A n (ints xs)) (hn : n ≤ 1000000) (z : Int) :
    Calls Tryz.prog 37 #[.slice A n c, .int .i64 z] w fun e w' => ∃ b : Bool, e = .returned (.bool b) ∧ (b = true → z ∈ xs) ∧ w = w' := by
  have HI := Lib.hid (index_some w T A n c xs hr hn z)
  clear hr
  go_enter Tryz.func37, Tryz.ntmps37
  go_wp2_with fail
  refine HI.out.mono ?_
  rintro e w' ⟨i, rfl, hi, hi', rfl⟩
  have H2 := Lib.hid hi
  clear hi
  by_cases t : 0 ≤ i
  · have HT := Lib.hid t
    go_wp2_with fail
    go_ret
    exact ⟨true, by simp, fun _ => H2.out HT.out, rfl⟩
  · have HT := Lib.hid t
    go_wp2_with fail
    go_ret
    exact ⟨false, by simp [HT.out], (fun e => by cases e), rfl⟩
end Go.Proofs.YtpcejpcbkjnlkaaGreatDoor

namespace Go.Proofs.YtpcejpcbkjnlkaaGreatDoor

/-- the loops that are open; none: a fault -/
def loopsF : Nat → List Ins → Option Nat
  | n, [] => some n
  | n, x :: xs => if x.op = 4 ∧ n = 0 then none else if x.op = 3 ∧ 16 ≤ n then none else loopsF (if x.op = 3 then n + 1 else if x.op = 4 then n - 1 else n) xs
theorem loopsF_plain {n : Nat} {x : Ins} {xs : List Ins} (h3 : x.op ≠ 3) (h4 : x.op ≠ 4) : loopsF n (x :: xs) = loopsF n xs := by
  rw [loopsF, if_neg (fun h => h4 h.1), if_neg (fun h => h3 h.1), if_neg h3, if_neg h4]
theorem Seg.loops {m : Mach} {d k : Nat} {ys : List Ins} (h : Seg m d k ys) : ∀ (n : Nat) (rest : List Ins), n + d ≤ 16 → loopsF n (ys ++ rest) = loopsF n rest := by
  induction h with
  | nil d => intro n rest _; rfl
  | none _ ih => exact ih
  | one _ hx ih => intro n rest hn; rw [List.append_assoc, ih n _ hn]; exact loopsF_plain hx.2.1 hx.2.2
  | two _ hx hy ih => intro n rest hn; rw [List.append_assoc, ih n _ hn]; exact (loopsF_plain hx.2.1 hx.2.2).trans (loopsF_plain hy.2.1 hy.2.2)
  | @loop d k j ys bs x _ hx _ hj ih1 ih2 =>
    intro n rest hn
    rw [List.append_assoc, ih1 n _ hn, List.cons_append, List.append_assoc, loopsF, if_neg (fun h => by have := hx.2.1; omega), if_neg (fun h => by omega), if_pos hx.2.1, ih2 (n + 1) _ (by omega)]
    show loopsF (n + 1) (endIns :: rest) = _
    rw [loopsF, if_neg (fun h => by omega), if_neg (fun h => by have := h.1; simp [endIns] at this), if_neg (by simp [endIns]), if_pos (show endIns.op = 4 from rfl), Nat.add_sub_cancel]
/-- how often each instruction is executed -/
def turnsF : List Int → List Ins → List Int
  | [], _ => []
  | _ :: _, [] => []
  | now :: st, x :: xs => now :: turnsF (if x.op = 3 then min (now * x.m) 40000001 :: now :: st else if x.op = 4 then st else now :: st) xs
def costD : Nat → Int
  | 0 => 2
  | d + 1 => 5 + 16 * costD d
theorem costD_two (d : Nat) : 2 ≤ costD d := by
  induction d with
  | zero => exact Int.le_refl _
  | succ d ih => rw [costD]; omega
theorem turnsF_plain {now : Int} {st : List Int} {x : Ins} {xs : List Ins} (h3 : x.op ≠ 3) (h4 : x.op ≠ 4) : turnsF (now :: st) (x :: xs) = now :: turnsF (now :: st) xs := by
  rw [turnsF, if_neg h3, if_neg h4]
theorem Seg.turns {m : Mach} {d k : Nat} {ys : List Ins} (h : Seg m d k ys) : ∀ (now : Int) (st : List Int) (rest : List Ins), 0 ≤ now → ∃ T : List Int, turnsF (now :: st) (ys ++ rest) = T ++ turnsF (now :: st) rest ∧ (∀ t ∈ T, 0 ≤ t) ∧ T.sum ≤ now * (costD d * k) ∧ T.length = ys.length := by
  induction h with
  | nil d => intro now st rest h0; exact ⟨[], rfl, by simp, by simp, rfl⟩
  | @none d k ys _ ih =>
    intro now st rest h0
    obtain ⟨T, e, hT, hs, hl⟩ := ih now st rest h0
    refine ⟨T, e, hT, ?_, hl⟩
    have h1 : 0 ≤ now * costD d := Int.mul_nonneg h0 (by have := costD_two d; omega)
    have h2 : now * (costD d * ((k + 1 : Nat) : Int)) = now * (costD d * k) + now * costD d := by rw [Int.natCast_add, Int.mul_add, Int.mul_add]; simp
    omega
  | @one d k ys x _ hx ih =>
    intro now st rest h0
    obtain ⟨T, e, hT, hs, hl⟩ := ih now st (x :: rest) h0
    refine ⟨T ++ [now], ?_, ?_, ?_, by simp [hl]⟩
    · rw [List.append_assoc, List.singleton_append, e, turnsF_plain hx.2.1 hx.2.2, List.append_assoc, List.singleton_append]
    · intro t ht
      rcases List.mem_append.1 ht with ht | ht
      · exact hT t ht
      · rw [List.mem_singleton.1 ht]; exact h0
    · have h1 : now * 1 ≤ now * costD d := Int.mul_le_mul_of_nonneg_left (by have := costD_two d; omega) h0
      have h2 : now * (costD d * ((k + 1 : Nat) : Int)) = now * (costD d * k) + now * costD d := by rw [Int.natCast_add, Int.mul_add, Int.mul_add]; simp
      rw [List.sum_append]
      simp only [List.sum_cons, List.sum_nil]
      omega
  | @two d k ys x y _ hx hy ih =>
    intro now st rest h0
    obtain ⟨T, e, hT, hs, hl⟩ := ih now st (x :: y :: rest) h0
    refine ⟨T ++ [now, now], ?_, ?_, ?_, by simp [hl]⟩
    · rw [List.append_assoc, show [x, y] ++ rest = x :: y :: rest from rfl, e, turnsF_plain hx.2.1 hx.2.2, turnsF_plain hy.2.1 hy.2.2, List.append_assoc]; rfl
    · intro t ht
      rcases List.mem_append.1 ht with ht | ht
      · exact hT t ht
      · have : t = now := by simpa using ht
        rw [this]; exact h0
    · have h1 : now * 2 ≤ now * costD d := Int.mul_le_mul_of_nonneg_left (costD_two d) h0
      have h2 : now * (costD d * ((k + 1 : Nat) : Int)) = now * (costD d * k) + now * costD d := by rw [Int.natCast_add, Int.mul_add, Int.mul_add]; simp
      rw [List.sum_append]
      simp only [List.sum_cons, List.sum_nil]
      omega
  | @loop d k j ys bs x _ hx _ hj ih1 ih2 =>
    intro now st rest h0
    obtain ⟨T, e, hT, hs, hl⟩ := ih1 now st (x :: ((bs ++ [endIns]) ++ rest)) h0
    obtain ⟨-, hop, hm0, hm4⟩ := hx
    have hb0 : 0 ≤ now * x.m := Int.mul_nonneg h0 hm0
    have hb4 : now * x.m ≤ now * 4 := Int.mul_le_mul_of_nonneg_left hm4 h0
    obtain ⟨b, hb⟩ : ∃ b, b = min (now * x.m) 40000001 := ⟨_, rfl⟩
    have hb1 : 0 ≤ b := by omega
    have hb2 : b ≤ now * 4 := by omega
    obtain ⟨U, e2, hU, hs2, hl2⟩ := ih2 b (now :: st) (endIns :: rest) hb1
    have hc := costD_two d
    have h3 : costD d * (j : Int) ≤ costD d * 4 := Int.mul_le_mul_of_nonneg_left (by omega) (by omega)
    have h4 : b * (costD d * (j : Int)) ≤ b * (costD d * 4) := Int.mul_le_mul_of_nonneg_left h3 hb1
    have h5 : b * (costD d * 4) ≤ now * 4 * (costD d * 4) := Int.mul_le_mul_of_nonneg_right hb2 (by omega)
    have h6 : now * 4 * (costD d * 4) = now * (16 * costD d) := by rw [Int.mul_assoc]; congr 1; omega
    have h7 : now * costD (d + 1) = now * 5 + now * (16 * costD d) := by rw [costD, Int.mul_add]
    have h8 : now * (costD (d + 1) * ((k + 1 : Nat) : Int)) = now * (costD (d + 1) * k) + now * costD (d + 1) := by rw [Int.natCast_add, Int.mul_add, Int.mul_add]; simp
    refine ⟨T ++ (now :: (U ++ [b])), ?_, ?_, ?_, by simp [hl, hl2]⟩
    · rw [List.append_assoc, List.cons_append, e, turnsF, if_pos hop, ← hb, List.append_assoc, show [endIns] ++ rest = endIns :: rest from rfl, e2, turnsF, if_neg (by simp [endIns]), if_pos (show endIns.op = 4 from rfl), List.append_assoc]
      simp
    · intro t ht
      rcases List.mem_append.1 ht with ht | ht
      · exact hT t ht
      rcases List.mem_cons.1 ht with rfl | ht
      · exact h0
      rcases List.mem_append.1 ht with ht | ht
      · exact hU t ht
      · rw [List.mem_singleton.1 ht]; exact hb1
    · rw [List.sum_append, List.sum_cons, List.sum_append]
      simp only [List.sum_cons, List.sum_nil]
      omega
/-- what Check asks of a code, beyond its machine -/
structure CodeOk (m : Mach) (xs : List Ins) : Prop where
  ins : ∀ x ∈ xs, InsOk m.banks m.bank m.lanes m.queues x
  len : xs.length ≤ 400000
  loops : loopsF 0 xs = some 0
  nonneg : ∀ t ∈ turnsF [1] xs, 0 ≤ t
  turns : (turnsF [1] xs).sum ≤ 40000000
  all : (turnsF [1] xs).length = xs.length
theorem endIns_ok {b k l q : Int} (hb : 0 ≤ b) : InsOk b k l q endIns := by
  refine ⟨_, rfl, fun _ => rfl, fun _ => rfl, ?_, ?_, ?_, ?_, ?_, ?_, ⟨by simp [endIns], by simp [endIns]⟩, ?_⟩ <;> simp [fieldOk, extraOk, endIns]
theorem Seg.ins {m : Mach} {d k : Nat} {ys : List Ins} (h : Seg m d k ys) : ∀ x ∈ ys, InsOk 2 255 m.lanes m.queues x := by
  induction h with
  | nil d => intro x hx; simp at hx
  | none _ ih => exact ih
  | one _ hx ih => intro y hy; rcases List.mem_append.1 hy with hy | hy; exact ih y hy; rw [List.mem_singleton.1 hy]; exact hx.1
  | two _ hx hy ih =>
    intro z hz
    rcases List.mem_append.1 hz with hz | hz
    · exact ih z hz
    rcases List.mem_cons.1 hz with rfl | hz
    · exact hx.1
    · rw [List.mem_singleton.1 hz]; exact hy.1
  | loop _ hx _ hj ih1 ih2 =>
    intro z hz
    rcases List.mem_append.1 hz with hz | hz
    · exact ih1 z hz
    rcases List.mem_cons.1 hz with rfl | hz
    · exact hx.1
    rcases List.mem_append.1 hz with hz | hz
    · exact ih2 z hz
    · rw [List.mem_singleton.1 hz]; exact endIns_ok (by omega)
theorem Seg.ok {m m' : Mach} {k : Nat} {xs : List Ins} (h : Seg m 3 k xs) (hk : k ≤ 100) (hl : xs.length ≤ 400000) (h1 : 2 ≤ m'.banks) (h2 : 255 ≤ m'.bank) (h3 : m.lanes ≤ m'.lanes) (h4 : m.queues ≤ m'.queues) : CodeOk m' xs := by
  obtain ⟨T, e, hT, hs, hTl⟩ := h.turns 1 [] [] (by omega)
  rw [List.append_nil, show turnsF [1] [] = [] from rfl, List.append_nil] at e
  have hlo := h.loops 0 [] (by omega)
  rw [List.append_nil] at hlo
  have hc : costD 3 = 9557 := by decide
  rw [hc] at hs
  exact ⟨fun x hx => (h.ins x hx).more h1 h2 h3 h4, hl, hlo, by rw [e]; exact hT, by rw [e]; omega, by rw [e]; exact hTl⟩
end Go.Proofs.YtpcejpcbkjnlkaaGreatDoor

namespace Go.Proofs.YtpcejpcbkjnlkaaGreatDoor

/-- the stack behind some instructions -/
def pushT (now : Int) (st : List Int) (x : Ins) : List Int := if x.op = 3 then min (now * x.m) 40000001 :: now :: st else if x.op = 4 then st else now :: st
def stackF : List Int → List Ins → List Int
  | st, [] => st
  | [], _ :: _ => []
  | now :: st, x :: xs => stackF (pushT now st x) xs
theorem turnsF_cons (now : Int) (st : List Int) (x : Ins) (xs : List Ins) : turnsF (now :: st) (x :: xs) = now :: turnsF (pushT now st x) xs := rfl
theorem turns_step : ∀ (xs : List Ins) (st0 : List Int), (turnsF st0 xs).length = xs.length → ∀ (i : Nat) (hi : i < xs.length), ∃ (now : Int) (st : List Int), stackF st0 (xs.take i) = now :: st ∧ (turnsF st0 xs)[i]? = some now ∧ stackF st0 (xs.take (i + 1)) = pushT now st xs[i]
  | [], _, _, i, hi => by simp at hi
  | x :: xs, [], h, _, _ => by simp [turnsF] at h
  | x :: xs, now :: st, h, i, hi => by
    rw [turnsF_cons] at h ⊢
    simp only [List.length_cons, Nat.add_right_cancel_iff] at h
    cases i with
    | zero => exact ⟨now, st, rfl, rfl, rfl⟩
    | succ i =>
      have hi' : i < xs.length := by simpa using hi
      obtain ⟨now', st', h1, h2, h3⟩ := turns_step xs _ h i hi'
      exact ⟨now', st', h1, h2, h3⟩
theorem stack_range : ∀ (xs : List Ins) (st : List Int), (∀ x ∈ xs, x.op = 3 → 0 ≤ x.m) → (∀ t ∈ st, 0 ≤ t ∧ t ≤ 40000001) → ∀ t ∈ stackF st xs, 0 ≤ t ∧ t ≤ 40000001
  | [], st, _, h => h
  | x :: xs, [], _, _ => by intro t ht; simp [stackF] at ht
  | x :: xs, now :: st, hx, h => by
    refine stack_range xs _ (fun y hy => hx y (List.mem_cons_of_mem _ hy)) ?_
    have h0 := h now List.mem_cons_self
    unfold pushT
    split
    · rename_i h3
      intro t ht
      rcases List.mem_cons.1 ht with rfl | ht
      · have := Int.mul_nonneg h0.1 (hx x List.mem_cons_self h3)
        omega
      · exact h t ht
    split
    · exact fun t ht => h t (List.mem_cons_of_mem _ ht)
    · exact h
theorem stack_length : ∀ (xs : List Ins) (st : List Int), (stackF st xs).length ≤ st.length + xs.length
  | [], st => Nat.le_refl _
  | x :: xs, [] => by simp [stackF]
  | x :: xs, now :: st => by
    have h := stack_length xs (pushT now st x)
    have h2 : (pushT now st x).length ≤ st.length + 2 := by
      unfold pushT
      split
      · simp
      split
      · omega
      · simp
    simp only [stackF, List.length_cons]
    omega
theorem sum_take (l : List Int) (h : ∀ t ∈ l, 0 ≤ t) (i : Nat) : 0 ≤ (l.take i).sum ∧ (l.take i).sum ≤ l.sum := by
  have h1 : ∀ l : List Int, (∀ t ∈ l, 0 ≤ t) → 0 ≤ l.sum := by
    intro l
    induction l with
    | nil => intro _; simp
    | cons a l ih =>
      intro h
      have := ih fun t ht => h t (List.mem_cons_of_mem _ ht)
      have := h a List.mem_cons_self
      rw [List.sum_cons]
      omega
  have h2 := h1 (l.take i) fun t ht => h t (List.mem_of_mem_take ht)
  have h3 := h1 (l.drop i) fun t ht => h t (List.mem_of_mem_drop ht)
  have h4 : l.sum = (l.take i).sum + (l.drop i).sum := by rw [← List.sum_append, List.take_append_drop]
  omega
theorem sum_take_succ (l : List Int) (i : Nat) (hi : i < l.length) : (l.take (i + 1)).sum = (l.take i).sum + l[i] := by
  rw [List.take_succ_eq_append_getElem hi, List.sum_append]
  simp
/-- the loops that are open ahead of an instruction -/
theorem loops_step : ∀ (xs : List Ins) (n r : Nat), loopsF n xs = some r → ∀ (i : Nat) (hi : i < xs.length), ∃ k, loopsF k (xs.drop i) = some r ∧ ¬ (xs[i].op = 4 ∧ k = 0) ∧ ¬ (xs[i].op = 3 ∧ 16 ≤ k) ∧ loopsF (if xs[i].op = 3 then k + 1 else if xs[i].op = 4 then k - 1 else k) (xs.drop (i + 1)) = some r
  | [], _, _, _, i, hi => by simp at hi
  | x :: xs, n, r, h, i, hi => by
    have h' := h
    rw [loopsF] at h'
    split at h'
    · cases h'
    split at h'
    · cases h'
    rename_i h1 h2
    cases i with
    | zero => exact ⟨n, h, h1, h2, h'⟩
    | succ i =>
      have hi' : i < xs.length := by simpa using hi
      exact loops_step xs _ r h' i hi'
/-- the words of an instruction -/
def wordsF (x : Ins) : List Int := [x.op + 64 * x.k + 4096 * x.d + 131072 * x.a, x.b + 32 * (x.c + 1024) + 65536 * x.p, x.n, x.m]
def codeW (xs : List Ins) : List Int := xs.flatMap wordsF
theorem codeW_length (xs : List Ins) : (codeW xs).length = 4 * xs.length := by
  induction xs with
  | nil => rfl
  | cons x xs ih => rw [codeW, List.flatMap_cons, List.length_append, show (xs.flatMap wordsF).length = 4 * xs.length from ih]; simp [wordsF]; omega
theorem codeW_get : ∀ (xs : List Ins) (i : Nat) (hi : i < xs.length) (j : Nat), j < 4 → (codeW xs)[4 * i + j]? = (wordsF xs[i])[j]?
  | [], i, hi, _, _ => by simp at hi
  | x :: xs, i, hi, j, hj => by
    rw [codeW, List.flatMap_cons]
    cases i with
    | zero => rw [List.getElem?_append_left (by simp [wordsF]; omega)]; simp
    | succ i =>
      rw [List.getElem?_append_right (by simp [wordsF]; omega)]
      have hi' : i < xs.length := by simpa using hi
      have := codeW_get xs i hi' j hj
      rw [show 4 * (i + 1) + j - (wordsF x).length = 4 * i + j by simp [wordsF]; omega]
      rw [List.getElem_cons_succ]
      exact this
theorem codeW_snoc (xs : List Ins) (x : Ins) : codeW (xs ++ [x]) = codeW xs ++ wordsF x := by simp [codeW]
theorem fieldOk.range {b q k v : Int} (hk : 0 ≤ k ∧ k ≤ 4) (hb : b ≤ 8) (hq : q ≤ 4) (h : fieldOk b q k v) : 0 ≤ v ∧ v < 16 := by
  obtain ⟨h0, h1, h2, h3, h4, -⟩ := h
  have : k = 0 ∨ k = 1 ∨ k = 2 ∨ k = 3 ∨ k = 4 := by omega
  rcases this with e | e | e | e | e
  · have := h0 e; omega
  · have := h1 e; omega
  · have := h2 e; omega
  · have := h3 e; omega
  · have := h4 e; omega
/-- the fields of an instruction that is right are small -/
structure Small (x : Ins) : Prop where
  op : 1 ≤ x.op ∧ x.op ≤ 19
  k : 0 ≤ x.k ∧ x.k ≤ 15
  d : 0 ≤ x.d ∧ x.d < 16
  a : 0 ≤ x.a ∧ x.a < 16
  b : 0 ≤ x.b ∧ x.b < 16
  c : -1000 ≤ x.c ∧ x.c ≤ 1000
  p : 0 ≤ x.p ∧ x.p ≤ 16
  n : -2147483648 ≤ x.n ∧ x.n ≤ 2147483647
  m : -2147483648 ≤ x.m ∧ x.m ≤ 2147483647
theorem args_range' {k : Int} (h : 0 < argsF k) : 4 ≤ k ∧ k ≤ 15 := by
  unfold argsF at h
  repeat' split at h
  all_goals omega
theorem form_small {op k : Int} {f : Frm} (h : formF op k = some f) : (1 ≤ op ∧ op ≤ 19) ∧ (0 ≤ f.d ∧ f.d ≤ 4) ∧ (0 ≤ f.a ∧ f.a ≤ 4) ∧ (0 ≤ f.b ∧ f.b ≤ 4) ∧ (0 ≤ f.c ∧ (f.c ≤ 4 ∨ (f.c = 5 ∧ op = 3))) ∧ (f.n = 0 ∨ f.n = 5) ∧ (f.m = 0 ∨ f.m = 5) ∧ (f.k = true → op = 2 ∨ op = 11 ∨ op = 18) := by
  refine form_case (P := fun op f => (1 ≤ op ∧ op ≤ 19) ∧ (0 ≤ f.d ∧ f.d ≤ 4) ∧ (0 ≤ f.a ∧ f.a ≤ 4) ∧ (0 ≤ f.b ∧ f.b ≤ 4) ∧ (0 ≤ f.c ∧ (f.c ≤ 4 ∨ (f.c = 5 ∧ op = 3))) ∧ (f.n = 0 ∨ f.n = 5) ∧ (f.m = 0 ∨ f.m = 5) ∧ (f.k = true → op = 2 ∨ op = 11 ∨ op = 18)) h ?_ ?_ ?_ ?_ ?_ ?_ ?_ ?_ ?_ ?_ ?_ ?_ ?_ ?_ ?_ ?_ ?_ ?_ ?_
  all_goals (dsimp only [operF]; refine ⟨⟨by omega, by omega⟩, ?_, ?_, ?_, ?_, ?_, ?_, fun e => ?_⟩ <;> (try split) <;> (first | omega | (cases e; done)))
theorem InsOk.small {b k l q : Int} {x : Ins} (h : InsOk b k l q x) (hb : b ≤ 8) (hq : q ≤ 4) : Small x := by
  obtain ⟨f, hf, ho⟩ := h
  obtain ⟨h1, hd, ha, hbb, hc, hn, hm, hk⟩ := form_small hf
  obtain ⟨e1, e2, -, -, e5⟩ := ho.ex
  refine ⟨h1, ?_, ho.fd.range hd hb hq, ho.fa.range ha hb hq, ho.fb.range hbb hb hq, ?_, ho.pr, ?_, ?_⟩
  · cases hfk : f.k with
    | false => have := ho.k hfk; omega
    | true =>
      rcases hk hfk with e | e | e
      · have := args_range' (e1 (.inl e)).1; omega
      · have := args_range' (e1 (.inr e)).1; omega
      · have := (e5 e).1; omega
  · rcases hc.2 with e | ⟨-, e⟩
    · have := ho.fc.range ⟨hc.1, e⟩ hb hq; omega
    · exact (e2 e).1
  · rcases hn with e | e
    · have := ho.fn.1 e; omega
    · exact ho.fn.2.2.2.2.2 e
  · rcases hm with e | e
    · have := ho.fm.1 e; omega
    · exact ho.fm.2.2.2.2.2 e
end Go.Proofs.YtpcejpcbkjnlkaaGreatDoor

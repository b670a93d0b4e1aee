/- coder.one: a region that draws its order. Printed by gen_rely.py. -/
import Derived.Test.YtpcejpcbkjnlkaaGreatDoorZa22
import Derived.Test.YtpcejpcbkjnlkaaGreatDoorZa25
set_option linter.unusedVariables false
namespace Go.Proofs.YtpcejpcbkjnlkaaGreatDoor
open Go.RowKit

noncomputable def oneR15 : Code := (Tryz.f18.body.bind (findRg 15)).getD .skip
def oneV15 (B p q : Nat) : Nat → Value → World → Prop
  | 0 => fun x _ => x = .pointer (some ⟨q, 0, none⟩)
  | 1 => fun x _ => x = .pointer (some ⟨q, 0, none⟩)
  | 2 => fun x _ => x = .pointer (some ⟨q, 0, none⟩)
  | 3 => fun x _ => x = .pointer (some ⟨q, 0, none⟩)
  | 4 => fun x _ => x = .pointer (some ⟨p, 0, none⟩)
  | 5 => fun x _ => ∃ y : Int, x = .int .i64 y ∧ 1 ≤ y ∧ y ≤ 5
  | 6 => fun x _ => x = .pointer (some ⟨q, 0, none⟩)
  | 7 => fun x _ => x = .pointer (some ⟨q, 0, none⟩)
  | 8 => fun x _ => x = .pointer (some ⟨q, 0, none⟩)
  | 9 => fun x _ => x = .pointer (some ⟨p, 0, none⟩)
  | 10 => fun x w => ∃ g : Nat, x = .slice (some ⟨g, 0, none⟩) 5 5 ∧ Reads w (B ≤ ·) 1 (some ⟨g, 0, none⟩) 5 (ints [0, 1, 1, 2, -1])
  | 11 => fun x _ => ∃ y : Int, x = .int .i64 y ∧ y ∈ ([0, 1, 1, 2, -1] : List Int)
  | 12 => fun x _ => x = .pointer (some ⟨q, 0, none⟩)
  | 13 => fun x _ => x = .pointer (some ⟨q, 0, none⟩)
  | 14 => fun x _ => x = .pointer (some ⟨q, 0, none⟩)
  | 15 => fun x _ => x = .pointer (some ⟨p, 0, none⟩)
  | 16 => fun x w => ∃ g : Nat, x = .slice (some ⟨g, 0, none⟩) 4 4 ∧ Reads w (B ≤ ·) 1 (some ⟨g, 0, none⟩) 4 (ints [0, 0, 1, 5])
  | 17 => fun x _ => ∃ y : Int, x = .int .i64 y ∧ y ∈ ([0, 0, 1, 5] : List Int)
  | 18 => fun x _ => x = .pointer (some ⟨q, 0, none⟩)
  | 19 => fun x _ => x = .pointer (some ⟨q, 0, none⟩)
  | 20 => fun x _ => x = .pointer (some ⟨q, 0, none⟩)
  | 21 => fun x _ => x = .pointer (some ⟨p, 0, none⟩)
  | 22 => fun x w => ∃ g : Nat, x = .slice (some ⟨g, 0, none⟩) 5 5 ∧ Reads w (B ≤ ·) 1 (some ⟨g, 0, none⟩) 5 (ints [0, 1, 2, 3, 4])
  | 23 => fun x _ => ∃ y : Int, x = .int .i64 y ∧ y ∈ ([0, 1, 2, 3, 4] : List Int)
  | 24 => fun x _ => ∃ y1 y2 y3 y4 : Int, x = .agg #[.int .i64 3, .int .i64 0, .int .i64 y1, .int .i64 0, .int .i64 0, .int .i64 y2, .int .i64 0, .int .i64 y3, .int .i64 y4] ∧ (1 ≤ y1 ∧ y1 ≤ 5) ∧ y2 ∈ ([0, 1, 1, 2, -1] : List Int) ∧ y3 ∈ ([0, 0, 1, 5] : List Int) ∧ y4 ∈ ([0, 1, 2, 3, 4] : List Int)
  | _ => fun _ _ => True
theorem oneV15_stab {B p q : Nat} (hp : p < B) (i : Nat) (x : Value) (w w' : World) (hk : Keeps (· = p) w w') (h : oneV15 B p q i x w) : oneV15 B p q i x w' := by
  by_cases h10 : i = 10
  · subst h10
    obtain ⟨g, e, hr⟩ := h
    exact ⟨g, e, hr.keeps hk (fun i hi e => by have e : i = p := e; omega)⟩
  by_cases h16 : i = 16
  · subst h16
    obtain ⟨g, e, hr⟩ := h
    exact ⟨g, e, hr.keeps hk (fun i hi e => by have e : i = p := e; omega)⟩
  by_cases h22 : i = 22
  · subst h22
    obtain ⟨g, e, hr⟩ := h
    exact ⟨g, e, hr.keeps hk (fun i hi e => by have e : i = p := e; omega)⟩
  unfold oneV15 at h ⊢
  split at h <;> first | exact h | contradiction
def oneS15 (W : World) (B p q : Nat) (A : Option Addr) (n c : Nat) (l : List Int) (a : Int) (m : Mach) (st : Int) (v : Value) (xs : List Ins) (k : Nat) (w : World) : Prop :=
  ∃ a' : Int, Cod w B p q A n c l a' m st v xs ∧ a ≤ a' ∧ a' ≤ a + k ∧ Keeps (· = p) W w
set_option maxRecDepth 100000 in
set_option maxHeartbeats 8000000 in
theorem oneR15_ok (W : World) {B p q : Nat} {A : Option Addr} {n c : Nat} {l : List Int} {a : Int} {m : Mach} {st : Int} {v : Value} {xs : List Ins} (h : Cod W B p q A n c l a m st v xs) (ha : a ≤ 100000000) (hl : xs.length ≤ 1000000) {s1 s2 s3 s4 s5 s6 s7 s8 s9 s10 s11 s12 s13 s14 s15 s16 s17 s18 s19 s20 s21 s22 s23 s24 s25 s26 s27 s28 s29 s30 s31 s32 s33 s34 s35 s36 s37 s38 s39 s40 s41 s42 s43 s44 s45 s46 s47 s48 s49 s50 s51 s52 s53 s54 s55 s56 s57 s58 s59 s60 s61 s62 s63 s64 s65 s66 s67 s68 s69 s70 s71 s72 s73 s74 s75 s76 s77 s78 s79 s80 s81 s82 s83 s84 s85 s86 s87 s88 s89 s90 s91 s92 s93 s94 s95 s96 s97 s98 s99 s100 s101 s102 s103 s104 s105 s106 s107 s108 s109 s110 s111 s112 s113 s114 s115 s116 s117 s118 s119 s120 s121 s122 s123 s124 s125 s126 s127 s128 s129 s130 s131 s132 s133 s134 s135 s136 s137 s138 s139 s140 s141 s142 s143 s144 s145 s146 s147 s148 s149 s150 s151 s152 s153 s154 s155 s156 s157 s158 s159 s160 s161 s162 s163 s164 s165 s166 s167 s168 s169 s170 s171 s172 s173 s174 s175 s176 s177 s178 s179 s180 s181 s182 s183 s184 s185 s186 s187 s188 s189 s190 s191 s192 s193 s194 s195 s196 s197 s198 s199 s200 s201 s202 s203 s204 s205 s206 : Value} (Q : Exit → Act → World → Prop)
    (hQ : ∀ (w' : World) (y128 y129 y130 y131 y132 y133 y134 y135 y136 y137 y138 y139 y140 y141 y142 y143 y144 y145 y146 y147 y148 y149 y150 y151 y152 y153 : Value) (y1 y2 y3 y4 a' : Int) (v' : Value), Cod w' B p q A n c l a' m st v' (xs ++ [⟨3, 0, y1, 0, 0, y2, 0, y3, y4⟩]) → (1 ≤ y1 ∧ y1 ≤ 5) → (-1 ≤ y2 ∧ y2 ≤ 2) → (0 ≤ y3 ∧ y3 ≤ 5) → (0 ≤ y4 ∧ y4 ≤ 4) → a ≤ a' → a' ≤ a + 25 → Keeps (fun i => i = p ∨ B ≤ i) W w' → Q .normal ⟨#[.pointer (some ⟨q, 0, none⟩), s1, s2, s3, s4, s5, s6, s7, s8, s9, s10, s11, s12, s13, s14, s15, s16, s17, s18, s19, s20, s21, s22, s23, s24, s25, s26, s27, s28, s29, s30, s31, s32, s33, s34, s35, s36, s37, s38, s39, s40, s41, s42, s43, s44, s45, s46, s47, s48, s49, s50, s51, s52, s53, s54, s55, s56, s57, s58, s59, s60, s61, s62, s63, s64, s65, s66, s67, s68, s69, s70, s71, s72, s73, s74, s75, s76, s77, s78, s79, s80, s81, s82, s83, s84, s85, s86, s87, s88, s89, s90, s91, s92, s93, s94, s95, s96, s97, s98, s99, s100, s101, s102, s103, s104, s105, s106, s107, s108, s109, s110, s111, s112, s113, s114, s115, s116, s117, s118, s119, s120, s121, s122, s123, s124, s125, s126, s127, y128, y129, y130, y131, y132, y133, y134, y135, y136, y137, y138, y139, y140, y141, y142, y143, y144, y145, y146, y147, y148, y149, y150, y151, y152, y153, s154, s155, s156, s157, s158, s159, s160, s161, s162, s163, s164, s165, s166, s167, s168, s169, s170, s171, s172, s173, s174, s175, s176, s177, s178, s179, s180, s181, s182, s183, s184, s185, s186, s187, s188, s189, s190, s191, s192, s193, s194, s195, s196, s197, s198, s199, s200, s201, s202, s203, s204, s205, s206], []⟩ w') :
    Code.wp Tryz.prog oneR15 Q ⟨#[.pointer (some ⟨q, 0, none⟩), s1, s2, s3, s4, s5, s6, s7, s8, s9, s10, s11, s12, s13, s14, s15, s16, s17, s18, s19, s20, s21, s22, s23, s24, s25, s26, s27, s28, s29, s30, s31, s32, s33, s34, s35, s36, s37, s38, s39, s40, s41, s42, s43, s44, s45, s46, s47, s48, s49, s50, s51, s52, s53, s54, s55, s56, s57, s58, s59, s60, s61, s62, s63, s64, s65, s66, s67, s68, s69, s70, s71, s72, s73, s74, s75, s76, s77, s78, s79, s80, s81, s82, s83, s84, s85, s86, s87, s88, s89, s90, s91, s92, s93, s94, s95, s96, s97, s98, s99, s100, s101, s102, s103, s104, s105, s106, s107, s108, s109, s110, s111, s112, s113, s114, s115, s116, s117, s118, s119, s120, s121, s122, s123, s124, s125, s126, s127, s128, s129, s130, s131, s132, s133, s134, s135, s136, s137, s138, s139, s140, s141, s142, s143, s144, s145, s146, s147, s148, s149, s150, s151, s152, s153, s154, s155, s156, s157, s158, s159, s160, s161, s162, s163, s164, s165, s166, s167, s168, s169, s170, s171, s172, s173, s174, s175, s176, s177, s178, s179, s180, s181, s182, s183, s184, s185, s186, s187, s188, s189, s190, s191, s192, s193, s194, s195, s196, s197, s198, s199, s200, s201, s202, s203, s204, s205, s206], []⟩ W := by
  conv => arg 2; whnf
  have hpB := h.pB
  have hqB := h.Bq
  have HQ := Lib.hid hQ
  have hS0 : oneS15 W B p q A n c l a m st v xs 0 W.drew := ⟨a, h.drew, Int.le_refl _, by omega, (Keeps.refl (· = p) W).drew⟩
  clear h hQ
  refine wp_region_end (fun v => ⟨#[.pointer (some ⟨q, 0, none⟩), s1, s2, s3, s4, s5, s6, s7, s8, s9, s10, s11, s12, s13, s14, s15, s16, s17, s18, s19, s20, s21, s22, s23, s24, s25, s26, s27, s28, s29, s30, s31, s32, s33, s34, s35, s36, s37, s38, s39, s40, s41, s42, s43, s44, s45, s46, s47, s48, s49, s50, s51, s52, s53, s54, s55, s56, s57, s58, s59, s60, s61, s62, s63, s64, s65, s66, s67, s68, s69, s70, s71, s72, s73, s74, s75, s76, s77, s78, s79, s80, s81, s82, s83, s84, s85, s86, s87, s88, s89, s90, s91, s92, s93, s94, s95, s96, s97, s98, s99, s100, s101, s102, s103, s104, s105, s106, s107, s108, s109, s110, s111, s112, s113, s114, s115, s116, s117, s118, s119, s120, s121, s122, s123, s124, s125, s126, s127, v 0, v 1, v 2, v 3, v 4, v 5, v 6, v 7, v 8, v 9, v 10, v 11, v 12, v 13, v 14, v 15, v 16, v 17, v 18, v 19, v 20, v 21, v 22, v 23, v 24, s153, s154, s155, s156, s157, s158, s159, s160, s161, s162, s163, s164, s165, s166, s167, s168, s169, s170, s171, s172, s173, s174, s175, s176, s177, s178, s179, s180, s181, s182, s183, s184, s185, s186, s187, s188, s189, s190, s191, s192, s193, s194, s195, s196, s197, s198, s199, s200, s201, s202, s203, s204, s205, s206], []⟩) (oneS15 W B p q A n c l a m st v xs) (Keeps (· = p)) (oneV15 B p q) 25 (by kernel_rfl) rfl (by kernel_rfl) (by kernel_rfl) (by kernel_rfl) (fun _ => by kernel_rfl) hS0 (oneV15_stab hpB) ?_ ?_
  · intro i o hi ho k w v hk hS hw
    obtain ⟨a1, hc, g1, g2, hkp⟩ := hS
    have hk26 : k < 26 := by omega
    rcases (show i = 0 ∨ i = 1 ∨ i = 2 ∨ i = 3 ∨ i = 4 ∨ i = 5 ∨ i = 6 ∨ i = 7 ∨ i = 8 ∨ i = 9 ∨ i = 10 ∨ i = 11 ∨ i = 12 ∨ i = 13 ∨ i = 14 ∨ i = 15 ∨ i = 16 ∨ i = 17 ∨ i = 18 ∨ i = 19 ∨ i = 20 ∨ i = 21 ∨ i = 22 ∨ i = 23 ∨ i = 24 by omega) with rfl | rfl | rfl | rfl | rfl | rfl | rfl | rfl | rfl | rfl | rfl | rfl | rfl | rfl | rfl | rfl | rfl | rfl | rfl | rfl | rfl | rfl | rfl | rfl | rfl
    · have e := Option.some.inj (ho : some _ = some o)
      subst e
      clear ho
      refine Or.inl ⟨by rfl, ?_⟩
      go_simp
      exact ⟨rfl, ⟨a1, hc, g1, by omega, hkp⟩, Keeps.refl _ w⟩
    · have e := Option.some.inj (ho : some _ = some o)
      subst e
      clear ho
      refine Or.inl ⟨by rfl, ?_⟩
      go_simp
      exact ⟨rfl, ⟨a1, hc, g1, by omega, hkp⟩, Keeps.refl _ w⟩
    · have e := Option.some.inj (ho : some _ = some o)
      subst e
      clear ho
      refine Or.inl ⟨by rfl, ?_⟩
      have h1 : v 1 = .pointer (some ⟨q, 0, none⟩) := hw 1 (by kernel_rfl)
      dsimp only
      rw [h1]
      go_simp
      exact ⟨rfl, ⟨a1, hc, g1, by omega, hkp⟩, Keeps.refl _ w⟩
    · have e := Option.some.inj (ho : some _ = some o)
      subst e
      clear ho
      refine Or.inl ⟨by rfl, ?_⟩
      have h1 : v 2 = .pointer (some ⟨q, 0, none⟩) := hw 2 (by kernel_rfl)
      dsimp only
      rw [h1]
      go_simp
      exact ⟨rfl, ⟨a1, hc, g1, by omega, hkp⟩, Keeps.refl _ w⟩
    · have e := Option.some.inj (ho : some _ = some o)
      subst e
      clear ho
      refine Or.inl ⟨by rfl, ?_⟩
      have h1 : v 3 = .pointer (some ⟨q, 0, none⟩) := hw 3 (by kernel_rfl)
      dsimp only
      rw [h1]
      have c0 : w.cell? ⟨q, 0, none⟩ = some (.pointer (some ⟨p, 0, none⟩)) := hc.blk.cell 0
      go_simp
      exact ⟨rfl, ⟨a1, hc, g1, by omega, hkp⟩, Keeps.refl _ w⟩
    · have e := Option.some.inj (ho : some _ = some o)
      subst e
      clear ho
      refine Or.inl ⟨by rfl, ?_⟩
      have h1 : v 4 = .pointer (some ⟨p, 0, none⟩) := hw 4 (by kernel_rfl)
      dsimp only
      rw [h1]
      go_simp
      refine (range_any w p A n c l a1 1 5 hc.str (by omega) (by omega) (by omega) (by omega)).mono ?_
      rintro e w1 ⟨y1, a2, rfl, ⟨i1, j1⟩, g3, g4, hs1, k1⟩
      exact ⟨⟨y1, rfl, i1, j1⟩, ⟨a2, hc.moved hs1 k1, by omega, by omega, hkp.tr k1⟩, k1⟩
    · have e := Option.some.inj (ho : some _ = some o)
      subst e
      clear ho
      refine Or.inl ⟨by rfl, ?_⟩
      go_simp
      exact ⟨rfl, ⟨a1, hc, g1, by omega, hkp⟩, Keeps.refl _ w⟩
    · have e := Option.some.inj (ho : some _ = some o)
      subst e
      clear ho
      refine Or.inl ⟨by rfl, ?_⟩
      have h1 : v 6 = .pointer (some ⟨q, 0, none⟩) := hw 6 (by kernel_rfl)
      dsimp only
      rw [h1]
      go_simp
      exact ⟨rfl, ⟨a1, hc, g1, by omega, hkp⟩, Keeps.refl _ w⟩
    · have e := Option.some.inj (ho : some _ = some o)
      subst e
      clear ho
      refine Or.inl ⟨by rfl, ?_⟩
      have h1 : v 7 = .pointer (some ⟨q, 0, none⟩) := hw 7 (by kernel_rfl)
      dsimp only
      rw [h1]
      go_simp
      exact ⟨rfl, ⟨a1, hc, g1, by omega, hkp⟩, Keeps.refl _ w⟩
    · have e := Option.some.inj (ho : some _ = some o)
      subst e
      clear ho
      refine Or.inl ⟨by rfl, ?_⟩
      have h1 : v 8 = .pointer (some ⟨q, 0, none⟩) := hw 8 (by kernel_rfl)
      dsimp only
      rw [h1]
      have c0 : w.cell? ⟨q, 0, none⟩ = some (.pointer (some ⟨p, 0, none⟩)) := hc.blk.cell 0
      go_simp
      exact ⟨rfl, ⟨a1, hc, g1, by omega, hkp⟩, Keeps.refl _ w⟩
    · have e := Option.some.inj (ho : some _ = some o)
      subst e
      clear ho
      refine Or.inl ⟨by rfl, ?_⟩
      go_simp
      have zb : B ≤ w.heap.size := by have h1 := hc.blk.lt; have h2 := hc.Bq; omega
      exact ⟨⟨w.heap.size, rfl, reads_lit w [0, 1, 1, 2, -1] zb⟩, ⟨a1, hc.alloc _, g1, by omega, hkp.alloc _⟩, (Keeps.refl _ w).alloc _⟩
    · have e := Option.some.inj (ho : some _ = some o)
      subst e
      clear ho
      refine Or.inl ⟨by rfl, ?_⟩
      have h1 : v 9 = .pointer (some ⟨p, 0, none⟩) := hw 9 (by kernel_rfl)
      obtain ⟨g, h2, hr⟩ : ∃ g : Nat, v 10 = .slice (some ⟨g, 0, none⟩) 5 5 ∧ Reads w (B ≤ ·) 1 (some ⟨g, 0, none⟩) 5 (ints [0, 1, 1, 2, -1]) := hw 10 (by kernel_rfl)
      dsimp only
      rw [h1, h2]
      go_simp
      refine (pick_any _ p A n c l a1 hc.str (by omega) _ _ _ [0, 1, 1, 2, -1] (B ≤ ·) hr (by omega) (by omega) (by omega)).mono ?_
      rintro e w1 ⟨y1, a2, rfl, i1, g3, g4, hs1, k1⟩
      exact ⟨⟨y1, rfl, i1⟩, ⟨a2, hc.moved hs1 k1, by omega, by omega, hkp.tr k1⟩, k1⟩
    · have e := Option.some.inj (ho : some _ = some o)
      subst e
      clear ho
      refine Or.inl ⟨by rfl, ?_⟩
      go_simp
      exact ⟨rfl, ⟨a1, hc, g1, by omega, hkp⟩, Keeps.refl _ w⟩
    · have e := Option.some.inj (ho : some _ = some o)
      subst e
      clear ho
      refine Or.inl ⟨by rfl, ?_⟩
      have h1 : v 12 = .pointer (some ⟨q, 0, none⟩) := hw 12 (by kernel_rfl)
      dsimp only
      rw [h1]
      go_simp
      exact ⟨rfl, ⟨a1, hc, g1, by omega, hkp⟩, Keeps.refl _ w⟩
    · have e := Option.some.inj (ho : some _ = some o)
      subst e
      clear ho
      refine Or.inl ⟨by rfl, ?_⟩
      have h1 : v 13 = .pointer (some ⟨q, 0, none⟩) := hw 13 (by kernel_rfl)
      dsimp only
      rw [h1]
      go_simp
      exact ⟨rfl, ⟨a1, hc, g1, by omega, hkp⟩, Keeps.refl _ w⟩
    · have e := Option.some.inj (ho : some _ = some o)
      subst e
      clear ho
      refine Or.inl ⟨by rfl, ?_⟩
      have h1 : v 14 = .pointer (some ⟨q, 0, none⟩) := hw 14 (by kernel_rfl)
      dsimp only
      rw [h1]
      have c0 : w.cell? ⟨q, 0, none⟩ = some (.pointer (some ⟨p, 0, none⟩)) := hc.blk.cell 0
      go_simp
      exact ⟨rfl, ⟨a1, hc, g1, by omega, hkp⟩, Keeps.refl _ w⟩
    · have e := Option.some.inj (ho : some _ = some o)
      subst e
      clear ho
      refine Or.inl ⟨by rfl, ?_⟩
      go_simp
      have zb : B ≤ w.heap.size := by have h1 := hc.blk.lt; have h2 := hc.Bq; omega
      exact ⟨⟨w.heap.size, rfl, reads_lit w [0, 0, 1, 5] zb⟩, ⟨a1, hc.alloc _, g1, by omega, hkp.alloc _⟩, (Keeps.refl _ w).alloc _⟩
    · have e := Option.some.inj (ho : some _ = some o)
      subst e
      clear ho
      refine Or.inl ⟨by rfl, ?_⟩
      have h1 : v 15 = .pointer (some ⟨p, 0, none⟩) := hw 15 (by kernel_rfl)
      obtain ⟨g, h2, hr⟩ : ∃ g : Nat, v 16 = .slice (some ⟨g, 0, none⟩) 4 4 ∧ Reads w (B ≤ ·) 1 (some ⟨g, 0, none⟩) 4 (ints [0, 0, 1, 5]) := hw 16 (by kernel_rfl)
      dsimp only
      rw [h1, h2]
      go_simp
      refine (pick_any _ p A n c l a1 hc.str (by omega) _ _ _ [0, 0, 1, 5] (B ≤ ·) hr (by omega) (by omega) (by omega)).mono ?_
      rintro e w1 ⟨y1, a2, rfl, i1, g3, g4, hs1, k1⟩
      exact ⟨⟨y1, rfl, i1⟩, ⟨a2, hc.moved hs1 k1, by omega, by omega, hkp.tr k1⟩, k1⟩
    · have e := Option.some.inj (ho : some _ = some o)
      subst e
      clear ho
      refine Or.inl ⟨by rfl, ?_⟩
      go_simp
      exact ⟨rfl, ⟨a1, hc, g1, by omega, hkp⟩, Keeps.refl _ w⟩
    · have e := Option.some.inj (ho : some _ = some o)
      subst e
      clear ho
      refine Or.inl ⟨by rfl, ?_⟩
      have h1 : v 18 = .pointer (some ⟨q, 0, none⟩) := hw 18 (by kernel_rfl)
      dsimp only
      rw [h1]
      go_simp
      exact ⟨rfl, ⟨a1, hc, g1, by omega, hkp⟩, Keeps.refl _ w⟩
    · have e := Option.some.inj (ho : some _ = some o)
      subst e
      clear ho
      refine Or.inl ⟨by rfl, ?_⟩
      have h1 : v 19 = .pointer (some ⟨q, 0, none⟩) := hw 19 (by kernel_rfl)
      dsimp only
      rw [h1]
      go_simp
      exact ⟨rfl, ⟨a1, hc, g1, by omega, hkp⟩, Keeps.refl _ w⟩
    · have e := Option.some.inj (ho : some _ = some o)
      subst e
      clear ho
      refine Or.inl ⟨by rfl, ?_⟩
      have h1 : v 20 = .pointer (some ⟨q, 0, none⟩) := hw 20 (by kernel_rfl)
      dsimp only
      rw [h1]
      have c0 : w.cell? ⟨q, 0, none⟩ = some (.pointer (some ⟨p, 0, none⟩)) := hc.blk.cell 0
      go_simp
      exact ⟨rfl, ⟨a1, hc, g1, by omega, hkp⟩, Keeps.refl _ w⟩
    · have e := Option.some.inj (ho : some _ = some o)
      subst e
      clear ho
      refine Or.inl ⟨by rfl, ?_⟩
      go_simp
      have zb : B ≤ w.heap.size := by have h1 := hc.blk.lt; have h2 := hc.Bq; omega
      exact ⟨⟨w.heap.size, rfl, reads_lit w [0, 1, 2, 3, 4] zb⟩, ⟨a1, hc.alloc _, g1, by omega, hkp.alloc _⟩, (Keeps.refl _ w).alloc _⟩
    · have e := Option.some.inj (ho : some _ = some o)
      subst e
      clear ho
      refine Or.inl ⟨by rfl, ?_⟩
      have h1 : v 21 = .pointer (some ⟨p, 0, none⟩) := hw 21 (by kernel_rfl)
      obtain ⟨g, h2, hr⟩ : ∃ g : Nat, v 22 = .slice (some ⟨g, 0, none⟩) 5 5 ∧ Reads w (B ≤ ·) 1 (some ⟨g, 0, none⟩) 5 (ints [0, 1, 2, 3, 4]) := hw 22 (by kernel_rfl)
      dsimp only
      rw [h1, h2]
      go_simp
      refine (pick_any _ p A n c l a1 hc.str (by omega) _ _ _ [0, 1, 2, 3, 4] (B ≤ ·) hr (by omega) (by omega) (by omega)).mono ?_
      rintro e w1 ⟨y1, a2, rfl, i1, g3, g4, hs1, k1⟩
      exact ⟨⟨y1, rfl, i1⟩, ⟨a2, hc.moved hs1 k1, by omega, by omega, hkp.tr k1⟩, k1⟩
    · have e := Option.some.inj (ho : some _ = some o)
      subst e
      clear ho
      refine Or.inl ⟨by rfl, ?_⟩
      obtain ⟨y1, h1, i1⟩ : ∃ y : Int, v 5 = .int .i64 y ∧ 1 ≤ y ∧ y ≤ 5 := hw 5 (by kernel_rfl)
      obtain ⟨y2, h2, i2⟩ : ∃ y : Int, v 11 = .int .i64 y ∧ y ∈ ([0, 1, 1, 2, -1] : List Int) := hw 11 (by kernel_rfl)
      obtain ⟨y3, h3, i3⟩ : ∃ y : Int, v 17 = .int .i64 y ∧ y ∈ ([0, 0, 1, 5] : List Int) := hw 17 (by kernel_rfl)
      obtain ⟨y4, h4, i4⟩ : ∃ y : Int, v 23 = .int .i64 y ∧ y ∈ ([0, 1, 2, 3, 4] : List Int) := hw 23 (by kernel_rfl)
      dsimp only
      rw [h1, h2, h3, h4]
      go_simp
      exact ⟨⟨y1, y2, y3, y4, rfl, i1, i2, i3, i4⟩, ⟨a1, hc, g1, by omega, hkp⟩, Keeps.refl _ w⟩
  · intro o ho w v hS hV K' hK
    obtain ⟨a1, hc, g1, g2, hkp⟩ := hS
    have e := Option.some.inj (ho : some _ = some o)
    subst e
    clear ho
    rw [if_pos (by rfl)]
    have h1 : v 0 = .pointer (some ⟨q, 0, none⟩) := hV 0 (by omega)
    obtain ⟨y1, y2, y3, y4, h2, i1, i2, i3, i4⟩ : oneV15 B p q 24 (v 24) w := hV 24 (by omega)
    dsimp only
    rw [h1, h2]
    go_simp
    refine (add_any _ hc hl ⟨3, 0, y1, 0, 0, y2, 0, y3, y4⟩).mono ?_
    rintro e w9 ⟨rfl, v9, hc9, k9⟩
    refine hK _ _ ?_
    simp only [List.mem_cons, List.not_mem_nil, or_false] at i2 i3 i4
    exact HQ.out w9 _ _ _ _ _ _ _ _ _ _ _ _ _ _ _ _ _ _ _ _ _ _ _ _ _ _ y1 y2 y3 y4 a1 v9 hc9 i1 (by omega) (by omega) (by omega) g1 (by omega) ((hkp.mono (fun i hi (e : i = p) => (Or.inl e : i = p ∨ B ≤ i))).tr (k9.mono (fun i hi (e : B ≤ i) => (Or.inr e : i = p ∨ B ≤ i))))
end Go.Proofs.YtpcejpcbkjnlkaaGreatDoor

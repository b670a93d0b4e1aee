/- ModelSteady: the region that appends a drawn token to the prompt. Printed by gen_msr.py. -/
import Derived.Test.YtempdomhbfokmaaGreatDoorMz17
import Derived.Test.YtempdomhbfokmaaGreatDoorMz13
import Derived.Deep.RegionHeld3
import Derived.Test.YtempdomhbfokmaaGreatDoorMz21
namespace Go.Proofs.YtempdomhbfokmaaGreatDoor
open Go.RowKit

theorem Str.keeps2 {S : Nat → Prop} {w w' : World} {p : Nat} {A : Option Addr} {n c : Nat} {l : List Int} {a : Int} (h : Str w p A n c l a) (hk : Keeps S w w') (hp : ¬ S p) (hs : ∀ ad, 0 < n → A = some ad → ¬ S ad.block) : Str w' p A n c l a := by
  refine ⟨hk.blk h.blk hp, ?_, h.wf, h.len, h.at0⟩
  refine ⟨h.reads.1, fun hn => ?_⟩
  obtain ⟨ad, e, hb, ht, hc⟩ := h.reads.2 hn
  exact ⟨ad, e, Nat.lt_of_lt_of_le hb hk.size, ht, fun j u hu => (hk.cell (by rw [block_of_add]; exact hb) (by rw [block_of_add]; exact hs ad hn e)).trans (hc j u hu)⟩
noncomputable def steadyR6 : Code := (Tryz.f4.body.bind (findRegion 6)).getD .skip
set_option maxRecDepth 100000 in
set_option maxHeartbeats 8000000 in
theorem steady_r6 (w : World) (P B1 B3 : Nat) (A : Option Addr) (n c : Nat) (l : List Int) (a : Int) (hs : Str w P A n c l a) (ha : a ≤ 1000000000) (hA : ∀ ad, 0 < n → A = some ad → ad.block < B3) (V : Nat) (hV : 1 ≤ V ∧ V ≤ 1000000)
    (ms : Array Value) (hm : Blk w B1 35 ms) (hm1 : ms[1]? = some (.int .i64 V)) (most sd : Int) (k : Nat) (v : Value) (ts : List Int) (ho : Own w (fun g => B3 < g) 3 1 v k (ints ts)) (hk : k ≤ 1000) (hr : Blk w B3 40 #[.int .i64 1, .int .i64 2, v, .int .i64 most, .int .i64 sd])
    (p1 : P < B1) (p2 : B1 < B3) {s0 s1 s2 s6 s7 s8 s9 s10 s11 s12 s13 s14 s15 s16 s17 s18 s19 s20 s21 s22 s23 s24 s25 s26 s27 s28 s29 s30 s31 s32 s33 s34 s35 s36 s37 s38 s39 s40 s41 s42 s43 s44 s45 s46 s47 s48 s49 s50 s51 s52 s53 s54 s55 s56 s57 s58 s59 s60 s61 s62 s63 s64 s65 s66 s67 s68 s69 s70 s71 s72 s73 s74 s75 s76 s77 s78 s79 s80 s81 s82 s83 s84 s85 s86 s87 s88 s89 s90 s91 s92 s93 s94 s95 s96 s97 s98 s99 s100 s101 s102 s103 s104 s105 s106 s107 s108 s109 : Value} (Q : Exit → Act → World → Prop)
    (hQ : ∀ (w' : World) (y24 y25 y26 y27 y28 y29 y30 y31 y32 : Value) (v' : Value) (t a' : Int), 0 ≤ t → t < (V : Int) → Own w' (fun g => B3 < g) 3 1 v' (k + 1) (ints (ts ++ [t])) → Blk w' B3 40 #[.int .i64 1, .int .i64 2, v', .int .i64 most, .int .i64 sd] → Str w' P A n c l a' → a ≤ a' → a' ≤ a + 1 → Keeps (fun g => g = P ∨ B3 ≤ g) w w' → Q .normal ⟨#[s0, s1, s2, .pointer (some ⟨P, 0, none⟩), .pointer (some ⟨B1, 0, none⟩), .pointer (some ⟨B3, 0, none⟩), s6, s7, s8, s9, s10, s11, s12, s13, s14, s15, s16, s17, s18, s19, s20, s21, s22, s23, y24, y25, y26, y27, y28, y29, y30, y31, y32, s33, s34, s35, s36, s37, s38, s39, s40, s41, s42, s43, s44, s45, s46, s47, s48, s49, s50, s51, s52, s53, s54, s55, s56, s57, s58, s59, s60, s61, s62, s63, s64, s65, s66, s67, s68, s69, s70, s71, s72, s73, s74, s75, s76, s77, s78, s79, s80, s81, s82, s83, s84, s85, s86, s87, s88, s89, s90, s91, s92, s93, s94, s95, s96, s97, s98, s99, s100, s101, s102, s103, s104, s105, s106, s107, s108, s109], []⟩ w') :
    Code.wp Tryz.prog steadyR6 Q ⟨#[s0, s1, s2, .pointer (some ⟨P, 0, none⟩), .pointer (some ⟨B1, 0, none⟩), .pointer (some ⟨B3, 0, none⟩), s6, s7, s8, s9, s10, s11, s12, s13, s14, s15, s16, s17, s18, s19, s20, s21, s22, s23, s24, s25, s26, s27, s28, s29, s30, s31, s32, s33, s34, s35, s36, s37, s38, s39, s40, s41, s42, s43, s44, s45, s46, s47, s48, s49, s50, s51, s52, s53, s54, s55, s56, s57, s58, s59, s60, s61, s62, s63, s64, s65, s66, s67, s68, s69, s70, s71, s72, s73, s74, s75, s76, s77, s78, s79, s80, s81, s82, s83, s84, s85, s86, s87, s88, s89, s90, s91, s92, s93, s94, s95, s96, s97, s98, s99, s100, s101, s102, s103, s104, s105, s106, s107, s108, s109], []⟩ w := by
  conv => arg 2; whnf
  have zr := hr.lt
  have zm := hm.lt
  have c2 := hr.cell 2
  have d1 := hm.cell 1
  rw [hm1] at d1
  simp at c2
  have HR := Lib.hid hr
  have HM := Lib.hid hm
  have HS := Lib.hid hs
  have HO := Lib.hid ho
  have HQ := Lib.hid hQ
  have HM1 := Lib.hid hm1
  have HA := Lib.hid hA
  obtain ⟨i0, hi, hz0, hz1, hz2⟩ := info_parts int_info
  obtain ⟨hv1, hv2⟩ := hV
  clear hr hm hs ho hQ hm1 hA
  refine wp_region_last (n := 9) (fun w' => w'.cell? ⟨B3, 2, none⟩ = some v ∧ w'.cell? ⟨B1, 1, none⟩ = some (.int .i64 V)) _ (by kernel_rfl) (by kernel_rfl) (by simp only [offLast]; exact rfl) ⟨c2, d1⟩ ?_
  refine HW.take 0 (v := ?_) rfl (by kernel_rfl) (by kernel_rfl) (by kernel_rfl) (fun _ _ _ h => h) (by kernel_rfl) ?_ ?_; rotate_left 1; (focus (intro W hW; (try dsimp only at hW); go_split_ands; first | (go_simp; done) | (go_simp; with_reducible rfl))); simp only [Act.put, List.setIfInBounds_toArray, List.set_cons_zero, List.set_cons_succ]
  refine HW.take 1 (v := ?_) rfl (by kernel_rfl) (by kernel_rfl) (by kernel_rfl) (fun _ _ _ h => h) (by kernel_rfl) ?_ ?_; rotate_left 1; (focus (intro W hW; (try dsimp only at hW); go_split_ands; first | (go_simp; done) | (go_simp; with_reducible rfl))); simp only [Act.put, List.setIfInBounds_toArray, List.set_cons_zero, List.set_cons_succ]
  refine HW.take 2 (v := ?_) rfl (by kernel_rfl) (by kernel_rfl) (by kernel_rfl) (fun _ _ _ h => h) (by kernel_rfl) ?_ ?_; rotate_left 1; (focus (intro W hW; (try dsimp only at hW); go_split_ands; first | (go_simp; done) | (go_simp; with_reducible rfl))); simp only [Act.put, List.setIfInBounds_toArray, List.set_cons_zero, List.set_cons_succ]
  refine HW.take 3 (v := ?_) rfl (by kernel_rfl) (by kernel_rfl) (by kernel_rfl) (fun _ _ _ h => h) (by kernel_rfl) ?_ ?_; rotate_left 1; (focus (intro W hW; (try dsimp only at hW); go_split_ands; first | (go_simp; done) | (go_simp; with_reducible rfl))); simp only [Act.put, List.setIfInBounds_toArray, List.set_cons_zero, List.set_cons_succ]
  refine HW.take 4 (v := ?_) rfl (by kernel_rfl) (by kernel_rfl) (by kernel_rfl) (fun _ _ _ h => h) (by kernel_rfl) ?_ ?_; rotate_left 1; (focus (intro W hW; (try dsimp only at hW); go_split_ands; first | (go_simp; done) | (go_simp; with_reducible rfl))); simp only [Act.put, List.setIfInBounds_toArray, List.set_cons_zero, List.set_cons_succ]
  refine HW.only 5 rfl (by kernel_rfl) (by kernel_rfl) (fun K hK => Or.inl ?_)
  go_simp
  refine (next_any _ P A n c l a V HS.out.drew (by omega) (by omega)).mono ?_
  rintro e w3 ⟨t, a', rfl, ⟨t1, t2, -⟩, g1, g2, hs3, hk3⟩
  have t2 := t2 (by omega)
  replace hk3 : Keeps (· = P) w w3 := ⟨hk3.os, hk3.tape, hk3.output, hk3.size, hk3.block⟩
  have r3 := hk3.blk HR.out (by show ¬ B3 = P; omega)
  have m3 := hk3.blk HM.out (by show ¬ B1 = P; omega)
  have o3 := HO.out.keeps hk3 (fun i hi e => by have : i = P := e; omega)
  have S3 : (fun w' => w'.cell? ⟨B3, 2, none⟩ = some v ∧ w'.cell? ⟨B1, 1, none⟩ = some (.int .i64 V)) w3 := ⟨by have := r3.cell 2; simpa using this, by rw [m3.cell 1, HM1.out]⟩
  dsimp only
  refine hK _ _ S3 ?_
  clear hK K S3
  refine HW.only 6 rfl (by kernel_rfl) (by kernel_rfl) (fun K hK => Or.inl ?_)
  go_simp
  have r4 := r3.alloc (.cells #[.int .i64 t] 3)
  have m4 := m3.alloc (.cells #[.int .i64 t] 3)
  have o4 := o3.alloc (.cells #[.int .i64 t] 3)
  have s4 := hs3.alloc (.cells #[.int .i64 t] 3)
  have k4 := (hk3.mono (S' := fun g => g = P ∨ B3 ≤ g) (fun _ _ e => Or.inl e)).alloc (.cells #[.int .i64 t] 3)
  have z4 := hk3.size
  refine hK _ _ ⟨by have := r4.cell 2; simpa using this, by rw [m4.cell 1, HM1.out]⟩ ?_
  clear hK K
  refine HW.only 7 rfl (by kernel_rfl) (by kernel_rfl) (fun K hK => Or.inl ?_)
  have hrd : Reads (w3.alloc (.cells #[.int .i64 t] 3)) (fun _ => True) 1 (some ⟨w3.heap.size, 0, none⟩) 1 (ints [t]) := by
    refine ⟨rfl, fun _ => ⟨_, rfl, by simp, trivial, fun j u hu => ?_⟩⟩
    have hb := (Blk.new w3 3 #[.int .i64 t]).cell j
    cases j with
    | zero => simp [ints] at hu; subst hu; simp [Addr.add]
    | succ j => simp [ints] at hu
  refine wp_append_any _ _ _ _ rfl 3 i0 _ 1 8 Tryz.underlying22 hi hz0 hz1 hz2 rfl (by omega) v k (ints ts) rfl o4 _ 1 1 (ints [t]) rfl hrd (by intro u hu; simp [ints] at hu; subst hu; rfl) (by unfold maxLen; omega) (by omega) ?_
  intro v' w5 happ
  have hvb : ∀ g, v.ownBlock = some g → B3 < g ∧ g < w3.heap.size := fun g hg => ⟨o3.2 g hg, o3.lt hg⟩
  have nB : ∀ x, x ≤ B3 → some x ≠ v.ownBlock := fun x hx e => by have := (hvb x e.symm).1; omega
  have r5 := r4.grown happ.2.1 (nB _ (by omega))
  have m5 := m4.grown happ.2.1 (nB _ (by omega))
  have k5 := k4.grown happ.2.1 (fun g e _ => Or.inr (by have := (hvb g e).1; omega))
  have s5 := s4.keeps2 (S := fun g => B3 < g) ((Keeps.refl (fun g => B3 < g) (w3.alloc (.cells #[.int .i64 t] 3))).grown happ.2.1 (fun g e _ => (hvb g e).1)) (by show ¬ B3 < P; omega) (fun ad h0 e => by have := HA.out ad h0 e; show ¬ B3 < ad.block; omega)
  have o5 : Own w5 (fun g => B3 < g) 3 1 v' (k + 1) (ints (ts ++ [t])) := by
    have := happ.1
    rw [show ints ts ++ ints [t] = ints (ts ++ [t]) by simp [ints]] at this
    exact this.more fun g _ hg => by rcases hg with h | h; exact h; rw [h]; simp; omega
  refine hK _ _ ⟨by have := r5.cell 2; simpa using this, by rw [m5.cell 1, HM1.out]⟩ ?_
  clear hK K
  simp only [Act.put, List.setIfInBounds_toArray, List.set_cons_zero, List.set_cons_succ]
  refine HW.take 8 (v := ?_) rfl (by kernel_rfl) (by kernel_rfl) (by kernel_rfl) (fun _ _ _ h => h) (by kernel_rfl) ?_ ?_; rotate_left 1; (focus (intro W hW; (try dsimp only at hW); go_split_ands; first | (go_simp; done) | (go_simp; with_reducible rfl))); simp only [Act.put, List.setIfInBounds_toArray, List.set_cons_zero, List.set_cons_succ]
  refine HW.skip 9 rfl (by kernel_rfl) (by kernel_rfl) (by kernel_rfl) (fun _ _ _ h => h) (by kernel_rfl) ?_
  refine HW.last (by kernel_rfl) rfl (fun K hK => ?_)
  have c4 := r5.cell 2
  have f4 := r5.frozen 2
  obtain ⟨A', c', rfl, -, -⟩ := o5.shape
  go_simp
  refine hK _ _ ?_
  refine HQ.out _ _ _ _ _ _ _ _ _ _ _ t a' t1 t2 (o5.setCell (p := ⟨B3, 2, none⟩) (by show ¬ B3 < B3; omega) _) (r5.set_ 2 _) ?_ g1 g2 (k5.setCell (p := ⟨B3, 2, none⟩) (fun _ => Or.inr (Nat.le_refl _)) _)
  exact s5.keeps2 (S := fun g => g = B3) ((Keeps.refl (fun g => g = B3) w5).setCell (p := ⟨B3, 2, none⟩) (fun _ => rfl) _) (by show ¬ P = B3; omega) (fun ad h0 e => by have := HA.out ad h0 e; show ¬ ad.block = B3; omega)
end Go.Proofs.YtempdomhbfokmaaGreatDoor

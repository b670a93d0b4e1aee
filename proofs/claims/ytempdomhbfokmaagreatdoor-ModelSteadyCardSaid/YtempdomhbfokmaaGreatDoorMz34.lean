/- stands(): a region of pointwise's closure. -/
import Derived.Test.YtempdomhbfokmaaGreatDoorMz33
import Derived.Deep.RegionHeld3
import Derived.Test.YtempdomhbfokmaaGreatDoorMz21
namespace Go.Proofs.YtempdomhbfokmaaGreatDoor
open Go.RowKit

set_option maxRecDepth 100000 in
theorem scalar_six (w : World) (B : Addr) : Calls Tryz.prog 211 #[.agg #[.int .i64 4, .slice (some B) 2 2, .string ⟨#[]⟩, .slice none 0 0, .string ⟨#[]⟩, .slice none 0 0, .int .i64 0, .int .i64 0, .int .i64 0, .int .i64 0, .slice none 0 0, .slice none 0 0], .int .i64 3, .int .i64 3, .int .i64 0] w fun e w' => e = .returned (.int .i64 6) ∧ Below w.heap.size w w' := by
  go_enter Tryz.func211, Tryz.ntmps211
  go_wp2_with go_in
  go_ret
  exact ⟨rfl, by go_grown⟩
noncomputable def pointR8 : Code := (Tryz.f210.body.bind (findRegion 8)).getD .skip
set_option maxRecDepth 100000 in
set_option maxHeartbeats 8000000 in
theorem point_r8 (w : World) (p3 p4 vb d2 : Nat) (h3 : Blk w p3 54 #[.int .i64 4, .slice (some ⟨d2, 0, none⟩) 2 2, .string ⟨#[]⟩, .slice none 0 0, .string ⟨#[]⟩, .slice none 0 0, .int .i64 0, .int .i64 0, .int .i64 0, .int .i64 0, .slice none 0 0, .slice none 0 0]) (h4 : Blk w p4 22 #[.slice none 0 0]) (hv : Blk w vb 255 #[.int .i64 3, .int .i64 3, .int .i64 0]) {s0 s1 s2 s5 s7 s8 s9 s10 s11 s12 s13 s14 s15 s16 s17 s18 s19 s20 s21 s22 s23 s24 s25 s26 s27 s28 s29 s30 s31 s32 s33 s34 s35 s36 s37 s38 s39 s40 s41 s42 s43 s44 s45 s46 s47 s48 s49 s50 s51 : Value} (Q : Exit → Act → World → Prop)
    (hQ : ∀ (w' : World) (y41 y42 y43 y44 y45 y46 y47 y48 y49 y50 y51 : Value) (g cc : Nat), Blk w' p4 22 #[.slice (some ⟨g, 0, none⟩) 1 cc] → Own w' (· = g) 3 1 (.slice (some ⟨g, 0, none⟩) 1 cc) 1 (ints [6]) → w.heap.size ≤ g → Keeps (· = p4) w w' → Q .normal ⟨#[s0, s1, s2, .pointer (some ⟨p3, 0, none⟩), .pointer (some ⟨p4, 0, none⟩), s5, .pointer (some ⟨vb, 0, none⟩), s7, s8, s9, s10, s11, s12, s13, s14, s15, s16, s17, s18, s19, s20, s21, s22, s23, s24, s25, s26, s27, s28, s29, s30, s31, s32, s33, s34, s35, s36, s37, s38, s39, s40, y41, y42, y43, y44, y45, y46, y47, y48, y49, y50, y51], []⟩ w') :
    Code.wp Tryz.prog pointR8 Q ⟨#[s0, s1, s2, .pointer (some ⟨p3, 0, none⟩), .pointer (some ⟨p4, 0, none⟩), s5, .pointer (some ⟨vb, 0, none⟩), s7, s8, s9, s10, s11, s12, s13, s14, s15, s16, s17, s18, s19, s20, s21, s22, s23, s24, s25, s26, s27, s28, s29, s30, s31, s32, s33, s34, s35, s36, s37, s38, s39, s40, s41, s42, s43, s44, s45, s46, s47, s48, s49, s50, s51], []⟩ w := by
  conv => arg 2; whnf
  have z3 := h3.lt
  have z4 := h4.lt
  have zv := hv.lt
  have v0 := hv.cell 0
  have v1 := hv.cell 1
  have v2 := hv.cell 2
  have c4 := h4.cell 0
  have f4 := h4.frozen 0
  have n0 := Blk.cell h3 0; have n1 := Blk.cell h3 1; have n2 := Blk.cell h3 2; have n3 := Blk.cell h3 3; have n4 := Blk.cell h3 4; have n5 := Blk.cell h3 5; have n6 := Blk.cell h3 6; have n7 := Blk.cell h3 7; have n8 := Blk.cell h3 8; have n9 := Blk.cell h3 9; have n10 := Blk.cell h3 10; have n11 := Blk.cell h3 11
  simp at n0 n1 n2 n3 n4 n5 n6 n7 n8 n9 n10 n11 v0 v1 v2 c4
  have H4R := Lib.hid h4
  have H3R := Lib.hid h3
  have HVR := Lib.hid hv
  have m3 : p4 ≠ p3 := h4.ne_ h3 (by decide)
  have mv : p4 ≠ vb := h4.ne_ hv (by decide)
  have HQ := Lib.hid hQ
  obtain ⟨i0, hi, hz0, hz1, hz2⟩ := info_parts int_info
  clear h3 h4 hv hQ
  refine wp_region_last (n := 11) (fun w' => w'.cell? ⟨p3, 0, none⟩ = some (.int .i64 4) ∧ w'.cell? ⟨p3, 1, none⟩ = some (.slice (some ⟨d2, 0, none⟩) 2 2) ∧ w'.cell? ⟨p3, 2, none⟩ = some (.string ⟨#[]⟩) ∧ w'.cell? ⟨p3, 3, none⟩ = some (.slice none 0 0) ∧ w'.cell? ⟨p3, 4, none⟩ = some (.string ⟨#[]⟩) ∧ w'.cell? ⟨p3, 5, none⟩ = some (.slice none 0 0) ∧ w'.cell? ⟨p3, 6, none⟩ = some (.int .i64 0) ∧ w'.cell? ⟨p3, 7, none⟩ = some (.int .i64 0) ∧ w'.cell? ⟨p3, 8, none⟩ = some (.int .i64 0) ∧ w'.cell? ⟨p3, 9, none⟩ = some (.int .i64 0) ∧ w'.cell? ⟨p3, 10, none⟩ = some (.slice none 0 0) ∧ w'.cell? ⟨p3, 11, none⟩ = some (.slice none 0 0) ∧ w'.cell? ⟨vb, 0, none⟩ = some (.int .i64 3) ∧ w'.cell? ⟨vb, 1, none⟩ = some (.int .i64 3) ∧ w'.cell? ⟨vb, 2, none⟩ = some (.int .i64 0) ∧ w'.cell? ⟨p4, 0, none⟩ = some (.slice none 0 0)) _ (by kernel_rfl) (by kernel_rfl) (by simp only [offLast]; exact rfl) ⟨n0, n1, n2, n3, n4, n5, n6, n7, n8, n9, n10, n11, v0, v1, v2, c4⟩ ?_
  refine HW.take 0 (v := ?_) rfl (by kernel_rfl) (by kernel_rfl) (by kernel_rfl) (fun _ _ _ h => h) (by kernel_rfl) ?_ ?_; rotate_left 1; (focus (intro W hW; (try dsimp only at hW); go_split_ands; first | (go_simp; done) | (go_simp; with_reducible rfl))); simp only [Act.put, List.setIfInBounds_toArray, List.set_cons_zero, List.set_cons_succ]
  refine HW.take 1 (v := ?_) rfl (by kernel_rfl) (by kernel_rfl) (by kernel_rfl) (fun _ _ _ h => h) (by kernel_rfl) ?_ ?_; rotate_left 1; (focus (intro W hW; (try dsimp only at hW); go_split_ands; first | (go_simp; done) | (go_simp; with_reducible rfl))); simp only [Act.put, List.setIfInBounds_toArray, List.set_cons_zero, List.set_cons_succ]
  refine HW.take 2 (v := ?_) rfl (by kernel_rfl) (by kernel_rfl) (by kernel_rfl) (fun _ _ _ h => h) (by kernel_rfl) ?_ ?_; rotate_left 1; (focus (intro W hW; (try dsimp only at hW); go_split_ands; first | (go_simp; done) | (go_simp; with_reducible rfl))); simp only [Act.put, List.setIfInBounds_toArray, List.set_cons_zero, List.set_cons_succ]
  refine HW.take 3 (v := ?_) rfl (by kernel_rfl) (by kernel_rfl) (by kernel_rfl) (fun _ _ _ h => h) (by kernel_rfl) ?_ ?_; rotate_left 1; (focus (intro W hW; (try dsimp only at hW); go_split_ands; first | (go_simp; done) | (go_simp; with_reducible rfl))); simp only [Act.put, List.setIfInBounds_toArray, List.set_cons_zero, List.set_cons_succ]
  refine HW.take 4 (v := ?_) rfl (by kernel_rfl) (by kernel_rfl) (by kernel_rfl) (fun _ _ _ h => h) (by kernel_rfl) ?_ ?_; rotate_left 1; (focus (intro W hW; (try dsimp only at hW); go_split_ands; first | (go_simp; done) | (go_simp; with_reducible rfl))); simp only [Act.put, List.setIfInBounds_toArray, List.set_cons_zero, List.set_cons_succ]
  refine HW.take 5 (v := ?_) rfl (by kernel_rfl) (by kernel_rfl) (by kernel_rfl) (fun _ _ _ h => h) (by kernel_rfl) ?_ ?_; rotate_left 1; (focus (intro W hW; (try dsimp only at hW); go_split_ands; first | (go_simp; done) | (go_simp; with_reducible rfl))); simp only [Act.put, List.setIfInBounds_toArray, List.set_cons_zero, List.set_cons_succ]
  refine HW.take 6 (v := ?_) rfl (by kernel_rfl) (by kernel_rfl) (by kernel_rfl) (fun _ _ _ h => h) (by kernel_rfl) ?_ ?_; rotate_left 1; (focus (intro W hW; (try dsimp only at hW); go_split_ands; first | (go_simp; done) | (go_simp; with_reducible rfl))); simp only [Act.put, List.setIfInBounds_toArray, List.set_cons_zero, List.set_cons_succ]
  refine HW.take 7 (v := ?_) rfl (by kernel_rfl) (by kernel_rfl) (by kernel_rfl) (fun _ _ _ h => h) (by kernel_rfl) ?_ ?_; rotate_left 1; (focus (intro W hW; (try dsimp only at hW); go_split_ands; first | (go_simp; done) | (go_simp; with_reducible rfl))); simp only [Act.put, List.setIfInBounds_toArray, List.set_cons_zero, List.set_cons_succ]
  refine HW.only 8 rfl (by kernel_rfl) (by kernel_rfl) (fun K hK => Or.inl ?_)
  go_simp
  refine (scalar_six _ _).mono ?_
  rintro e w3 ⟨rfl, hb3⟩
  replace hb3 := below_begin' hb3
  have hk3 := Keeps.of_below hb3 (fun _ => False)
  have k3 := hk3.blk H3R.out id
  have k4 := hk3.blk H4R.out id
  have kv := hk3.blk HVR.out id
  have S3 : (fun w' => w'.cell? ⟨p3, 0, none⟩ = some (.int .i64 4) ∧ w'.cell? ⟨p3, 1, none⟩ = some (.slice (some ⟨d2, 0, none⟩) 2 2) ∧ w'.cell? ⟨p3, 2, none⟩ = some (.string ⟨#[]⟩) ∧ w'.cell? ⟨p3, 3, none⟩ = some (.slice none 0 0) ∧ w'.cell? ⟨p3, 4, none⟩ = some (.string ⟨#[]⟩) ∧ w'.cell? ⟨p3, 5, none⟩ = some (.slice none 0 0) ∧ w'.cell? ⟨p3, 6, none⟩ = some (.int .i64 0) ∧ w'.cell? ⟨p3, 7, none⟩ = some (.int .i64 0) ∧ w'.cell? ⟨p3, 8, none⟩ = some (.int .i64 0) ∧ w'.cell? ⟨p3, 9, none⟩ = some (.int .i64 0) ∧ w'.cell? ⟨p3, 10, none⟩ = some (.slice none 0 0) ∧ w'.cell? ⟨p3, 11, none⟩ = some (.slice none 0 0) ∧ w'.cell? ⟨vb, 0, none⟩ = some (.int .i64 3) ∧ w'.cell? ⟨vb, 1, none⟩ = some (.int .i64 3) ∧ w'.cell? ⟨vb, 2, none⟩ = some (.int .i64 0) ∧ w'.cell? ⟨p4, 0, none⟩ = some (.slice none 0 0)) w3 := ⟨k3.cell 0, k3.cell 1, k3.cell 2, k3.cell 3, k3.cell 4, k3.cell 5, k3.cell 6, k3.cell 7, k3.cell 8, k3.cell 9, k3.cell 10, k3.cell 11, kv.cell 0, kv.cell 1, kv.cell 2, k4.cell 0⟩
  dsimp only
  refine hK _ _ S3 ?_
  clear hK K S3
  refine HW.only 9 rfl (by kernel_rfl) (by kernel_rfl) (fun K hK => Or.inl ?_)
  go_simp
  have k3 := k3.alloc (.cells #[.int .i64 6] 3)
  have k4 := k4.alloc (.cells #[.int .i64 6] 3)
  have kv := kv.alloc (.cells #[.int .i64 6] 3)
  refine hK _ _ ⟨k3.cell 0, k3.cell 1, k3.cell 2, k3.cell 3, k3.cell 4, k3.cell 5, k3.cell 6, k3.cell 7, k3.cell 8, k3.cell 9, k3.cell 10, k3.cell 11, kv.cell 0, kv.cell 1, kv.cell 2, k4.cell 0⟩ ?_
  clear hK K
  refine HW.only 10 rfl (by kernel_rfl) (by kernel_rfl) (fun K hK => Or.inl ?_)
  refine wp_append_any _ _ _ _ rfl 3 i0 _ 1 8 Tryz.underlying22 hi hz0 hz1 hz2 rfl (by omega) (.slice none 0 0) 0 [] rfl (Own.nil_ _ (fun _ => False) _ _) _ 1 1 _ rfl (reads_cells _ _ [_] 1 1 rfl) (by intro u hu; simp at hu; subst hu; rfl) (by unfold maxLen; omega) (by omega) ?_
  intro v' w4 happ
  obtain ⟨g4, cc, rfl, -, -, -, -⟩ := happ.1.form (by omega)
  have k3 := k3.grown happ.2.1 (by simp [Value.ownBlock])
  have k4 := k4.grown happ.2.1 (by simp [Value.ownBlock])
  have kv := kv.grown happ.2.1 (by simp [Value.ownBlock])
  refine hK _ _ ⟨k3.cell 0, k3.cell 1, k3.cell 2, k3.cell 3, k3.cell 4, k3.cell 5, k3.cell 6, k3.cell 7, k3.cell 8, k3.cell 9, k3.cell 10, k3.cell 11, kv.cell 0, kv.cell 1, kv.cell 2, k4.cell 0⟩ ?_
  clear hK K
  simp only [Act.put, List.setIfInBounds_toArray, List.set_cons_zero, List.set_cons_succ]
  refine HW.skip 11 rfl (by kernel_rfl) (by kernel_rfl) (by kernel_rfl) (fun _ _ _ h => h) (by kernel_rfl) ?_
  refine HW.last (by kernel_rfl) rfl (fun K hK => ?_)
  have c4 := k4.cell 0
  have f4 := k4.frozen 0
  go_simp
  refine hK _ _ ?_
  have ho1 : Own w4 (· = g4) 3 1 (.slice (some ⟨g4, 0, none⟩) 1 cc) 1 (ints [6]) := ⟨happ.1.1, fun g e => by simp [Value.ownBlock] at e; exact e.symm⟩
  have hne := ho1.ne_blk k4 (by decide)
  have hg4 : w.heap.size ≤ g4 := by
    have h1 := happ.1.2 g4 rfl
    have h2 := hb3.size
    rcases h1 with h1 | h1
    · exact h1.elim
    · simp at h1; omega
  have hk4 : Keeps (· = p4) w w4 := ((Keeps.of_below hb3 (· = p4)).alloc _).grown happ.2.1 (fun g e _ => by simp [Value.ownBlock] at e)
  refine HQ.out _ _ _ _ _ _ _ _ _ _ _ _ g4 cc (k4.set_ 0 _) ?_ hg4 (Keeps.setCell (p := ⟨p4, 0, none⟩) hk4 (fun _ => rfl) _)
  exact ho1.keepsOwn (Keeps.setCell (p := ⟨p4, 0, none⟩) (Keeps.refl (fun g => g = p4) w4) (fun _ => rfl) _) (fun g e e' => hne (by rw [e, e']))
end Go.Proofs.YtempdomhbfokmaaGreatDoor

/- The entry of a token. The entry of a token, and Entry. Insertion sort, as the library's insertionSortCmpFunc does it; it sorts. No program in sight. The library's insertion sort, at rows of numbers and of pointers. cmp.Compare, slices.Max, rank. sample. -/
import Derived.Test.YtempdomhbfokmaaGreatDoorMz5
import Derived.Deep.RegionHeld3
import Derived.Deep.RegionWith
import Derived.Test.YtempdomhbfokmaaGreatDoorRows
import Derived.Test.YtempdomhbfokmaaGreatDoorMz1
namespace Go.Proofs.YtempdomhbfokmaaGreatDoor
open Go.RowKit

theorem Slc.len {w : World} {T : Nat → Prop} {v : Value} {xs : List Int} (h : Slc w T v xs) : ∃ A c, v = .slice A xs.length c := by
  obtain ⟨A, c, rfl, -⟩ := h
  exact ⟨A, c, rfl⟩
/-- The cell of a slice. -/
theorem Slc.at_ {w : World} {T : Nat → Prop} {A : Option Addr} {n c : Nat} {xs : List Int} (h : Slc w T (.slice A n c) xs) (k : Nat) (hk : k < xs.length) : n = xs.length ∧ ∃ ad, A = some ad ∧ w.cell? (ad.add k) = some (.int .i64 xs[k]) := by
  obtain ⟨A', c', he, hr, -⟩ := h
  injection he with h1 h2 h3
  subst h1 h2 h3
  obtain ⟨ad, u, rfl, -, -, hu, hc⟩ := hr.at_ hk
  rw [ints_get _ _ hk] at hu
  injection hu with hu
  subst hu
  exact ⟨rfl, ad, rfl, hc⟩

theorem addRow_step (x y : List Int) (k : Nat) (hx : k < x.length) (hy : k < y.length) :
    (addRow (x.take k) (y.take k) ++ x.drop k).set k (wr (x[k] + y[k])) = addRow (x.take (k + 1)) (y.take (k + 1)) ++ x.drop (k + 1) := by
  have hl : (addRow (x.take k) (y.take k)).length = k := by simp [addRow]; omega
  rw [List.set_append_right _ _ (by omega), hl, Nat.sub_self, List.drop_eq_getElem_cons hx, List.set_cons_zero, List.take_succ_eq_append_getElem hx, List.take_succ_eq_append_getElem hy]
  unfold addRow
  rw [List.zipWith_append (by simp; omega)]
  simp
theorem addRow_get (x y : List Int) (k : Nat) (hx : k < x.length) (hy : k < y.length) : (ints (addRow (x.take k) (y.take k) ++ x.drop k))[k]? = some (.int .i64 x[k]) := by
  have hl : (addRow (x.take k) (y.take k)).length = k := by simp [addRow]; omega
  simp only [ints, List.map_append]
  rw [List.getElem?_append_right (by simp [hl]), List.length_map, hl, Nat.sub_self]
  simp [hx]
theorem addRow_length (x y : List Int) (n : Nat) (hx : x.length = n) (hy : y.length = n) : (addRow x y).length = n := by simp [addRow, hx, hy]
/-- one row of an entry -/
def Model.ent (m : Model) (t i k : Nat) : List Int := (List.range m.width).map fun o => shiftF (dotF (rowF (m.matrix k) o m.width) (m.x t i)) (m.cut 0)
theorem range_flat_succ (f : Nat → List Int) (k : Nat) : (List.range (k + 1)).flatMap f = (List.range k).flatMap f ++ f k := by
  rw [List.range_succ, List.flatMap_append]
  simp
theorem range_map_succ (f : Nat → Int) (k : Nat) : (List.range (k + 1)).map f = (List.range k).map f ++ [f k] := by
  rw [List.range_succ, List.map_append]
  simp
theorem ent_flat_length (m : Model) (t i k : Nat) : ((List.range k).flatMap (m.ent t i)).length = k * m.width := by
  induction k with
  | zero => simp
  | succ k ih => rw [range_flat_succ, List.length_append, ih, Nat.add_mul]; simp [Model.ent]
theorem rowF_length (l : List Int) (i d : Nat) (h : (i + 1) * d ≤ l.length) : (rowF l i d).length = d := by
  unfold rowF
  rw [Nat.add_mul] at h
  simp
  omega

/-- The region with a number. -/
def findRegion (n : Nat) : Code → Option Code
  | .region i ops d => if i = n then some (.region i ops d) else none
  | .seq a b => match findRegion n a with
    | some c => some c
    | none => findRegion n b
  | .cond _ a b => match findRegion n a with
    | some c => some c
    | none => findRegion n b
  | .block _ c => findRegion n c
  | .loop c => findRegion n c
  | .scope c => findRegion n c
  | _ => none
noncomputable def entryR17 : Code := (Tryz.f36.body.bind (findRegion 17)).getD .skip

set_option maxRecDepth 100000 in
set_option maxHeartbeats 2000000 in
/-- One element of an entry. -/
theorem entry_r17 (wr : World) (T : Nat → Prop) (M : Model) (A4 : Addr) (c4 : Nat) (v5 v6 v7 v8 v9 v10 : Value) (hmr : MSl wr T M (.slice (some A4) M.cuts.length c4) v5 v6 v7 v8 v9 v10) (hM : M.Ok) (hkind : M.kind = 1) (t i k o B : Nat) (hk : k < 3) (ho : o < M.width)
    (vx : Value) (hx : Slc wr T vx (M.x t i)) (hlx : (M.x t i).length = M.width) (hxw : inRange (-2147483648) 2147483647 (M.x t i)) (v11 : Value) (xs : List Value) (n : Nat) (TO : Nat → Prop) (ho11 : Own wr TO 3 1 v11 n xs) (hn : n ≤ 1000) (hne4 : v11.ownBlock ≠ some A4.block)
    (hbx : Blk wr B 35 #[.int .i64 M.kind, .int .i64 M.vocab, .int .i64 M.width, .int .i64 M.top, .slice (some A4) M.cuts.length c4, v5, v6, v7, v8, v9, v10])
    (s0 s1 s2 s4 s5 s6 s9 s10 s14 s15 s16 s17 s18 s19 s20 s21 s22 s23 s24 s25 s26 s27 s28 s29 s30 s31 s32 s33 s34 s35 s36 s37 s38 s39 s40 s41 s42 s43 s44 s45 s46 s47 s48 s49 s50 s51 s52 s53 s54 s55 s56 s57 s58 s59 s60 s61 s62 s63 s64 s65 s66 s67 s68 s69 s70 s71 s72 s73 s74 s75 s76 s77 s78 : Value) (Q : Exit → Act → World → Prop)
    (hQ : ∀ (v' : Value) (w' : World) (y60 y61 y62 y63 y64 y65 y66 y67 y68 y69 y70 y71 y72 y73 y74 y75 : Value), Own w' (fun g => TO g ∨ wr.heap.size ≤ g) 3 1 v' (n + 1) (xs ++ [.int .i64 (shiftF (dotF (rowF (M.matrix k) o M.width) (M.x t i)) (M.cut 0))]) → wr.grownBy w' v11.ownBlock → Q .normal ⟨#[s0, s1, s2, .pointer (some ⟨B, 0, none⟩), s4, s5, s6, .int .i64 M.width, vx, s9, s10, v', .int .i64 k, .int .i64 o, s14, s15, s16, s17, s18, s19, s20, s21, s22, s23, s24, s25, s26, s27, s28, s29, s30, s31, s32, s33, s34, s35, s36, s37, s38, s39, s40, s41, s42, s43, s44, s45, s46, s47, s48, s49, s50, s51, s52, s53, s54, s55, s56, s57, s58, s59, y60, y61, y62, y63, y64, y65, y66, y67, y68, y69, y70, y71, y72, y73, y74, y75, s76, s77, s78], []⟩ w') :
    Code.wp Tryz.prog entryR17 Q ⟨#[s0, s1, s2, .pointer (some ⟨B, 0, none⟩), s4, s5, s6, .int .i64 M.width, vx, s9, s10, v11, .int .i64 k, .int .i64 o, s14, s15, s16, s17, s18, s19, s20, s21, s22, s23, s24, s25, s26, s27, s28, s29, s30, s31, s32, s33, s34, s35, s36, s37, s38, s39, s40, s41, s42, s43, s44, s45, s46, s47, s48, s49, s50, s51, s52, s53, s54, s55, s56, s57, s58, s59, s60, s61, s62, s63, s64, s65, s66, s67, s68, s69, s70, s71, s72, s73, s74, s75, s76, s77, s78], []⟩ wr := by
  conv => arg 2; whnf
  obtain ⟨i0, hi, hz0, hz1, hz2⟩ := info_parts int_info
  obtain ⟨hw1, hw2⟩ := hM.width
  have hcut : 0 < M.cuts.length := by have := hM.lcuts; omega
  obtain ⟨cu1, cu2⟩ := hM.cuts _ (List.getElem_mem hcut)
  have hcutE : M.cuts[0] = M.cut 0 := by simp [Model.cut, List.getD, hcut]
  obtain ⟨-, ad, e, hc4⟩ := hmr.cuts.at_ 0 hcut
  injection e with e
  subst e
  rw [hcutE] at hc4 cu1 cu2
  rw [show A4.add 0 = A4 from by simp [Addr.add]] at hc4
  have hmix := hM.attend hkind
  rw [Nat.mul_assoc] at hmix
  have hb7 := mul_bounds _ _ _ _ hw2 hw2
  have hkk : (k + 1) * (M.width * M.width) ≤ M.mix.length := by rw [hmix]; exact Nat.mul_le_mul_right _ (by omega)
  have hml : M.mix.length ≤ 75 := by omega
  have hmk := rowF_length _ _ _ hkk
  have hoo : (o + 1) * M.width ≤ (M.matrix k).length := by rw [Model.matrix, hmk]; exact Nat.mul_le_mul_right _ (by omega)
  have hmkl : (M.matrix k).length ≤ 25 := by rw [Model.matrix, hmk]; omega
  have hrl : (rowF (M.matrix k) o M.width).length = M.width := rowF_length _ _ _ hoo
  have hrw : inRange (-4294967296) 4294967296 (rowF (M.matrix k) o M.width) := by
    intro z hz
    have h1 := hM.mix z (List.mem_of_mem_drop (List.mem_of_mem_take (List.mem_of_mem_drop (List.mem_of_mem_take hz))))
    omega
  have hmrow := hmr.mix.row k (M.width * M.width) hkk
  have hdw := dotF_word (rowF (M.matrix k) o M.width) (M.x t i)
  obtain ⟨dw1, dw2⟩ := hdw
  have hlt : A4.block < wr.heap.size := by
    rcases Nat.lt_or_ge A4.block wr.heap.size with h | h
    · exact h
    · simp [World.cell?, Array.getElem?_eq_none h] at hc4
  have hbl := hbx.lt
  have hneB : v11.ownBlock ≠ some B := ho11.ne_blk hbx (by decide)
  have d0 := hbx.cell 0
  have d1 := hbx.cell 1
  have d2 := hbx.cell 2
  have d3 := hbx.cell 3
  have d4 := hbx.cell 4
  have d5 := hbx.cell 5
  have d6 := hbx.cell 6
  have d7 := hbx.cell 7
  have d8 := hbx.cell 8
  have d9 := hbx.cell 9
  have d10 := hbx.cell 10
  have HK := Lib.hid hkind
  have HM1 := Lib.hid hmix
  have HM2 := Lib.hid hmk
  have HM3 := Lib.hid hrl
  have HM4 := Lib.hid hlx
  clear hkind hmix hmk hrl hlx hcutE
  go_region_held3 (fun w' => w'.cell? ⟨B, 0, none⟩ = some (.int .i64 M.kind) ∧ w'.cell? ⟨B, 1, none⟩ = some (.int .i64 M.vocab) ∧ w'.cell? ⟨B, 2, none⟩ = some (.int .i64 M.width) ∧ w'.cell? ⟨B, 3, none⟩ = some (.int .i64 M.top)
    ∧ w'.cell? ⟨B, 4, none⟩ = some (.slice (some A4) M.cuts.length c4) ∧ w'.cell? ⟨B, 5, none⟩ = some v5 ∧ w'.cell? ⟨B, 6, none⟩ = some v6 ∧ w'.cell? ⟨B, 7, none⟩ = some v7
    ∧ w'.cell? ⟨B, 8, none⟩ = some v8 ∧ w'.cell? ⟨B, 9, none⟩ = some v9 ∧ w'.cell? ⟨B, 10, none⟩ = some v10 ∧ w'.cell? A4 = some (.int .i64 (M.cut 0))) (go_keep)
    (first
      | (go_at_call 68; refine (matrix_any _ _ M _ _ _ _ _ _ _ hmr.drew k hkk hw2 (by omega) (by omega)).mono ?_; rintro e W1 ⟨rfl, hbW⟩; have e0 := hbW.cell (p := ⟨B, 0, none⟩) hbl; have e1 := hbW.cell (p := ⟨B, 1, none⟩) hbl; have e2 := hbW.cell (p := ⟨B, 2, none⟩) hbl; have e3 := hbW.cell (p := ⟨B, 3, none⟩) hbl; have e4 := hbW.cell (p := ⟨B, 4, none⟩) hbl; have e5 := hbW.cell (p := ⟨B, 5, none⟩) hbl; have e6 := hbW.cell (p := ⟨B, 6, none⟩) hbl; have e7 := hbW.cell (p := ⟨B, 7, none⟩) hbl; have e8 := hbW.cell (p := ⟨B, 8, none⟩) hbl; have e9 := hbW.cell (p := ⟨B, 9, none⟩) hbl; have e10 := hbW.cell (p := ⟨B, 10, none⟩) hbl; have dA := hbW.cell (p := A4) hlt)
      | (go_at_call 63; refine (row_any _ _ _ (M.matrix k) o M.width (hmrow.drew.fresh hbW) hoo (by omega) (by omega) (by omega)).mono ?_; rintro e w' ⟨rfl, rfl⟩)
      | (go_at_call 67; refine (dot_any _ _ _ _ _ (rowF (M.matrix k) o M.width) (M.x t i) ((hmrow.drew.fresh hbW).row o M.width hoo) (hx.drew.fresh hbW) (by rw [HM3.out, HM4.out]) hrw hxw).mono ?_; rintro e w' ⟨rfl, nd, rfl⟩)
      | (refine step_append_any _ (by rfl) _ _ 22 (by rfl) 3 i0 _ 1 8 Tryz.underlying22 hi hz0 hz1 hz2 rfl (by omega) v11 n xs (by rfl) (((ho11.drew.fresh hbW).drewN nd).alloc _) _ 1 1 _ (by rfl) (reads_new _ _ [_] 1 rfl) (ints_one _) (by unfold maxLen; omega) (by omega) ?_; intro v' w' happ; have hlB := Nat.lt_of_lt_of_le hbl hbW.size; have hlA := Nat.lt_of_lt_of_le hlt hbW.size; have f0 := far_cell happ.2.1 ⟨B, 0, none⟩ hlB hneB; have f1 := far_cell happ.2.1 ⟨B, 1, none⟩ hlB hneB; have f2 := far_cell happ.2.1 ⟨B, 2, none⟩ hlB hneB; have f3 := far_cell happ.2.1 ⟨B, 3, none⟩ hlB hneB; have f4 := far_cell happ.2.1 ⟨B, 4, none⟩ hlB hneB; have f5 := far_cell happ.2.1 ⟨B, 5, none⟩ hlB hneB; have f6 := far_cell happ.2.1 ⟨B, 6, none⟩ hlB hneB; have f7 := far_cell happ.2.1 ⟨B, 7, none⟩ hlB hneB; have f8 := far_cell happ.2.1 ⟨B, 8, none⟩ hlB hneB; have f9 := far_cell happ.2.1 ⟨B, 9, none⟩ hlB hneB; have f10 := far_cell happ.2.1 ⟨B, 10, none⟩ hlB hneB; have fA := far_cell happ.2.1 A4 hlA hne4)
      | (go_at_call 66; refine (shift_any _ _ _ cu1 cu2 (by omega)).mono ?_; rintro e w' ⟨rfl, rfl⟩))
  refine hQ _ _ _ _ _ _ _ _ _ _ _ _ _ _ _ _ _ _ (happ.1.more fun g _ hg => ?_) (grown_after (n := nd) hbW.drewed happ.2.1)
  rcases hg with hg | hg
  · exact .inl hg
  · have := hbW.size
    simp at hg this
    exact .inr (by omega)
end Go.Proofs.YtempdomhbfokmaaGreatDoor

namespace Go.Proofs.YtempdomhbfokmaaGreatDoor
open Go.RowKit

set_option maxRecDepth 100000 in
set_option maxHeartbeats 1000000 in
theorem entry_any (w : World) (T : Nat → Prop) (M : Model) (v4 v5 v6 v7 v8 v9 v10 : Value) (h : MSl w T M v4 v5 v6 v7 v8 v9 v10) (hM : M.Ok) (t i : Nat) (ht : t < M.vocab) (hi : i < 64) :
    Calls Tryz.prog 36 #[.agg #[.int .i64 M.kind, .int .i64 M.vocab, .int .i64 M.width, .int .i64 M.top, v4, v5, v6, v7, v8, v9, v10], .int .i64 t, .int .i64 i] w (RetFresh w 3 1 (M.entry t i).length (ints (M.entry t i))) := by
  replace h := h.old
  clear T
  generalize hT : (fun b : Nat => b < w.heap.size) = T at h
  have hTlt : ∀ b, T b → b < w.heap.size := fun b hb => by rw [← hT] at hb; exact hb
  clear hT
  obtain ⟨hv1, hv2⟩ := hM.vocab
  obtain ⟨hw1, hw2⟩ := hM.width
  obtain ⟨tp, hp1, hp2, hp3⟩ := hM.lplace
  have hl5 := hM.lembed
  have hrow5 : (t + 1) * M.width ≤ M.embed.length := by rw [hl5]; exact Nat.mul_le_mul_right _ ht
  have hb5 := mul_bounds _ _ _ _ hv2 hw2
  have hb6 := mul_bounds _ _ _ _ hp2 hw2
  have hl6 : M.place.length ≤ 80 := by omega
  have hl5n : M.embed.length ≤ 80 := by omega
  have HP3 := Lib.hid hp3
  clear hp3 hl5
  go_enter Tryz.func36, Tryz.ntmps36
  go_wp2_with fail
  refine (row_any _ T v5 M.embed t M.width (h.embed.alloc _) hrow5 (by omega) (by omega) (by omega)).mono ?_
  rintro e w' ⟨rfl, rfl⟩
  go_wp2_with fail
  have hl5' := rowF_length _ _ _ hrow5
  refine (clone_slc _ _ _ _ ((h.embed.alloc _).row t M.width hrow5) (by omega)).mono ?_
  rintro e w1 ⟨v, rfl, hown, hb1⟩
  rw [hl5'] at hown
  obtain ⟨g, cap, rfl, hcap1, hcap2, hg1, hg2⟩ := hown.form (by omega)
  have h1 := (h.alloc _).fresh hb1
  have k1 := (Blk.new w 35 _).below hb1 (by simp)
  have b1 : Below w.heap.size w w1 := ((Below.refl _ _).alloc (Nat.le_refl _) _).trans (hb1.mono (by simp))
  clear hb1
  have z1 := k1.lt
  have q1 := k1.cell
  obtain ⟨A6, c6, rfl⟩ := h1.place.len
  have e0 : (0 : Int) ≤ i % tp := Int.emod_nonneg _ (by omega)
  have hrow6 : (i % tp + 1) * M.width ≤ M.place.length := by rw [HP3.out]; exact Nat.mul_le_mul_right _ (Nat.mod_lt _ hp1)
  have hmod : i % tp ≤ 65536 := by have := Nat.mod_lt i (show tp > 0 by omega); omega
  have hp0 : ¬ tp = 0 := by omega
  have HC : RowKit.Hid ((i : Int).tmod tp = ((i % tp : Nat) : Int)) := by show _ = _; rw [Int.tmod_eq_emod_of_nonneg (by omega)]; simp
  have hl6' := rowF_length _ _ _ hrow6
  have hy := h1.place.row (i % tp) M.width hrow6
  obtain ⟨B, b, HB⟩ := hy.len
  rw [hl6'] at HB
  have HR : RowKit.Hid (∀ (n : Nat) (x : Int), x = ((i % tp : Nat) : Int) → Calls Tryz.prog 63 #[.slice A6 M.place.length c6, .int .i64 x, .int .i64 M.width] (w1.drewN n) fun e w' => e = .returned (.slice B M.width b) ∧ w1.drewN n = w') := by
    intro n x hx
    rw [hx, ← HB]
    exact row_any _ T _ M.place (i % tp) M.width (h1.place.drewN _) hrow6 (by omega) hmod (by omega)
  rw [HB] at hy
  clear HB
  go_wp2_with fail
  go_quiet ((first
    | (go_at_call 64; exact quiet_left (rows_ok _ _ _ _ tp _ (by omega) (by omega) HP3.out (by omega)))
    | (go_at_call 63; exact quiet_left (HR.out _ _ (by first | exact HC.out | simp)))))
  go_wp2_with fail
  have hx := rowF_length _ _ _ hrow5
  have k1' := k1.drewN nq
  have hbo := hown.drewN nq
  have hyd := hy.drewN nq
  have bd : Below w.heap.size w (w1.drewN nq) := b1.trans ⟨rfl, rfl, rfl, Nat.le_refl _, fun _ _ => rfl⟩
  generalize w1.drewN nq = w2 at *
  have hown2 : Own w2 (fun g => w.heap.size < g) 3 1 (.slice (some ⟨g, 0, none⟩) M.width cap) M.width (ints (rowF M.embed t M.width)) := hbo.more fun g _ hg => by simp at hg; omega
  have hly : (rowF M.place (i % tp) M.width).length = M.width := hl6'
  clear hown hbo k1 q1 b1 h1 hy hl5' hl6' HR
  obtain ⟨X, hX⟩ : ∃ X, X = rowF M.embed t M.width := ⟨_, rfl⟩
  obtain ⟨Y, hY⟩ : ∃ Y, Y = rowF M.place (i % tp) M.width := ⟨_, rfl⟩
  rw [← hX] at hown2 hx
  rw [← hY] at hyd hly
  have HX := Lib.hid hX
  have HY := Lib.hid hY
  clear hX hY
  have HXL := Lib.hid hx
  have HYL := Lib.hid hly
  clear hx hly
  go_loopw [33] (fun i wr => ∃ k : Nat, k ≤ M.width ∧ i = .int .i64 k ∧ Own wr (fun g => w.heap.size < g) 3 1 (.slice (some ⟨g, 0, none⟩) M.width cap) M.width (ints (addRow (X.take k) (Y.take k) ++ X.drop k)) ∧ Below w.heap.size w2 wr ∧ Blk wr w.heap.size 35 #[.int .i64 M.kind, .int .i64 M.vocab, .int .i64 M.width, .int .i64 M.top, v4, v5, .slice A6 M.place.length c6, v7, v8, v9, v10]) (fun i _ => M.width - (intOf i).toNat)
  case atStart => exact ⟨0, Nat.zero_le _, rfl, by simpa [addRow] using hown2, Below.refl _ _, k1'⟩
  obtain ⟨k, hk, rfl, ho, hb, hbx⟩ := hrel
  by_cases hlt : k < M.width
  · have hyr := hyd.below hb hTlt
    obtain ⟨hnn, ad, rfl, hcy⟩ := hyr.at_ k (by rw [HYL.out]; exact hlt)
    have hcx := ho.get k hlt
    have hfx := ho.unfrozen k
    rw [addRow_get X Y k (by rw [HXL.out]; exact hlt) (by rw [HYL.out]; exact hlt)] at hcx
    obtain ⟨x', hx'⟩ : ∃ x', x' = X[k]'(by rw [HXL.out]; exact hlt) := ⟨_, rfl⟩
    obtain ⟨y', hy'⟩ : ∃ y', y' = Y[k]'(by rw [HYL.out]; exact hlt) := ⟨_, rfl⟩
    rw [← hx'] at hcx
    rw [← hy'] at hcy
    have HS := Lib.hid (addRow_step X Y k (by rw [HXL.out]; exact hlt) (by rw [HYL.out]; exact hlt))
    have HX' := Lib.hid hx'
    have HY' := Lib.hid hy'
    clear hx' hy' hnn
    go_wp2_with (go_at_call 65; refine (wrap_any _ _).mono ?_; rintro e w' ⟨rfl, rfl⟩)
    go_roundw
    case rel =>
      refine ⟨k + 1, by omega, by go_num, ?_, hb.setCell (by have := hown2.2 g rfl; simp; omega) _, hbx.far (by have := hown2.2 g rfl; simp at this ⊢; omega) _⟩
      rw [← HS.out, ← HX'.out, ← HY'.out, wr_wrap64]
      have := ho.set k hlt (.int .i64 (Go.Proofs.YtempdomhbfokmaaGreatDoor.wr (x' + y')))
      simpa [ints, List.map_set] using this
    case measure => simp [intOf]; omega
  · obtain rfl : k = M.width := by omega
    have hxx : addRow (X.take M.width) (Y.take M.width) ++ X.drop M.width = M.x t i := by
      rw [List.take_of_length_le (by rw [HXL.out]; exact Nat.le_refl _), List.take_of_length_le (by rw [HYL.out]; exact Nat.le_refl _), List.drop_of_length_le (by rw [HXL.out]; exact Nat.le_refl _), List.append_nil, HX.out, HY.out]
      unfold Model.x Model.rows
      rw [HP3.out, Nat.mul_div_cancel _ (by omega)]
    rw [hxx] at ho
    have b3 : Below w.heap.size w wr := bd.trans hb
    clear hxx hb bd k1' hown2 HX HY HXL HYL hyd hrow5 hrow6 HC
    have q3 := hbx.cell
    by_cases hkind : M.kind = 1
    · have hlx : (M.x t i).length = M.width := by have := ho.length; rw [ints_length] at this; omega
      have hxw : inRange (-2147483648) 2147483647 (M.x t i) := by
        intro z hz
        unfold Model.x addRow at hz
        obtain ⟨n, hn, rfl⟩ := List.getElem_of_mem hz
        rw [List.getElem_zipWith]
        exact wr_range _
      have hmix := hM.attend hkind
      rw [Nat.mul_assoc] at hmix
      have hb7 := mul_bounds _ _ _ _ hw2 hw2
      have hm3 := (h.below b3 hTlt).old
      have hx3 := ho.slc.old
      have hcut : 0 < M.cuts.length := by have := hM.lcuts; omega
      obtain ⟨A4, c4, rfl⟩ := h.cuts.len
      obtain ⟨-, ad4, rfl, hc4⟩ := hm3.cuts.at_ 0 hcut
      obtain ⟨cu1, cu2⟩ := hM.cuts _ (List.getElem_mem hcut)
      have hcutE : M.cuts[0] = M.cut 0 := by simp [Model.cut, List.getD, hcut]
      rw [hcutE] at hc4 cu1 cu2
      rw [show ad4.add 0 = ad4 from by simp [Addr.add]] at hc4
      have hcl := hM.lcuts
      have HE : RowKit.Hid (M.entry t i = (List.range 3).flatMap (M.ent t i)) := by show _ = _; unfold Model.entry; rw [if_pos hkind]; rfl
      have HK := Lib.hid hkind
      have HML := Lib.hid hmix
      have HLX := Lib.hid hlx
      have hz3 := b3.size
      have hg3 : g < wr.heap.size := ho.lt rfl
      have hbx3 := hbx.lt
      have hk' : (M.kind != 1) = false := by simpa using hkind
      clear hkind hmix hlx hcutE h e0 hmod hp0
      obtain ⟨w3, rfl⟩ : ∃ w3 : World, w3 = wr := ⟨_, rfl⟩
      go_wp2_with fail
      go_loopw [11, 53] (fun v i' wr => ∃ k : Nat, k ≤ 3 ∧ i' = .int .i64 k ∧ Own wr (fun g => w3.heap.size ≤ g) 3 1 v (k * M.width) (ints ((List.range k).flatMap (M.ent t i))) ∧ Below w3.heap.size w3 wr) (fun _ i' _ => 3 - (intOf i').toNat)
      case atStart => exact ⟨0, by omega, rfl, by simpa [ints] using Own.nil_ w3 (fun g => w3.heap.size ≤ g) 3 1, Below.refl _ _⟩
      obtain ⟨k, hk, rfl, ho1, hb1⟩ := hrel
      by_cases hlt1 : k < 3
      · obtain ⟨wo, rfl⟩ : ∃ wo : World, wo = wr := ⟨_, rfl⟩
        go_wp2_with fail
        go_loopw [11, 57] (fun v o' wr => ∃ o : Nat, o ≤ M.width ∧ o' = .int .i64 o ∧ Own wr (fun g => w3.heap.size ≤ g) 3 1 v (k * M.width + o) (ints ((List.range k).flatMap (M.ent t i) ++ (List.range o).map fun o => shiftF (dotF (rowF (M.matrix k) o M.width) (M.x t i)) (M.cut 0))) ∧ Below w3.heap.size w3 wr) (fun _ o' _ => M.width - (intOf o').toNat)
        case atStart => exact ⟨0, by omega, rfl, by simpa using ho1, hb1⟩
        obtain ⟨o, ho', rfl, ho2, hb2⟩ := hrel
        by_cases hlt2 : o < M.width
        · have hmr := hm3.below hb2 (fun _ h => h)
          have hxr := hx3.below hb2 (fun _ h => h)
          have hbr := hbx.below hb2 hbx3
          have hlt4 : ad4.block < w3.heap.size := by
            rcases Nat.lt_or_ge ad4.block w3.heap.size with h | h
            · exact h
            · simp [World.cell?, Array.getElem?_eq_none h] at hc4
          have hkw : k * M.width + o ≤ 1000 := by
            have := mul_bounds _ _ _ _ (show k ≤ 2 by omega) hw2
            omega
          have hne4 : u11.ownBlock ≠ some ad4.block := fun e => by have := ho2.2 _ e; simp at this; omega
          go_wp2_with fail
          refine entry_r17 wr _ M ad4 c4 v5 _ v7 v8 v9 v10 hmr hM HK.out t i k o w.heap.size hlt1 hlt2 _ hxr HLX.out hxw _ _ _ _ ho2 hkw hne4 hbr _ _ _ _ _ _ _ _ _ _ _ _ _ _ _ _ _ _ _ _ _ _ _ _ _ _ _ _ _ _ _ _ _ _ _ _ _ _ _ _ _ _ _ _ _ _ _ _ _ _ _ _ _ _ _ _ _ _ _ _ _ _ _ _ _ _ _ _ _ _ _ _ _  _ ?_
          intro v' w' y60 y61 y62 y63 y64 y65 y66 y67 y68 y69 y70 y71 y72 y73 y74 y75 hov hgv
          go_wp2_with fail
          go_roundw
          case rel =>
            refine ⟨o + 1, by omega, by go_num, ?_, ⟨hgv.os.trans hb2.os, hgv.tape.trans hb2.tape, hgv.output.trans hb2.output, Nat.le_trans hb2.size hgv.size, fun q hq => (hgv.block q (Nat.lt_of_lt_of_le hq hb2.size) (fun e => by have := ho2.2 _ e.symm; simp at this; omega)).trans (hb2.block q hq)⟩⟩
            have hz := hb2.size
            have hov' := hov.more (T' := fun g => w3.heap.size ≤ g) fun g _ hg => by rcases hg with hg | hg <;> omega
            rw [range_map_succ, ← List.append_assoc]
            simpa [ints, Nat.add_assoc] using hov'
          case measure => simp [intOf]; omega
        · obtain rfl : o = M.width := by omega
          go_wp2_with fail
          go_roundw
          case rel =>
            refine ⟨k + 1, by omega, by go_num, ?_, hb2⟩
            rw [range_flat_succ, Nat.add_mul, Nat.one_mul]
            exact ho2
          case measure => simp [intOf]; omega
      · obtain rfl : k = 3 := by omega
        go_wp2_with fail
        go_ret
        refine ⟨_, rfl, ?_, b3.trans (hb1.mono hz3)⟩
        rw [HE.out, ent_flat_length]
        exact ho1.more fun g _ hg => by omega
    · have hk' : (M.kind != 1) = true := by simpa using hkind
      have HE : RowKit.Hid (M.entry t i = M.x t i) := by show _ = _; unfold Model.entry; rw [if_neg hkind]
      have hlen := ho.length
      rw [ints_length, Nat.mul_one] at hlen
      have HL := Lib.hid hlen
      clear hkind hlen
      go_wp2_with fail
      go_ret
      refine ⟨_, rfl, ?_, b3⟩
      rw [HE.out, HL.out]
      exact ho.more fun g _ hg => by omega
end Go.Proofs.YtempdomhbfokmaaGreatDoor

namespace Go.Proofs.YtempdomhbfokmaaGreatDoor
section
variable {α : Type}

/-- the element at j moves down while it is less than the one before it -/
def insDown (lt : α → α → Bool) : Nat → List α → List α
  | 0, xs => xs
  | j + 1, xs => match xs[j + 1]?, xs[j]? with
    | some a, some b => if lt a b then insDown lt j ((xs.set (j + 1) b).set j a) else xs
    | _, _ => xs
/-- the first k elements sorted -/
def isortTo (lt : α → α → Bool) (xs : List α) : Nat → List α
  | 0 => xs
  | k + 1 => insDown lt k (isortTo lt xs k)
def isort (lt : α → α → Bool) (xs : List α) : List α := isortTo lt xs xs.length

theorem insDown_length (lt : α → α → Bool) (j : Nat) : ∀ xs : List α, (insDown lt j xs).length = xs.length := by
  induction j with
  | zero => exact fun _ => rfl
  | succ j ih =>
    intro xs
    unfold insDown
    split
    · split
      · rw [ih]; simp
      · rfl
    · rfl
theorem isortTo_length (lt : α → α → Bool) (xs : List α) (k : Nat) : (isortTo lt xs k).length = xs.length := by
  induction k with
  | zero => rfl
  | succ k ih => rw [isortTo, insDown_length, ih]
theorem insDown_stop (lt : α → α → Bool) (j : Nat) (xs : List α) (a b : α) (ha : xs[j + 1]? = some a) (hb : xs[j]? = some b) (h : lt a b = false) : insDown lt (j + 1) xs = xs := by
  simp [insDown, ha, hb, h]
theorem insDown_go (lt : α → α → Bool) (j : Nat) (xs : List α) (a b : α) (ha : xs[j + 1]? = some a) (hb : xs[j]? = some b) (h : lt a b = true) : insDown lt (j + 1) xs = insDown lt j ((xs.set (j + 1) b).set j a) := by
  simp [insDown, ha, hb, h]
theorem mem_swap {xs : List α} {j : Nat} {a b : α} (ha : xs[j + 1]? = some a) (hb : xs[j]? = some b) : ∀ x ∈ (xs.set (j + 1) b).set j a, x ∈ xs := by
  intro x hx
  rcases List.mem_or_eq_of_mem_set hx with hx | rfl
  · rcases List.mem_or_eq_of_mem_set hx with hx | rfl
    · exact hx
    · exact List.mem_of_getElem? hb
  · exact List.mem_of_getElem? ha
theorem insDown_mem (lt : α → α → Bool) (j : Nat) : ∀ xs : List α, ∀ x ∈ insDown lt j xs, x ∈ xs := by
  induction j with
  | zero => exact fun _ _ h => h
  | succ j ih =>
    intro xs x hx
    unfold insDown at hx
    split at hx
    · rename_i a b ha hb
      split at hx
      · exact mem_swap ha hb x (ih _ _ hx)
      · exact hx
    · exact hx
theorem isortTo_mem (lt : α → α → Bool) (xs : List α) (k : Nat) : ∀ x ∈ isortTo lt xs k, x ∈ xs := by
  induction k with
  | zero => exact fun _ h => h
  | succ k ih => exact fun x hx => ih x (insDown_mem lt k _ x hx)

theorem split_two {xs : List α} {j : Nat} {a b : α} (ha : xs[j + 1]? = some a) (hb : xs[j]? = some b) : xs = xs.take j ++ b :: a :: xs.drop (j + 2) := by
  obtain ⟨h1, e1⟩ := List.getElem?_eq_some_iff.1 ha
  obtain ⟨h0, e0⟩ := List.getElem?_eq_some_iff.1 hb
  have d1 : xs.drop (j + 1) = a :: xs.drop (j + 2) := by rw [List.drop_eq_getElem_cons h1, e1]
  have d0 : xs.drop j = b :: xs.drop (j + 1) := by rw [List.drop_eq_getElem_cons h0, e0]
  rw [← d1, ← d0, List.take_append_drop]
theorem swap_two {xs : List α} {j : Nat} {a b : α} (ha : xs[j + 1]? = some a) (hb : xs[j]? = some b) : (xs.set (j + 1) b).set j a = xs.take j ++ a :: b :: xs.drop (j + 2) := by
  obtain ⟨h1, e1⟩ := List.getElem?_eq_some_iff.1 ha
  apply List.ext_getElem?
  intro i
  have hl : (xs.take j).length = j := by simp; omega
  rcases Nat.lt_or_ge i j with h | h
  · rw [List.getElem?_set_ne (by omega), List.getElem?_set_ne (by omega), List.getElem?_append_left (by omega), List.getElem?_take_of_lt h]
  · rw [List.getElem?_append_right (by omega), hl]
    obtain ⟨k, rfl⟩ := Nat.exists_eq_add_of_le h
    rw [show j + k - j = k from by omega]
    match k with
    | 0 => simp [show j < xs.length by omega]
    | 1 => simp [h1]
    | k + 2 => simp only [List.getElem?_cons_succ, List.getElem?_drop]; rw [List.getElem?_set_ne (by omega), List.getElem?_set_ne (by omega)]; congr 1; omega
theorem swap_perm {xs : List α} {j : Nat} {a b : α} (ha : xs[j + 1]? = some a) (hb : xs[j]? = some b) : ((xs.set (j + 1) b).set j a).Perm xs := by
  rw [swap_two ha hb]
  conv => rhs; rw [split_two ha hb]
  exact List.Perm.append_left _ (List.Perm.swap _ _ _)
theorem insDown_perm (lt : α → α → Bool) (j : Nat) : ∀ xs : List α, (insDown lt j xs).Perm xs := by
  induction j with
  | zero => exact fun _ => List.Perm.refl _
  | succ j ih =>
    intro xs
    unfold insDown
    split
    · rename_i a b ha hb
      split
      · exact (ih _).trans (swap_perm ha hb)
      · exact List.Perm.refl _
    · exact List.Perm.refl _
theorem isortTo_perm (lt : α → α → Bool) (xs : List α) (k : Nat) : (isortTo lt xs k).Perm xs := by
  induction k with
  | zero => exact List.Perm.refl _
  | succ k ih => exact (insDown_perm lt k _).trans ih
theorem isort_perm (lt : α → α → Bool) (xs : List α) : (isort lt xs).Perm xs := isortTo_perm lt xs _

/-- all pairs below K are in order, but those whose second is at m -/
def Almost (lt : α → α → Bool) (m K : Nat) (D : List α) : Prop := ∀ i j, i < j → j < K → j ≠ m → ∀ a b, D[i]? = some a → D[j]? = some b → lt b a = false
def SortedTo (lt : α → α → Bool) (K : Nat) (D : List α) : Prop := ∀ i j, i < j → j < K → ∀ a b, D[i]? = some a → D[j]? = some b → lt b a = false
theorem insDown_sorted (lt : α → α → Bool) (asym : ∀ a b, lt a b = true → lt b a = false) (ntr : ∀ a b c, lt b a = false → lt c b = false → lt c a = false) (K : Nat) (m : Nat) :
    ∀ D : List α, Almost lt m K D → m < D.length → SortedTo lt K (insDown lt m D) := by
  induction m with
  | zero => exact fun D h _ i j hij hj a b ha hb => h i j hij hj (by omega) a b ha hb
  | succ m ih =>
    intro D h hm
    have h1 : D[m + 1]? = some D[m + 1] := List.getElem?_eq_getElem hm
    have h0 : D[m]? = some (D[m]'(by omega)) := List.getElem?_eq_getElem (by omega)
    generalize D[m + 1] = x at h1
    generalize D[m]'(by omega) = y at h0
    by_cases hl : lt x y = true
    · rw [insDown_go lt m D x y h1 h0 hl]
      refine ih _ ?_ (by simp; omega)
      intro i j hij hj hjm a b ha hb
      have gj : ∀ t, t ≠ m → t ≠ m + 1 → ((D.set (m + 1) y).set m x)[t]? = D[t]? := fun t h1 h2 => by rw [List.getElem?_set_ne (by omega), List.getElem?_set_ne (by omega)]
      have g1 : ((D.set (m + 1) y).set m x)[m + 1]? = some y := by rw [List.getElem?_set_ne (by omega), List.getElem?_set_self (by omega)]
      have g0 : ((D.set (m + 1) y).set m x)[m]? = some x := by rw [List.getElem?_set_self (by simp; omega)]
      by_cases j1 : j = m + 1
      · subst j1
        rw [g1] at hb
        injection hb with hb
        subst hb
        by_cases i0 : i = m
        · subst i0
          rw [g0] at ha
          injection ha with ha
          subst ha
          exact asym _ _ hl
        · rw [gj i i0 (by omega)] at ha
          exact h i m (by omega) (by omega) (by omega) a y ha h0
      · rw [gj j hjm j1] at hb
        by_cases i0 : i = m
        · subst i0
          rw [g0] at ha
          injection ha with ha
          subst ha
          exact h (i + 1) j (by omega) hj j1 _ b h1 hb
        · by_cases i1 : i = m + 1
          · subst i1
            rw [g1] at ha
            injection ha with ha
            subst ha
            exact h m j (by omega) hj j1 _ b h0 hb
          · rw [gj i i0 i1] at ha
            exact h i j hij hj j1 a b ha hb
    · rw [insDown_stop lt m D x y h1 h0 (by simpa using hl)]
      intro i j hij hj a b ha hb
      by_cases j1 : j = m + 1
      · subst j1
        rw [h1] at hb
        injection hb with hb
        subst hb
        by_cases i0 : i = m
        · subst i0
          rw [h0] at ha
          injection ha with ha
          subst ha
          simpa using hl
        · exact ntr a y x (h i m (by omega) (by omega) (by omega) a y ha h0) (by simpa using hl)
      · exact h i j hij hj j1 a b ha hb
theorem isortTo_sorted (lt : α → α → Bool) (asym : ∀ a b, lt a b = true → lt b a = false) (ntr : ∀ a b c, lt b a = false → lt c b = false → lt c a = false) (xs : List α) (k : Nat) (hk : k ≤ xs.length) :
    SortedTo lt k (isortTo lt xs k) := by
  induction k with
  | zero => exact fun i j _ hj => by omega
  | succ k ih =>
    rw [isortTo]
    refine insDown_sorted lt asym ntr (k + 1) k _ ?_ (by rw [isortTo_length]; omega)
    intro i j hij hj hjk a b ha hb
    exact ih (by omega) i j hij (by omega) a b ha hb
theorem isort_sorted (lt : α → α → Bool) (asym : ∀ a b, lt a b = true → lt b a = false) (ntr : ∀ a b c, lt b a = false → lt c b = false → lt c a = false) (xs : List α) : SortedTo lt xs.length (isort lt xs) :=
  isortTo_sorted lt asym ntr xs _ (Nat.le_refl _)
end
end Go.Proofs.YtempdomhbfokmaaGreatDoor

namespace Go.Proofs.YtempdomhbfokmaaGreatDoor
open Go.RowKit

section
set_option maxRecDepth 100000 in
set_option maxHeartbeats 1000000 in
/-- insertionSortCmpFunc over a row of the caller's own. -/
theorem ins_ints (w : World) (T : Nat → Prop) (g cap n : Nat) (xs : List Int) (h : Own w T 3 1 (.slice (some ⟨g, 0, none⟩) n cap) n (xs.map fun z => .int .i64 z)) (hn : n ≤ 1000000) (cs : Array Value)
    (cf : Int → Int → Int) (Inv : World → Prop) (h0 : Inv w)
    (hI1 : ∀ W W', Inv W → Below W.heap.size W W' → Inv W') (hI2 : ∀ W j u, Inv W → Inv (W.setCell ⟨g, j, none⟩ u))
    (hcmp : ∀ W x y, Inv W → x ∈ xs → y ∈ xs → Calls Tryz.prog 129 (#[.int .i64 x, .int .i64 y] ++ cs) W fun e W' => e = .returned (.int .i64 (cf x y)) ∧ Below W.heap.size W W') :
    Calls Tryz.prog 217 #[.slice (some ⟨g, 0, none⟩) n cap, .int .i64 0, .int .i64 n, .func (.func 129) #[] cs] w fun e w' => e = .returned (.tuple #[]) ∧
      Own w' T 3 1 (.slice (some ⟨g, 0, none⟩) n cap) n ((isort (fun a b => decide (cf a b < 0)) xs).map fun z => .int .i64 z) ∧ Keeps (· = g) w w' ∧ Inv w' := by
  have hlen : xs.length = n := by have := h.length; simp at this; omega
  have HL := Lib.hid hlen
  have HC := Lib.hid hcmp
  have H1 := Lib.hid hI1
  have H2 := Lib.hid hI2
  have hgT : g < w.heap.size := h.lt rfl
  clear hlen hcmp hI1 hI2
  go_enter Tryz.func217, Tryz.ntmps217
  go_wp2_with fail
  go_loopw [8] (fun i wr => ∃ k : Nat, 1 ≤ k ∧ (k ≤ n ∨ k = 1) ∧ i = .int .i64 k ∧ Own wr T 3 1 (.slice (some ⟨g, 0, none⟩) n cap) n ((isortTo (fun a b => decide (cf a b < 0)) xs k).map fun z => .int .i64 z) ∧ Keeps (· = g) w wr ∧ Inv wr) (fun i _ => n - (intOf i).toNat)
  case atStart => exact ⟨1, by omega, .inr rfl, rfl, h, Keeps.refl _ _, h0⟩
  obtain ⟨k, hk1, hk2, rfl, ho, hkp, hi⟩ := hrel
  by_cases hlt : k < n
  · go_wp2_with fail
    obtain ⟨wo, rfl⟩ : ∃ wo : World, wo = wr := ⟨_, rfl⟩
    go_loopw [9] (fun j wr => ∃ (m : Nat) (D : List Int), m ≤ k ∧ j = .int .i64 m ∧ Own wr T 3 1 (.slice (some ⟨g, 0, none⟩) n cap) n (D.map fun z => .int .i64 z) ∧ (∀ x ∈ D, x ∈ xs) ∧ Hid (insDown (fun a b => decide (cf a b < 0)) m D = isortTo (fun a b => decide (cf a b < 0)) xs (k + 1)) ∧ Keeps (· = g) w wr ∧ Inv wr) (fun j _ => (intOf j).toNat)
    case atStart => exact ⟨k, _, Nat.le_refl _, rfl, ho, isortTo_mem _ _ _, by show _ = _; rw [isortTo], hkp, hi⟩
    obtain ⟨m, D, hm, rfl, ho2, hD, HD, hkp2, hi2⟩ := hrel
    have HDm := Lib.hid hD
    clear hD
    cases m with
    | zero =>
      go_wp2_with fail
      go_quiet (fail)
      go_wp2_with fail
      go_roundw
      case rel =>
        have e := HD.out
        simp only [insDown] at e
        exact ⟨k + 1, by omega, .inl (by omega), by go_num, e ▸ ho2.drewN _, hkp2.drewN _, H1.out _ _ hi2 ⟨rfl, rfl, rfl, Nat.le_refl _, fun _ _ => rfl⟩⟩
      case measure => simp [intOf]; omega
    | succ m =>
      have hDl : D.length = n := by have := ho2.length; simp at this; omega
      have hc1 := ho2.get (m + 1) (by omega)
      have hc0 := ho2.get m (by omega)
      have hgr : g < wr.heap.size := ho2.lt rfl
      obtain ⟨x1, hx1⟩ : ∃ x1, D[m + 1]? = some x1 := ⟨_, List.getElem?_eq_getElem (by omega)⟩
      obtain ⟨x0, hx0⟩ : ∃ x0, D[m]? = some x0 := ⟨_, List.getElem?_eq_getElem (by omega)⟩
      rw [List.getElem?_map, hx1] at hc1
      rw [List.getElem?_map, hx0] at hc0
      simp only [Option.map_some] at hc1 hc0
      have m1 := HDm.out _ (List.mem_of_getElem? hx1)
      have m0 := HDm.out _ (List.mem_of_getElem? hx0)
      have HX1 := Lib.hid hx1
      have HX0 := Lib.hid hx0
      clear hx1 hx0 hDl
      have HS := fun W => HC.out W x1 x0
      have HK := Lib.hid (fun W hW => HS W hW m1 m0)
      clear HS m1 m0
      have b1 : (0 : Int) ≤ (m : Int) + 1 := by omega
      have b2 : (m : Int) + 1 < n := by omega
      have b3 : (0 : Int) ≤ m := by omega
      have b4 : (m : Int) < n := by omega
      have b5 : IntKind.i64.wrap ((m : Int) + 1 - 1) = m := by rw [IntKind.wrap_i64]; omega
      have b6 : IntKind.i64.wrap (m : Int) = m := by rw [IntKind.wrap_i64]; omega
      by_cases hless : cf x1 x0 < 0
      · go_wp2_with fail
        go_region_held3 (fun w' => w'.cell? ⟨g, m + 1, none⟩ = some (.int .i64 x1) ∧ w'.cell? ⟨g, m, none⟩ = some (.int .i64 x0)) (go_keep) ((go_at_call 129; refine (HK.out _ (H1.out wr wr.drew hi2 ⟨rfl, rfl, rfl, Nat.le_refl _, fun _ _ => rfl⟩)).mono ?_; rintro e W1 ⟨rfl, hbW⟩; have e1 := hbW.cell (p := ⟨g, m + 1, none⟩) hgr; have e0 := hbW.cell (p := ⟨g, m, none⟩) hgr))
        have ho3 := ho2.drew.fresh hbW
        have hkp3 := hkp2.drew.fresh hbW
        have hi3 := H1.out _ _ (H1.out wr wr.drew hi2 ⟨rfl, rfl, rfl, Nat.le_refl _, fun _ _ => rfl⟩) hbW
        have hf1 := ho3.unfrozen (m + 1)
        have hf0 := ho3.unfrozen m
        have d1 : W1.cell? ⟨g, m + 1, none⟩ = some (.int .i64 x1) := by rw [e1]; exact hc1
        have d0 : W1.cell? ⟨g, m, none⟩ = some (.int .i64 x0) := by rw [e0]; exact hc0
        clear hc1 hc0 e1 e0 hbW
        go_wp2_with fail
        go_region
        go_wp2_with fail
        go_roundw
        case rel =>
          refine ⟨m, (D.set (m + 1) x0).set m x1, by omega, rfl, ?_, fun x hx => HDm.out x (mem_swap HX1.out HX0.out x hx), ?_, (Keeps.setCell (Keeps.setCell hkp3 (fun _ => rfl) _) (fun _ => rfl) _).drew, H1.out _ _ (H2.out _ _ _ (H2.out _ _ _ hi3)) ⟨rfl, rfl, rfl, Nat.le_refl _, fun _ _ => rfl⟩⟩
          · have := ((ho3.set (m + 1) (by omega) (.int .i64 x0)).set m (by omega) (.int .i64 x1)).drew
            simpa [List.map_set] using this
          · show _ = _
            rw [← HD.out, insDown_go _ m D x1 x0 HX1.out HX0.out (by simpa using hless)]
        case measure => simp [intOf]
      · go_wp2_with fail
        go_region_held3 (fun w' => w'.cell? ⟨g, m + 1, none⟩ = some (.int .i64 x1) ∧ w'.cell? ⟨g, m, none⟩ = some (.int .i64 x0)) (go_keep) ((go_at_call 129; refine (HK.out _ (H1.out wr wr.drew hi2 ⟨rfl, rfl, rfl, Nat.le_refl _, fun _ _ => rfl⟩)).mono ?_; rintro e W1 ⟨rfl, hbW⟩; have e1 := hbW.cell (p := ⟨g, m + 1, none⟩) hgr; have e0 := hbW.cell (p := ⟨g, m, none⟩) hgr))
        have ho3 := ho2.drew.fresh hbW
        have hkp3 := hkp2.drew.fresh hbW
        have hi3 := H1.out _ _ (H1.out wr wr.drew hi2 ⟨rfl, rfl, rfl, Nat.le_refl _, fun _ _ => rfl⟩) hbW
        clear hc1 hc0 e1 e0 hbW
        go_wp2_with fail
        go_roundw
        case rel =>
          have e := HD.out
          rw [insDown_stop _ m D x1 x0 HX1.out HX0.out (by simpa using hless)] at e
          exact ⟨k + 1, by omega, .inl (by omega), by go_num, e ▸ ho3, hkp3, hi3⟩
        case measure => simp [intOf]; omega
  · go_wp2_with fail
    go_end0
    by_cases hkn : k = n
    · subst hkn
      exact ⟨rfl, by rw [isort, HL.out]; exact ho, hkp, hi⟩
    · have hn0 : n = 0 := by omega
      have hx0 : xs = [] := List.eq_nil_of_length_eq_zero (by rw [HL.out]; exact hn0)
      have hk : k = 1 := by omega
      subst hk hx0
      exact ⟨rfl, ho, hkp, hi⟩
end

end Go.Proofs.YtempdomhbfokmaaGreatDoor

namespace Go.Proofs.YtempdomhbfokmaaGreatDoor
open Go.RowKit

def cmpI (x y : Int) : Int := if x < y then -1 else if y < x then 1 else 0

set_option maxHeartbeats 400000 in
theorem compare_any (x y : Int) (w : World) : Calls Tryz.prog 130 #[.int .i64 x, .int .i64 y] w fun e w' => e = .returned (.int .i64 (cmpI x y)) ∧ w = w' := by
  unfold cmpI
  by_cases h1 : x < y
  · rw [if_pos h1]
    go_enter Tryz.func130, Tryz.ntmps130
    go_wp2
    go_ret
    exact ⟨rfl, rfl⟩
  · rw [if_neg h1]
    by_cases h2 : y < x
    · rw [if_pos h2]
      go_enter Tryz.func130, Tryz.ntmps130
      go_wp2
      go_ret
      exact ⟨rfl, rfl⟩
    · rw [if_neg h2]
      go_enter Tryz.func130, Tryz.ntmps130
      go_wp2
      go_ret
      exact ⟨rfl, rfl⟩

def rankCmp (l : List Int) (a b : Int) : Int := cmpI (l.getD b.toNat 0) (l.getD a.toNat 0)
def order (n : Nat) : List Int := (List.range n).map Int.ofNat
def rankF (l : List Int) (k : Nat) : List Int := (isort (fun a b => decide (rankCmp l a b < 0)) (order l.length)).take k

set_option maxRecDepth 100000 in
set_option maxHeartbeats 1000000 in
theorem rank1_any (w : World) (T : Nat → Prop) (q : Nat) (v : Value) (l : List Int) (h : Slc w T v l) (hb : w.cell? ⟨q, 0, none⟩ = some v) (a b : Int) (ha : 0 ≤ a ∧ a < l.length) (hbb : 0 ≤ b ∧ b < l.length) :
    Calls Tryz.prog 129 #[.int .i64 a, .int .i64 b, .pointer (some ⟨q, 0, none⟩)] w fun e w' => e = .returned (.int .i64 (rankCmp l a b)) ∧ Below w.heap.size w w' := by
  obtain ⟨a, rfl⟩ := Int.eq_ofNat_of_zero_le ha.1
  obtain ⟨b, rfl⟩ := Int.eq_ofNat_of_zero_le hbb.1
  obtain ⟨A, c, rfl⟩ := h.len
  have hal : a < l.length := by omega
  have hbl : b < l.length := by omega
  obtain ⟨-, ad, rfl, ca⟩ := h.at_ a hal
  obtain ⟨-, ad', e, cb⟩ := h.at_ b hbl
  injection e with e
  subst e
  have ea : l[a] = l.getD a 0 := by simp [List.getD, hal]
  have eb : l[b] = l.getD b 0 := by simp [List.getD, hbl]
  unfold rankCmp
  rw [Int.toNat_natCast, Int.toNat_natCast]
  rw [ea] at ca
  rw [eb] at cb
  generalize l.getD a 0 = x at *
  generalize l.getD b 0 = y at *
  clear ea eb h
  obtain ⟨a1, a2⟩ := ha
  obtain ⟨b1, b2⟩ := hbb
  go_enter Tryz.func129, Tryz.ntmps129
  go_wp2_with fail
  go_quiet ((go_at_call 130; exact quiet_left (compare_any _ _ _)))
  go_wp2_with fail
  go_ret
  exact ⟨rfl, ⟨rfl, rfl, rfl, Nat.le_refl _, fun _ _ => rfl⟩⟩

set_option maxRecDepth 100000 in
set_option maxHeartbeats 1000000 in
theorem stable_small (w : World) (T : Nat → Prop) (g cap n : Nat) (xs : List Int) (h : Own w T 3 1 (.slice (some ⟨g, 0, none⟩) n cap) n (xs.map fun z => .int .i64 z)) (hn : n < 20) (cs : Array Value)
    (cf : Int → Int → Int) (Inv : World → Prop) (h0 : Inv w)
    (hI1 : ∀ W W', Inv W → Below W.heap.size W W' → Inv W') (hI2 : ∀ W j u, Inv W → Inv (W.setCell ⟨g, j, none⟩ u))
    (hcmp : ∀ W x y, Inv W → x ∈ xs → y ∈ xs → Calls Tryz.prog 129 (#[.int .i64 x, .int .i64 y] ++ cs) W fun e W' => e = .returned (.int .i64 (cf x y)) ∧ Below W.heap.size W W') :
    Calls Tryz.prog 171 #[.slice (some ⟨g, 0, none⟩) n cap, .int .i64 n, .func (.func 129) #[] cs] w fun e w' => e = .returned (.tuple #[]) ∧
      Own w' T 3 1 (.slice (some ⟨g, 0, none⟩) n cap) n ((isort (fun a b => decide (cf a b < 0)) xs).map fun z => .int .i64 z) ∧ Keeps (· = g) w w' ∧ Inv w' := by
  have hi := ins_ints w T g cap n xs h (by omega) cs cf Inv h0 hI1 hI2 hcmp
  have HI := Lib.hid hi
  clear hi hcmp hI1 hI2
  go_enter Tryz.func171, Tryz.ntmps171
  go_wp2_with fail
  refine wp_loop_rounds 1 ?_
  rw [rounds_succ]
  go_wp2_with fail
  refine HI.out.mono ?_
  rintro e w1 ⟨rfl, ho, hk, hinv⟩
  go_wp2_with fail
  refine wp_loop_rounds 1 ?_
  rw [rounds_succ]
  go_wp2_with fail
  go_end0
  exact ⟨rfl, ho, hk, hinv⟩

def ordTo (n j : Nat) : List Int := order j ++ List.replicate (n - j) 0
theorem ordTo_step (n j : Nat) (h : j < n) : (ordTo n j).set j (j : Int) = ordTo n (j + 1) := by
  unfold ordTo order
  rw [List.set_append_right _ _ (by simp), List.range_succ]
  simp only [List.length_map, List.length_range, Nat.sub_self, List.map_append, List.map_cons, List.map_nil, List.append_assoc]
  congr 1
  obtain ⟨m, hm⟩ : ∃ m, n - j = m + 1 := ⟨n - j - 1, by omega⟩
  rw [hm, List.replicate_succ, List.set_cons_zero, show n - (j + 1) = m from by omega]
  rfl
theorem ordTo_length (n j : Nat) (h : j ≤ n) : (ordTo n j).length = n := by simp [ordTo, order]; omega
theorem ordTo_full (n : Nat) : ordTo n n = order n := by simp [ordTo]
theorem order_mem {n : Nat} {x : Int} (h : x ∈ order n) : 0 ≤ x ∧ x < n := by
  obtain ⟨k, hk, rfl⟩ := List.mem_map.1 h
  simp at hk
  exact ⟨by simp, by simpa using hk⟩

set_option maxRecDepth 100000 in
set_option maxHeartbeats 1000000 in
theorem rank_any (w : World) (T : Nat → Prop) (v : Value) (l : List Int) (h : Slc w T v l) (hn : l.length < 20) (k : Nat) (hk : k ≤ l.length) :
    Calls Tryz.prog 94 #[v, .int .i64 k] w fun e w' => ∃ u, e = .returned u ∧ Slc w' (fun b => w.heap.size ≤ b) u (rankF l k) ∧ Below w.heap.size w w' := by
  obtain ⟨A, c, rfl⟩ := h.len
  go_enter Tryz.func94, Tryz.ntmps94
  go_wp2_with (at_make; refine wpList_make_ints _ rfl _ _ rfl _ _ l.length rfl rfl rfl rfl (by omega) ?_; intro w1 hown hb1 hz1)
  have ho0 : Own w1 (fun g => g = w.heap.size + 1) 3 1 (.slice (some ⟨w.heap.size + 1, 0, none⟩) l.length l.length) l.length (ints (ordTo l.length 0)) := by simpa [ordTo, order] using hown
  have hx1 := (h.old.alloc _).fresh hb1
  have hk1 := (Blk.new w 22 _).below hb1 (by simp)
  have b1 : Below w.heap.size w w1 := ((Below.refl _ _).alloc (Nat.le_refl _) _).trans (hb1.mono (by simp))
  clear hown hb1
  go_loopw [12] (fun i wr => ∃ j : Nat, j ≤ l.length ∧ i = .int .i64 j ∧ Own wr (fun g => g = w.heap.size + 1) 3 1 (.slice (some ⟨w.heap.size + 1, 0, none⟩) l.length l.length) l.length (ints (ordTo l.length j)) ∧ Keeps (· = w.heap.size + 1) w1 wr) (fun i _ => l.length - (intOf i).toNat)
  case atStart => exact ⟨0, Nat.zero_le _, rfl, ho0, Keeps.refl _ _⟩
  obtain ⟨j, hj, rfl, ho, hkp⟩ := hrel
  by_cases hlt : j < l.length
  · have hf := ho.unfrozen j
    have hc := ho.get j hlt
    rw [ints_get _ j (by rw [ordTo_length _ _ hj]; exact hlt)] at hc
    go_wp2_with fail
    go_roundw
    case rel =>
      refine ⟨j + 1, by omega, by go_num, ?_, Keeps.setCell hkp (fun _ => rfl) _⟩
      have := ho.set j hlt (.int .i64 j)
      rw [← ordTo_step _ _ hlt]
      simpa [ints, List.map_set] using this
    case measure => simp [intOf]; omega
  · obtain rfl : j = l.length := by omega
    rw [ordTo_full] at ho
    clear ho0
    have hG : w.heap.size + 1 < wr.heap.size := ho.lt rfl
    have hx2 : Slc wr (· < w.heap.size) (.slice A l.length c) l := hx1.keeps hkp (fun i hi => by omega)
    have hk2 : Blk wr w.heap.size 22 #[.slice A l.length c] := hkp.blk hk1 (by omega)
    have b2 : Below w.heap.size w wr := b1.trans ⟨hkp.os, hkp.tape, hkp.output, hkp.size, fun k hk => hkp.block k (by have := b1.size; omega) (by omega)⟩
    clear hx1 hk1 b1 hkp hlt
    have hs := stable_small wr (fun g => g = w.heap.size + 1) (w.heap.size + 1) l.length l.length (order l.length) ho hn #[.pointer (some ⟨w.heap.size, 0, none⟩)] (rankCmp l)
      (fun W => Blk W w.heap.size 22 #[.slice A l.length c] ∧ Slc W (· < w.heap.size) (.slice A l.length c) l ∧ w.heap.size + 1 < W.heap.size) ⟨hk2, hx2, hG⟩
      (fun W W' ⟨a1, a2, a3⟩ hb => ⟨a1.below hb (by omega), a2.fresh hb, Nat.lt_of_lt_of_le a3 hb.size⟩)
      (fun W j u ⟨a1, a2, a3⟩ => ⟨a1.far (by simp) u, a2.keeps (Keeps.setCell (Keeps.refl (· = w.heap.size + 1) W) (fun _ => rfl) u) (fun i hi => by omega), by simpa [World.setCell] using a3⟩)
      (fun W x y ⟨a1, a2, a3⟩ hx hy => rank1_any W _ _ _ l a2 (by simpa using a1.cell 0) x y (order_mem hx) (order_mem hy))
    have HS := Lib.hid hs
    clear hs hx2 hk2 h
    go_wp2_with (first | (go_at_call 171; refine HS.out.mono ?_; rintro e w3 ⟨rfl, ho3, hkp3, -, -, hz3⟩) | go_in)
    go_ret
    refine ⟨_, rfl, ?_, ?_⟩
    · have hl : (rankF l k).length = k := by simp [rankF, isort, isortTo_length, order]; omega
      refine ⟨some ⟨w.heap.size + 1, 0, none⟩, k, by rw [hl]; rfl, ?_, by omega, by unfold maxLen; omega, fun h => by cases h⟩
      have := (ho3.reads.take (k := k) hk).more (T' := fun b => w.heap.size ≤ b) fun b _ hb => by omega
      rw [hl]
      simpa [rankF, ints] using this
    · exact b2.trans ⟨hkp3.os, hkp3.tape, hkp3.output, hkp3.size, fun k hk => hkp3.block k (by omega) (by omega)⟩

def maxF : List Int → Int
  | [] => 0
  | x :: l => l.foldl max x
theorem maxF_take (l : List Int) (k : Nat) (h0 : 0 < k) (h : k < l.length) : maxF (l.take (k + 1)) = max (maxF (l.take k)) l[k] := by
  match l, h with
  | x :: l, h =>
    match k, h0 with
    | k + 1, _ =>
      simp only [List.take_succ_cons, maxF]
      rw [List.take_succ_eq_append_getElem (by simpa using h), List.foldl_append]
      rfl
theorem maxF_word (l : List Int) (hl : inRange (-2147483648) 2147483647 l) : word (maxF l) := by
  match l with
  | [] => exact ⟨by simp [maxF], by simp [maxF]⟩
  | x :: l =>
    have key : ∀ (l : List Int) (s : Int), word s → inRange (-2147483648) 2147483647 l → word (l.foldl max s) := by
      intro l
      induction l with
      | nil => exact fun s h _ => h
      | cons p l ih => exact fun s h h2 => ih _ (by have := h2 p (by simp); unfold word at *; omega) fun z hz => h2 z (by simp [hz])
    exact key l x (hl x (by simp)) fun z hz => hl z (by simp [hz])

set_option maxRecDepth 100000 in
set_option maxHeartbeats 1000000 in
theorem max_any (w : World) (T : Nat → Prop) (v : Value) (l : List Int) (h : Slc w T v l) (hn : l.length ≤ 1000000) (h0 : 0 < l.length) :
    Calls Tryz.prog 93 #[v] w fun e w' => e = .returned (.int .i64 (maxF l)) ∧ w = w' := by
  obtain ⟨A, c, rfl⟩ := h.len
  obtain ⟨-, ad, rfl, c0⟩ := h.at_ 0 h0
  rw [show ad.add 0 = ad from by simp [Addr.add]] at c0
  have e1 : RowKit.Hid (maxF (l.take 1) = l[0]) := by
    show _ = _
    match l, h0 with
    | x :: l, _ => simp [maxF]
  go_enter Tryz.func93, Tryz.ntmps93
  go_wp2_with fail
  go_loop [3, 4] (fun m i => ∃ k : Nat, 1 ≤ k ∧ k ≤ l.length ∧ i = .int .i64 k ∧ m = .int .i64 (maxF (l.take k))) (fun _ i => l.length - (intOf i).toNat)
  case atStart => exact ⟨1, by omega, by omega, rfl, by rw [e1.out]⟩
  obtain ⟨k, hk1, hk2, rfl, rfl⟩ := hrel
  by_cases hlt : k < l.length
  · obtain ⟨-, ad', e, ck⟩ := h.at_ k hlt
    injection e with e
    subst e
    have HM := Lib.hid (maxF_take l k (by omega) hlt)
    obtain ⟨x, hx⟩ : ∃ x, x = l[k] := ⟨_, rfl⟩
    rw [← hx] at ck HM
    clear hx
    go_wp2_with fail
    go_round
    case rel =>
      refine ⟨k + 1, by omega, by omega, by go_num, ?_⟩
      rw [HM.out]
      congr 1
      split <;> omega
    case measure => simp [intOf]; omega
  · obtain rfl : k = l.length := by omega
    have e2 : RowKit.Hid (maxF (l.take l.length) = maxF l) := by show _ = _; rw [List.take_length]
    go_wp2_with fail
    go_ret
    exact ⟨by rw [← e2.out]; rfl, rfl⟩
end Go.Proofs.YtempdomhbfokmaaGreatDoor

namespace Go.Proofs.YtempdomhbfokmaaGreatDoor
open Go.RowKit

def isum (l : List Int) : Int := l.foldl (· + ·) 0
theorem isum_from (l : List Int) : ∀ s : Int, l.foldl (· + ·) s = s + isum l := by
  induction l with
  | nil => intro s; simp [isum]
  | cons x l ih => intro s; simp only [isum, List.foldl_cons]; rw [ih, ih (0 + x)]; omega
theorem isum_cons (x : Int) (l : List Int) : isum (x :: l) = x + isum l := by
  rw [isum, List.foldl_cons, isum_from]; omega
theorem isum_take (l : List Int) (k : Nat) (h : k < l.length) : isum (l.take (k + 1)) = isum (l.take k) + l[k] := by
  rw [List.take_succ_eq_append_getElem h, isum, List.foldl_append]
  rfl
theorem isum_bounds (l : List Int) (m : Int) (h : inRange 0 m l) : 0 ≤ isum l ∧ isum l ≤ l.length * m := by
  induction l with
  | nil => simp [isum]
  | cons x l ih =>
    rw [isum_cons]
    have h1 := h x (by simp)
    have h2 := ih fun z hz => h z (by simp [hz])
    simp only [List.length_cons]
    have : ((l.length + 1 : Nat) : Int) * m = l.length * m + m := by rw [Int.natCast_add, Int.add_mul]; simp
    omega
def sampleGo : List Int → Int → Nat
  | [], _ => 0
  | x :: l, t => if x ≤ t then 1 + sampleGo l (t - x) else 0
def sampleF (l : List Int) (d : Int) : Nat := sampleGo l (d * isum l / 4294967296)
theorem sampleGo_lt (l : List Int) : ∀ t : Int, 0 ≤ t → t < isum l → sampleGo l t < l.length := by
  induction l with
  | nil => intro t h1 h2; simp [isum] at h2; omega
  | cons x l ih =>
    intro t h1 h2
    rw [isum_cons] at h2
    unfold sampleGo
    split
    · have := ih (t - x) (by omega) (by omega)
      simp
      omega
    · simp
theorem sample_at (l : List Int) (d : Int) (hd : 0 ≤ d ∧ d < 4294967296) (hs : 0 < isum l) : 0 ≤ d * isum l / 4294967296 ∧ d * isum l / 4294967296 < isum l := by
  have h1 : 0 ≤ d * isum l := Int.mul_nonneg hd.1 (by omega)
  have h2 : d * isum l < 4294967296 * isum l := Int.mul_lt_mul_of_pos_right hd.2 hs
  exact ⟨by omega, by omega⟩
theorem sampleF_lt (l : List Int) (d : Int) (hd : 0 ≤ d ∧ d < 4294967296) (hs : 0 < isum l) : sampleF l d < l.length :=
  have h := sample_at l d hd hs
  sampleGo_lt l _ h.1 h.2

set_option maxRecDepth 100000 in
set_option maxHeartbeats 1000000 in
theorem sample_any (w : World) (T : Nat → Prop) (v : Value) (l : List Int) (h : Slc w T v l) (hn : l.length ≤ 1024) (hr : inRange 0 1000000 l) (hs : 0 < isum l) (d : Int) (hd : 0 ≤ d ∧ d < 4294967296) :
    Calls Tryz.prog 69 #[v, .int .i64 d] w fun e w' => e = .returned (.int .i64 (sampleF l d)) ∧ w = w' := by
  obtain ⟨A, c, rfl⟩ := h.len
  obtain ⟨d1, d2⟩ := hd
  have hb := isum_bounds l 1000000 hr
  obtain ⟨t1, t2⟩ := sample_at l d ⟨d1, d2⟩ hs
  have p1 : 0 ≤ d * isum l := Int.mul_nonneg d1 (by omega)
  have p2 : d * isum l < 4294967296 * isum l := Int.mul_lt_mul_of_pos_right d2 hs
  have hpos : 0 < l.length := by
    match l, hs with
    | [], hs => simp [isum] at hs
    | x :: l, _ => simp
  go_enter Tryz.func69, Tryz.ntmps69
  go_wp2_with fail
  go_loop [5, 12] (fun s i => ∃ k : Nat, k ≤ l.length ∧ i = .int .i64 k ∧ s = .int .i64 (isum (l.take k))) (fun _ i => l.length - (intOf i).toNat)
  case atStart => exact ⟨0, by omega, rfl, rfl⟩
  obtain ⟨k, hk, rfl, rfl⟩ := hrel
  by_cases hlt : k < l.length
  · obtain ⟨-, ad, rfl, ck⟩ := h.at_ k hlt
    have HM := Lib.hid (isum_take l k hlt)
    have hb1 := isum_bounds (l.take k) 1000000 fun z hz => hr z (List.mem_of_mem_take hz)
    have hx := hr _ (List.getElem_mem hlt)
    rw [List.length_take, Nat.min_eq_left hk] at hb1
    obtain ⟨x, hx'⟩ : ∃ x, x = l[k] := ⟨_, rfl⟩
    rw [← hx'] at ck HM hx
    clear hx'
    go_wp2_with fail
    go_round
    case rel => exact ⟨k + 1, by omega, by go_num, by rw [HM.out]⟩
    case measure => simp [intOf]; omega
  · obtain rfl : k = l.length := by omega
    have e : isum (l.take l.length) = isum l := by rw [List.take_length]
    rw [e]
    clear e
    go_wp2_with fail
    have HF : RowKit.Hid (sampleGo l (d * isum l / 4294967296) = sampleF l d) := rfl
    generalize d * isum l / 4294967296 = t0 at *
    go_loop [8, 9] (fun t i => ∃ (k : Nat) (t' : Int), i = .int .i64 k ∧ t = .int .i64 t' ∧ 0 ≤ t' ∧ t' < isum (l.drop k) ∧ Hid (k + sampleGo (l.drop k) t' = sampleF l d)) (fun _ i => l.length - (intOf i).toNat)
    case atStart => exact ⟨0, t0, rfl, rfl, t1, t2, by show _ = _; rw [← HF.out]; simp⟩
    obtain ⟨k, t', rfl, rfl, u1, u2, HK⟩ := hrel
    have hlt : k < l.length := by
      rcases Nat.lt_or_ge k l.length with h | h
      · exact h
      · rw [List.drop_of_length_le h] at u2
        simp [isum] at u2
        omega
    obtain ⟨-, ad, rfl, ck⟩ := h.at_ k hlt
    have HD := Lib.hid (List.drop_eq_getElem_cons hlt)
    have hx := hr _ (List.getElem_mem hlt)
    obtain ⟨x, hx'⟩ : ∃ x, x = l[k] := ⟨_, rfl⟩
    rw [← hx'] at ck HD hx
    clear hx'
    have hb2 := isum_bounds (l.drop k) 1000000 fun z hz => hr z (List.mem_of_mem_drop hz)
    rw [List.length_drop] at hb2
    have u3 : t' ≤ 1024000000 := by omega
    have HU := Lib.hid u2
    clear u2 hb2
    by_cases hge : x ≤ t'
    · go_wp2_with fail
      go_round
      case rel =>
        refine ⟨k + 1, t' - x, by go_num, rfl, by omega, ?_, ?_⟩
        · have := HU.out
          rw [HD.out, isum_cons] at this
          omega
        · have := HK.out
          rw [HD.out, sampleGo, if_pos (by omega)] at this
          show _ = _
          omega
      case measure => simp [intOf]; omega
    · go_wp2_with fail
      go_ret
      have := HK.out
      rw [HD.out, sampleGo, if_neg (by omega)] at this
      exact ⟨by rw [← this]; rfl, rfl⟩
end Go.Proofs.YtempdomhbfokmaaGreatDoor

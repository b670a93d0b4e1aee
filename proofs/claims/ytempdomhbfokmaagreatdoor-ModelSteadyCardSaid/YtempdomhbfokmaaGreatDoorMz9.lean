/- What a cell and a convolution make of entries, in plain words. A cell's and a convolution's regions. A cell: every entry turns the state. A convolution's region: one more entry's part. Printed by gen_s11c.py. A convolution: the last entries, each through its own matrix. scores, of a model of every kind. The next token: its weights are not all zero. length, isWord, entriesOK, drawOK, next, Next, Entry, of models of every kind. -/
import Derived.Test.YtempdomhbfokmaaGreatDoorMz8
import Derived.Deep.RegionHeld3
namespace Go.Proofs.YtempdomhbfokmaaGreatDoor
open Go.RowKit

def Model.cellAt (m : Model) (h e : List Int) (o : Nat) : Int := min (max (shiftF (wr (dotF (rowF (m.matrix 0) o m.width) h + dotF (rowF (m.matrix 1) o m.width) e)) (m.cut 1)) (-1000)) 1000
def Model.cellStep (m : Model) (h e : List Int) : List Int := (List.range m.width).map (m.cellAt h e)
def Model.cellTo (m : Model) (es : List (List Int)) (k : Nat) : List Int := (es.take k).foldl m.cellStep (List.replicate m.width 0)
def Model.cellF (m : Model) (es : List (List Int)) : List Int := es.foldl m.cellStep (List.replicate m.width 0)
def Model.taps (m : Model) : Nat := m.mix.length / (m.width * m.width)
def Model.tapAt (m : Model) (es : List (List Int)) (o : Nat) (s : Int) (j : Nat) : Int := if es.length + j < m.taps then s else wr (s + dotF (rowF (m.matrix j) o m.width) (es.getD (es.length + j - m.taps) []))
def Model.tapTo (m : Model) (es : List (List Int)) (o k : Nat) : Int := (List.range k).foldl (m.tapAt es o) 0
def Model.convAt (m : Model) (es : List (List Int)) (o : Nat) : Int := max (shiftF (m.tapTo es o m.taps) (m.cut 1)) 0
def Model.convF (m : Model) (es : List (List Int)) : List Int := (List.range m.width).map (m.convAt es)
/-- what the model makes of entries -/
def Model.mixed (m : Model) (es : List (List Int)) : List Int := if m.kind = 1 then m.attend es else if m.kind = 2 then m.cellF es else m.convF es

theorem Model.cellTo_succ (m : Model) (es : List (List Int)) (k : Nat) (h : k < es.length) : m.cellTo es (k + 1) = m.cellStep (m.cellTo es k) es[k] := by
  unfold Model.cellTo
  rw [List.take_succ_eq_append_getElem h, List.foldl_append]
  rfl
theorem Model.cellTo_full (m : Model) (es : List (List Int)) : m.cellTo es es.length = m.cellF es := by
  unfold Model.cellTo Model.cellF
  rw [List.take_of_length_le (Nat.le_refl _)]
theorem Model.cellStep_length (m : Model) (h e : List Int) : (m.cellStep h e).length = m.width := by simp [Model.cellStep]
theorem Model.cellTo_length (m : Model) (es : List (List Int)) (k : Nat) : (m.cellTo es k).length = m.width := by
  unfold Model.cellTo
  have key : ∀ (l : List (List Int)) (o : List Int), o.length = m.width → (l.foldl m.cellStep o).length = m.width := by
    intro l
    induction l with
    | nil => exact fun _ h => h
    | cons x l ih => intro o _; exact ih _ (m.cellStep_length _ _)
  exact key _ _ (by simp)
theorem Model.cellAt_small (m : Model) (h e : List Int) (o : Nat) : -1000 ≤ m.cellAt h e o ∧ m.cellAt h e o ≤ 1000 := by
  unfold Model.cellAt
  omega
theorem Model.cellTo_word (m : Model) (es : List (List Int)) (k : Nat) : inRange (-1000) 1000 (m.cellTo es k) := by
  unfold Model.cellTo
  have key : ∀ (l : List (List Int)) (o : List Int), inRange (-1000) 1000 o → inRange (-1000) 1000 (l.foldl m.cellStep o) := by
    intro l
    induction l with
    | nil => exact fun _ h => h
    | cons x l ih =>
      intro o _
      refine ih _ fun z hz => ?_
      unfold Model.cellStep at hz
      obtain ⟨i, -, rfl⟩ := List.mem_map.1 hz
      exact m.cellAt_small _ _ _
  exact key _ _ fun z hz => by have := List.eq_of_mem_replicate hz; omega
theorem Model.tapTo_succ (m : Model) (es : List (List Int)) (o k : Nat) : m.tapTo es o (k + 1) = m.tapAt es o (m.tapTo es o k) k := by
  unfold Model.tapTo
  rw [List.range_succ, List.foldl_append]
  rfl
theorem Model.tapTo_word (m : Model) (es : List (List Int)) (o k : Nat) : word (m.tapTo es o k) := by
  induction k with
  | zero => show word 0; unfold word; omega
  | succ k ih =>
    rw [m.tapTo_succ]
    unfold Model.tapAt
    split
    · exact ih
    · exact wr_range _
theorem Model.convF_length (m : Model) (es : List (List Int)) : (m.convF es).length = m.width := by simp [Model.convF]
theorem Model.cut_in (m : Model) (hM : m.Ok) (k : Nat) (hk : k < 4) : 1 ≤ m.cut k ∧ m.cut k ≤ 15 := by
  have hc : k < m.cuts.length := by have := hM.lcuts; omega
  have := hM.cuts _ (List.getElem_mem hc)
  have e : m.cuts[k] = m.cut k := by simp [Model.cut, List.getD, hc]
  rwa [e] at this
theorem Model.convF_word (m : Model) (hM : m.Ok) (es : List (List Int)) : inRange (-2147483648) 2147483647 (m.convF es) := by
  intro z hz
  unfold Model.convF at hz
  obtain ⟨i, -, rfl⟩ := List.mem_map.1 hz
  have hc := m.cut_in hM 1 (by omega)
  have := shiftF_word _ _ hc.1 hc.2 (m.tapTo_word es i m.taps)
  unfold Model.convAt
  unfold word at this
  omega
theorem Model.taps_in (m : Model) (hM : m.Ok) (hk : m.kind = 3) : 1 ≤ m.taps ∧ m.taps ≤ 4 ∧ m.mix.length = m.taps * (m.width * m.width) := by
  obtain ⟨t, h1, h2, h3⟩ := hM.conv hk
  have hw := hM.width
  have hp : 0 < m.width * m.width := Nat.mul_pos (by omega) (by omega)
  have e : m.taps = t := by unfold Model.taps; rw [h3]; exact Nat.mul_div_cancel _ hp
  rw [e]
  exact ⟨h1, h2, h3⟩
theorem Model.mixed_length (m : Model) (hM : m.Ok) (es : List (List Int)) (h : goodEntries m es) : (m.mixed es).length = m.width := by
  unfold Model.mixed
  split
  · rename_i hk
    have hlen : ∀ e ∈ es, e.length = 3 * m.width := fun e he => by have := (h e he).1; unfold Model.len at this; rw [if_pos hk] at this; exact this
    have e4 : m.mixTo es es.length = m.attH es := by unfold Model.mixTo Model.attH; rw [List.take_of_length_le (by simp [Model.atts])]
    unfold Model.attend
    rw [List.length_map, ← e4]
    exact m.mixTo_length es hlen _
  · split
    · rw [← m.cellTo_full]; exact m.cellTo_length _ _
    · exact m.convF_length _
theorem Model.mixed_word (m : Model) (hM : m.Ok) (es : List (List Int)) : inRange (-2147483648) 2147483647 (m.mixed es) := by
  unfold Model.mixed
  split
  · intro z hz
    obtain ⟨x, hx, rfl⟩ := List.mem_map.1 hz
    have hc := m.cut_in hM 2 (by omega)
    exact shiftF_word _ _ hc.1 hc.2 (m.attH_word es x hx)
  · split
    · rw [← m.cellTo_full]
      intro z hz
      have := m.cellTo_word es _ z hz
      omega
    · exact m.convF_word hM es
def Model.scores (m : Model) (es : List (List Int)) : List Int := (List.range m.vocab).map fun v => dotF (rowF m.out v m.width) (m.mixed es)
theorem Model.scores_word (m : Model) (es : List (List Int)) : inRange (-2147483648) 2147483647 (m.scores es) := by
  intro z hz
  obtain ⟨x, hx, rfl⟩ := List.mem_map.1 hz
  exact dotF_word _ _
end Go.Proofs.YtempdomhbfokmaaGreatDoor

namespace Go.Proofs.YtempdomhbfokmaaGreatDoor
open Go.RowKit

theorem mix_row (M : Model) (hM : M.Ok) (k o : Nat) (hk : (k + 1) * (M.width * M.width) ≤ M.mix.length) (ho : o < M.width) :
    (o + 1) * M.width ≤ (M.matrix k).length ∧ (M.matrix k).length ≤ 25 ∧ (rowF (M.matrix k) o M.width).length = M.width ∧ inRange (-4294967296) 4294967296 (rowF (M.matrix k) o M.width) := by
  obtain ⟨hw1, hw2⟩ := hM.width
  have hb7 := mul_bounds _ _ _ _ hw2 hw2
  have hmk := rowF_length _ _ _ hk
  have hoo : (o + 1) * M.width ≤ (M.matrix k).length := by rw [Model.matrix, hmk]; exact Nat.mul_le_mul_right _ (by omega)
  refine ⟨hoo, by rw [Model.matrix, hmk]; omega, rowF_length _ _ _ hoo, ?_⟩
  intro z hz
  have h1 := hM.mix z (List.mem_of_mem_drop (List.mem_of_mem_take (List.mem_of_mem_drop (List.mem_of_mem_take hz))))
  omega
theorem below_begin {W w1 : World} (h : Below W.drew.heap.size W.drew w1) : Below W.heap.size W w1 := h.drewed
noncomputable def cellR10 : Code := (Tryz.f96.body.bind (findRegion 10)).getD .skip

set_option maxRecDepth 100000 in
set_option maxHeartbeats 2000000 in
/-- One sum of a cell. -/
theorem cell_r10 (wr : World) (T TH TE : Nat → Prop) (M : Model) (v4 v5 v6 v7 v8 v9 v10 : Value) (hmr : MSl wr T M v4 v5 v6 v7 v8 v9 v10) (hM : M.Ok) (hkind : M.kind = 2) (o B : Nat) (ho : o < M.width)
    (vh : Value) (h : List Int) (hh : Slc wr TH vh h) (hhl : h.length = M.width) (hhw : inRange (-2147483648) 2147483647 h) (ve : Value) (e : List Int) (he : Slc wr TE ve e) (hel : e.length = M.width) (hew : inRange (-2147483648) 2147483647 e)
    (hbx : Blk wr B 35 #[.int .i64 M.kind, .int .i64 M.vocab, .int .i64 M.width, .int .i64 M.top, v4, v5, v6, v7, v8, v9, v10])
    (s0 s1 s3 s4 s7 s9 s11 s12 s13 s14 s15 s16 s17 s18 s19 s20 s21 s22 s23 s24 s25 s26 s27 s28 s29 s30 s31 s32 s33 s34 s35 s36 s37 s38 s39 s40 s41 s42 s43 s44 s45 s46 s47 s48 s49 s50 s51 s52 s53 s54 s55 s56 s57 s58 s59 : Value) (Q : Exit → Act → World → Prop)
    (hQ : ∀ (w' : World) (y29 y30 y31 y32 y33 y34 y35 y36 y37 y38 y39 y40 y41 y42 y43 y44 : Value), Below wr.heap.size wr w' → Q .normal ⟨#[s0, s1, .pointer (some ⟨B, 0, none⟩), s3, s4, .int .i64 M.width, vh, s7, ve, s9, .int .i64 o, .int .i64 (Go.Proofs.YtempdomhbfokmaaGreatDoor.wr (dotF (rowF (M.matrix 0) o M.width) h + dotF (rowF (M.matrix 1) o M.width) e)), s12, s13, s14, s15, s16, s17, s18, s19, s20, s21, s22, s23, s24, s25, s26, s27, s28, y29, y30, y31, y32, y33, y34, y35, y36, y37, y38, y39, y40, y41, y42, y43, y44, s45, s46, s47, s48, s49, s50, s51, s52, s53, s54, s55, s56, s57, s58, s59], []⟩ w') :
    Code.wp Tryz.prog cellR10 Q ⟨#[s0, s1, .pointer (some ⟨B, 0, none⟩), s3, s4, .int .i64 M.width, vh, s7, ve, s9, .int .i64 o, s11, s12, s13, s14, s15, s16, s17, s18, s19, s20, s21, s22, s23, s24, s25, s26, s27, s28, s29, s30, s31, s32, s33, s34, s35, s36, s37, s38, s39, s40, s41, s42, s43, s44, s45, s46, s47, s48, s49, s50, s51, s52, s53, s54, s55, s56, s57, s58, s59], []⟩ wr := by
  conv => arg 2; whnf
  obtain ⟨hw1, hw2⟩ := hM.width
  have hmix := hM.cell hkind
  rw [Nat.mul_assoc] at hmix
  have hb7 := mul_bounds _ _ _ _ hw2 hw2
  have hk0 : (0 + 1) * (M.width * M.width) ≤ M.mix.length := by rw [hmix]; omega
  have hk1 : (1 + 1) * (M.width * M.width) ≤ M.mix.length := by rw [hmix]; omega
  have hml : M.mix.length ≤ 65536 := by omega
  obtain ⟨oo0, ml0, rl0, rw0⟩ := mix_row M hM 0 o hk0 ho
  obtain ⟨oo1, ml1, rl1, rw1⟩ := mix_row M hM 1 o hk1 ho
  obtain ⟨m0, hm0⟩ : ∃ m0, m0 = cutv v7 (0 * (M.width * M.width)) (M.width * M.width) := ⟨_, rfl⟩
  obtain ⟨m1, hm1⟩ : ∃ m1, m1 = cutv v7 (1 * (M.width * M.width)) (M.width * M.width) := ⟨_, rfl⟩
  have hs0 := hmr.mix.row 0 (M.width * M.width) hk0
  have hs1 := hmr.mix.row 1 (M.width * M.width) hk1
  rw [← hm0] at hs0
  rw [← hm1] at hs1
  obtain ⟨r0, hr0⟩ : ∃ r0, r0 = cutv m0 (o * M.width) M.width := ⟨_, rfl⟩
  obtain ⟨r1, hr1⟩ : ∃ r1, r1 = cutv m1 (o * M.width) M.width := ⟨_, rfl⟩
  have ht0 : Slc wr T r0 (rowF (M.matrix 0) o M.width) := by rw [hr0]; exact Slc.row (l := M.matrix 0) hs0 o M.width oo0
  have ht1 : Slc wr T r1 (rowF (M.matrix 1) o M.width) := by rw [hr1]; exact Slc.row (l := M.matrix 1) hs1 o M.width oo1
  have HA0 : Hid (∀ W, MSl W T M v4 v5 v6 v7 v8 v9 v10 → Calls Tryz.prog 68 #[.agg #[.int .i64 M.kind, .int .i64 M.vocab, .int .i64 M.width, .int .i64 M.top, v4, v5, v6, v7, v8, v9, v10], .int .i64 0] W fun e w' => e = .returned m0 ∧ Below W.heap.size W w') := Lib.hid fun W hW => by
    rw [hm0]; exact matrix_any W T M v4 v5 v6 v7 v8 v9 v10 hW 0 hk0 hw2 hml (by omega)
  have HA1 : Hid (∀ W, MSl W T M v4 v5 v6 v7 v8 v9 v10 → Calls Tryz.prog 68 #[.agg #[.int .i64 M.kind, .int .i64 M.vocab, .int .i64 M.width, .int .i64 M.top, v4, v5, v6, v7, v8, v9, v10], .int .i64 1] W fun e w' => e = .returned m1 ∧ Below W.heap.size W w') := Lib.hid fun W hW => by
    rw [hm1]; exact matrix_any W T M v4 v5 v6 v7 v8 v9 v10 hW 1 hk1 hw2 hml (by omega)
  have HB0 : Hid (∀ W, Slc W T m0 (M.matrix 0) → Calls Tryz.prog 63 #[m0, .int .i64 o, .int .i64 M.width] W fun e w' => e = .returned r0 ∧ W = w') := Lib.hid fun W hW => by
    rw [hr0]; exact row_any W T m0 (M.matrix 0) o M.width hW oo0 (by omega) (by omega) (by omega)
  have HB1 : Hid (∀ W, Slc W T m1 (M.matrix 1) → Calls Tryz.prog 63 #[m1, .int .i64 o, .int .i64 M.width] W fun e w' => e = .returned r1 ∧ W = w') := Lib.hid fun W hW => by
    rw [hr1]; exact row_any W T m1 (M.matrix 1) o M.width hW oo1 (by omega) (by omega) (by omega)
  have HC0 : Hid (∀ W, Slc W T r0 (rowF (M.matrix 0) o M.width) → Slc W TH vh h → Calls Tryz.prog 67 #[r0, vh] W fun r w' => r = .returned (.int .i64 (dotF (rowF (M.matrix 0) o M.width) h)) ∧ ∃ n, w' = W.drewN n) := Lib.hid fun W h1 h2 =>
    dot_any W T TH r0 vh _ _ h1 h2 (by rw [rl0, hhl]) rw0 hhw
  have HC1 : Hid (∀ W, Slc W T r1 (rowF (M.matrix 1) o M.width) → Slc W TE ve e → Calls Tryz.prog 67 #[r1, ve] W fun r w' => r = .returned (.int .i64 (dotF (rowF (M.matrix 1) o M.width) e)) ∧ ∃ n, w' = W.drewN n) := Lib.hid fun W h1 h2 =>
    dot_any W T TE r1 ve _ _ h1 h2 (by rw [rl1, hel]) rw1 hew
  obtain ⟨d0, hd0⟩ : ∃ d0, d0 = dotF (rowF (M.matrix 0) o M.width) h := ⟨_, rfl⟩
  obtain ⟨d1, hd1⟩ : ∃ d1, d1 = dotF (rowF (M.matrix 1) o M.width) e := ⟨_, rfl⟩
  obtain ⟨x1, x2⟩ := dotF_word (rowF (M.matrix 0) o M.width) h
  obtain ⟨y1, y2⟩ := dotF_word (rowF (M.matrix 1) o M.width) e
  rw [← hd0] at HC0 hQ x1 x2
  rw [← hd1] at HC1 hQ y1 y2
  have i0 : IntKind.i64.wrap (d0 + d1) = d0 + d1 := IntWalk.i64_in _ ⟨by omega, by omega⟩
  have hbl := hbx.lt
  have c0 := hbx.cell 0
  have c1 := hbx.cell 1
  have c2 := hbx.cell 2
  have c3 := hbx.cell 3
  have c4 := hbx.cell 4
  have c5 := hbx.cell 5
  have c6 := hbx.cell 6
  have c7 := hbx.cell 7
  have c8 := hbx.cell 8
  have c9 := hbx.cell 9
  have c10 := hbx.cell 10
  clear hkind hmix hk0 hk1 hml oo0 ml0 rl0 rw0 oo1 ml1 rl1 rw1 hm0 hm1 hr0 hr1 hd0 hd1 hhl hhw hel hew hb7
  go_region_held3 (fun w' => w'.cell? ⟨B, 0, none⟩ = some (.int .i64 M.kind) ∧ w'.cell? ⟨B, 1, none⟩ = some (.int .i64 M.vocab) ∧ w'.cell? ⟨B, 2, none⟩ = some (.int .i64 M.width) ∧ w'.cell? ⟨B, 3, none⟩ = some (.int .i64 M.top) ∧ w'.cell? ⟨B, 4, none⟩ = some v4 ∧ w'.cell? ⟨B, 5, none⟩ = some v5 ∧ w'.cell? ⟨B, 6, none⟩ = some v6 ∧ w'.cell? ⟨B, 7, none⟩ = some v7 ∧ w'.cell? ⟨B, 8, none⟩ = some v8 ∧ w'.cell? ⟨B, 9, none⟩ = some v9 ∧ w'.cell? ⟨B, 10, none⟩ = some v10) (go_keep)
    (first
      | (go_at_call 68; with_reducible show Calls _ _ #[_, Value.int IntKind.i64 0] _ _; refine (HA0.out _ hmr.drew).mono ?_; rintro e W1 ⟨rfl, hb1⟩; replace hb1 := below_begin hb1; have e0 := hb1.cell (p := ⟨B, 0, none⟩) hbl; have e1 := hb1.cell (p := ⟨B, 1, none⟩) hbl; have e2 := hb1.cell (p := ⟨B, 2, none⟩) hbl; have e3 := hb1.cell (p := ⟨B, 3, none⟩) hbl; have e4 := hb1.cell (p := ⟨B, 4, none⟩) hbl; have e5 := hb1.cell (p := ⟨B, 5, none⟩) hbl; have e6 := hb1.cell (p := ⟨B, 6, none⟩) hbl; have e7 := hb1.cell (p := ⟨B, 7, none⟩) hbl; have e8 := hb1.cell (p := ⟨B, 8, none⟩) hbl; have e9 := hb1.cell (p := ⟨B, 9, none⟩) hbl; have e10 := hb1.cell (p := ⟨B, 10, none⟩) hbl; have ms1 := hmr.fresh hb1; have p0 := hs0.fresh hb1; have p1 := hs1.fresh hb1; have q0 := ht0.fresh hb1; have q1 := ht1.fresh hb1; have ph := hh.fresh hb1; have pe := he.fresh hb1; have hbl1 := Nat.lt_of_lt_of_le hbl hb1.size)
      | (go_at_call 63; with_reducible show Calls _ _ #[m0, _, _] _ _; refine (HB0.out _ p0).mono ?_; rintro e w' ⟨rfl, rfl⟩)
      | (go_at_call 67; with_reducible show Calls _ _ #[r0, _] _ _; refine (HC0.out _ q0 ph).mono ?_; rintro e w' ⟨rfl, nd, rfl⟩)
      | (go_at_call 68; refine (HA1.out _ (ms1.drewN nd)).mono ?_; rintro e W2 ⟨rfl, hb2⟩; have f0 := hb2.cell (p := ⟨B, 0, none⟩) hbl1; have f1 := hb2.cell (p := ⟨B, 1, none⟩) hbl1; have f2 := hb2.cell (p := ⟨B, 2, none⟩) hbl1; have f3 := hb2.cell (p := ⟨B, 3, none⟩) hbl1; have f4 := hb2.cell (p := ⟨B, 4, none⟩) hbl1; have f5 := hb2.cell (p := ⟨B, 5, none⟩) hbl1; have f6 := hb2.cell (p := ⟨B, 6, none⟩) hbl1; have f7 := hb2.cell (p := ⟨B, 7, none⟩) hbl1; have f8 := hb2.cell (p := ⟨B, 8, none⟩) hbl1; have f9 := hb2.cell (p := ⟨B, 9, none⟩) hbl1; have f10 := hb2.cell (p := ⟨B, 10, none⟩) hbl1; have p1' := (p1.drewN nd).fresh hb2; have q1' := (q1.drewN nd).fresh hb2; have pe' := (pe.drewN nd).fresh hb2)
      | (go_at_call 63; refine (HB1.out _ p1').mono ?_; rintro e w' ⟨rfl, rfl⟩)
      | (go_at_call 67; refine (HC1.out _ q1' pe').mono ?_; rintro e w' ⟨rfl, nd2, rfl⟩)
      | (go_at_call 65; refine (wrap_any _ _).mono ?_; rintro e w' ⟨rfl, rfl⟩))
  refine hQ _ _ _ _ _ _ _ _ _ _ _ _ _ _ _ _ _ ?_
  exact ((Keeps.of_below hb1 (fun _ => False)).drewN nd |>.fresh hb2 |>.drewN nd2).to_below
end Go.Proofs.YtempdomhbfokmaaGreatDoor

namespace Go.Proofs.YtempdomhbfokmaaGreatDoor
open Go.RowKit

theorem fill_step (f : Nat → Int) (n o : Nat) (h : o < n) : ((List.range o).map f ++ List.replicate (n - o) 0).set o (f o) = (List.range (o + 1)).map f ++ List.replicate (n - (o + 1)) 0 := by
  have hl : ((List.range o).map f).length = o := by simp
  rw [List.set_append_right _ _ (by omega), hl, Nat.sub_self, show n - o = (n - (o + 1)) + 1 from by omega, List.replicate_succ, List.set_cons_zero, List.range_succ, List.map_append]
  simp
theorem fill_length (f : Nat → Int) (n o : Nat) (h : o ≤ n) : ((List.range o).map f ++ List.replicate (n - o) 0).length = n := by simp; omega

set_option maxRecDepth 100000 in
set_option maxHeartbeats 4000000 in
theorem cell_any (w : World) (T T' T2 : Nat → Prop) (M : Model) (v4 v5 v6 v7 v8 v9 v10 : Value) (h : MSl w T M v4 v5 v6 v7 v8 v9 v10) (hM : M.Ok) (hkind : M.kind = 2)
    (E : Option Addr) (ce : Nat) (vs : List Value) (es : List (List Int)) (hE : Reads w T' 1 E es.length vs) (hR : Rows w T2 vs es) (hes : goodEntries M es) (hn2 : es.length ≤ 64) :
    Calls Tryz.prog 96 #[.agg #[.int .i64 M.kind, .int .i64 M.vocab, .int .i64 M.width, .int .i64 M.top, v4, v5, v6, v7, v8, v9, v10], .slice E es.length ce] w (RetFresh w 3 1 M.width (ints (M.cellF es))) := by
  obtain ⟨hw1, hw2⟩ := hM.width
  replace h := h.old
  replace hR := hR.old
  replace hE := hE.old
  clear T T' T2
  have hlen : ∀ e ∈ es, e.length = M.width := fun e he => by have := (hes e he).1; unfold Model.len at this; rw [if_neg (by omega)] at this; exact this
  obtain ⟨A4, c4, rfl⟩ := h.cuts.len
  have hcut : 1 < M.cuts.length := by have := hM.lcuts; omega
  have HLN := Lib.hid hlen
  have HES := Lib.hid hes
  have HKD := Lib.hid hkind
  have HFU := Lib.hid (M.cellTo_full es)
  clear hkind hlen hes
  go_enter Tryz.func96, Tryz.ntmps96
  go_wp2_with (at_make; refine wpList_make_ints _ rfl _ _ rfl _ _ M.width rfl rfl rfl rfl (by omega) ?_; intro w1 hown hb1 hz1)
  have hm1 := (h.alloc _).fresh hb1
  have hE1 := (hE.alloc _).fresh hb1
  have hR1 := (hR.alloc _).fresh hb1
  have k1 := (Blk.new w 35 _).below hb1 (by simp)
  have b1 : Below w.heap.size w w1 := ((Below.refl _ _).alloc (Nat.le_refl _) _).trans (hb1.mono (by simp))
  have hown1 : Own w1 (fun g => w.heap.size + 1 ≤ g) 3 1 (.slice (some ⟨w.heap.size + 1, 0, none⟩) M.width M.width) M.width (ints (M.cellTo es 0)) := by
    have := hown.more (T' := fun g => w.heap.size + 1 ≤ g) fun g _ hg => by simp at hg; omega
    simpa [Model.cellTo] using this
  have z1 : w.heap.size + 1 < w1.heap.size := by simp at hz1; omega
  clear hb1 h hE hR hown hz1
  go_loopw [6, 18] (fun v i wr => ∃ k : Nat, k ≤ es.length ∧ i = .int .i64 k ∧ Own wr (fun g => w.heap.size + 1 ≤ g) 3 1 v M.width (ints (M.cellTo es k)) ∧ Below w1.heap.size w1 wr) (fun _ i _ => es.length - (intOf i).toNat)
  case atStart => exact ⟨0, by omega, rfl, hown1, Below.refl _ _⟩
  obtain ⟨k, hk, rfl, ho, hb⟩ := hrel
  clear hown1
  by_cases hlt1 : k < es.length
  · obtain ⟨E'', u, e, hltE, -, hu, hck⟩ := (hE1.fresh hb).at_ hlt1
    subst e
    obtain ⟨vk, hvk, Ak, ck, rfl, rk, l1, l2, l3⟩ := (hR1.fresh hb).2 k hlt1
    rw [hvk] at hu
    injection hu with hu
    subst hu
    have hkl := HLN.out _ (List.getElem_mem hlt1)
    obtain ⟨-, hkw⟩ := HES.out _ (List.getElem_mem hlt1)
    have hsk : Slc wr (· < w.heap.size) (.slice Ak es[k].length ck) es[k] := ⟨Ak, ck, rfl, rk, l1, l2, l3⟩
    have HST := Lib.hid (M.cellTo_succ es k hlt1)
    have hhl := M.cellTo_length es k
    have hhw := M.cellTo_word es k
    have hmr := hm1.fresh hb
    have kr := k1.below hb (by omega)
    have hwz := hb.size
    obtain ⟨ek, hek⟩ : ∃ ek, ek = es[k] := ⟨_, rfl⟩
    rw [← hek] at hck hkl hkw hsk HST
    obtain ⟨hs, hhs⟩ : ∃ hs, hs = M.cellTo es k := ⟨_, rfl⟩
    rw [← hhs] at hhl hhw ho HST
    have HKL := Lib.hid hkl
    have HHL := Lib.hid hhl
    have HCK := Lib.hid hck
    clear hek hhs hvk rk l1 l2 l3 hkl hhl
    go_wp2_with (at_make; refine wpList_make_ints _ rfl _ _ rfl _ _ M.width rfl rfl rfl rfl (by omega) ?_; intro w2 hown2 hb2 hz2)
    have hm2 := hmr.fresh hb2
    have kw2 := kr.below hb2 (by omega)
    have hh2 := ho.slc.old.fresh hb2
    have he2 := hsk.fresh hb2
    have ho2 : Own w2 (fun g => g = wr.heap.size) 3 1 (.slice (some ⟨wr.heap.size, 0, none⟩) M.width M.width) M.width (ints ((List.range 0).map (M.cellAt hs ek) ++ List.replicate (M.width - 0) 0)) := by simpa using hown2
    have hz2' : wr.heap.size < w2.heap.size := hz2
    have HB2 := Lib.hid (hb.trans (hb2.mono hwz))
    have HO := Lib.hid ho
    obtain ⟨G, hG⟩ : ∃ G, G = wr.heap.size := ⟨_, rfl⟩
    rw [← hG] at hh2 ho2 hz2' hwz ⊢
    clear hck hown2 hb2 hz2 hsk hmr kr ho hG hltE
    obtain ⟨wo, rfl⟩ : ∃ wo : World, wo = wr := ⟨_, rfl⟩
    go_loopw [26] (fun i wr => ∃ o : Nat, o ≤ M.width ∧ i = .int .i64 o ∧ Own wr (fun g => g = G) 3 1 (.slice (some ⟨G, 0, none⟩) M.width M.width) M.width (ints ((List.range o).map (M.cellAt hs ek) ++ List.replicate (M.width - o) 0)) ∧ Keeps (· = G) w2 wr) (fun i _ => M.width - (intOf i).toNat)
    case atStart => exact ⟨0, by omega, rfl, ho2, Keeps.refl _ _⟩
    obtain ⟨o, ho1, rfl, hoq, hkp⟩ := hrel
    clear ho2
    by_cases hlt2 : o < M.width
    · have hmq := hm2.keeps hkp (fun i hi => by omega)
      have kwq := hkp.blk kw2 (by omega)
      have hhq := hh2.keeps hkp (fun i hi => by omega)
      have heq := he2.keeps hkp (fun i hi => by omega)
      go_wp2_with fail
      refine cell_r10 wr _ _ _ M _ _ _ _ _ _ _ hmq hM HKD.out o _ hlt2 _ _ hhq HHL.out (fun z hz => by have := hhw z hz; omega) _ _ heq HKL.out hkw kwq _ _ _ _ _ _ _ _ _ _ _ _ _ _ _ _ _ _ _ _ _ _ _ _ _ _ _ _ _ _ _ _ _ _ _ _ _ _ _ _ _ _ _ _ _ _ _ _ _ _ _ _ _ _ _ _ ?_
      intro w3 y29 y30 y31 y32 y33 y34 y35 y36 y37 y38 y39 y40 y41 y42 y43 y44 hb3
      have kw3 := kwq.below hb3 kwq.lt
      have hm3 := hmq.fresh hb3
      have ho3 := hoq.fresh hb3
      have hk3 := hkp.fresh hb3
      obtain ⟨-, ad4, e4, cc⟩ := hm3.cuts.at_ 1 hcut
      subst e4
      obtain ⟨cu1, cu2⟩ := M.cut_in hM 1 (by omega)
      have hcutE : M.cuts[1] = M.cut 1 := by simp [Model.cut, List.getD, hcut]
      rw [hcutE] at cc
      have cc' : w3.cell? ⟨ad4.block, ad4.off + 1, none⟩ = some (.int .i64 (M.cut 1)) := by simpa [Addr.add] using cc
      have i4 : (1 : Int) < M.cuts.length := by omega
      have kc := kw3.cell 4
      have hfr := ho3.unfrozen o
      have hcr := ho3.get o hlt2
      rw [ints_get _ o (by rw [fill_length _ _ _ ho1]; exact hlt2)] at hcr
      generalize ((List.range o).map (M.cellAt hs ek) ++ List.replicate (M.width - o) 0)[o]'(by rw [fill_length _ _ _ ho1]; exact hlt2) = zo at hcr
      obtain ⟨q1, q2⟩ := wr_range (dotF (rowF (M.matrix 0) o M.width) hs + dotF (rowF (M.matrix 1) o M.width) ek)
      have HCA : Hid (M.cellAt hs ek o = min (max (shiftF (Go.Proofs.YtempdomhbfokmaaGreatDoor.wr (dotF (rowF (M.matrix 0) o M.width) hs + dotF (rowF (M.matrix 1) o M.width) ek)) (M.cut 1)) (-1000)) 1000) := Lib.hid rfl
      have hfin : ∀ z : Int, z = M.cellAt hs ek o → Own (w3.setCell ⟨G, o, none⟩ (.int .i64 z)) (fun g => g = G) 3 1 (.slice (some ⟨G, 0, none⟩) M.width M.width) M.width (ints ((List.range (o + 1)).map (M.cellAt hs ek) ++ List.replicate (M.width - (o + 1)) 0)) := by
        intro z hz
        have := ho3.set o hlt2 (.int .i64 z)
        rw [← fill_step _ _ _ hlt2, ← hz]
        simpa [ints, List.map_set] using this
      have HFN := Lib.hid hfin
      generalize Go.Proofs.YtempdomhbfokmaaGreatDoor.wr (dotF (rowF (M.matrix 0) o M.width) hs + dotF (rowF (M.matrix 1) o M.width) ek) = sm at *
      obtain ⟨c1, hc1⟩ : ∃ c1, c1 = M.cut 1 := ⟨_, rfl⟩
      rw [← hc1] at cc cc' cu1 cu2 HCA
      obtain ⟨sh, hsh⟩ : ∃ sh, sh = shiftF sm c1 := ⟨_, rfl⟩
      rw [← hsh] at HCA
      have HSH : Hid (∀ W, Calls Tryz.prog 66 #[.int .i64 sm, .int .i64 c1] W fun e w' => e = .returned (.int .i64 sh) ∧ W = w') := Lib.hid fun W => by rw [hsh]; exact shift_any sm c1 W cu1 cu2 ⟨by omega, by omega⟩
      have HK3 := Lib.hid hk3
      clear hfin hc1 hsh hcutE cu1 cu2 q1 q2 cc hmq kwq hhq heq hk3 hoq hkp
      go_wp2_with fail
      refine (HSH.out _).mono ?_
      rintro e w' ⟨rfl, rfl⟩
      go_wp2_with fail
      all_goals
        go_roundw
        case rel => exact ⟨o + 1, by omega, by go_num, HFN.out _ (by rw [HCA.out]; omega), Keeps.setCell HK3.out (fun _ => rfl) _⟩
        case measure => simp [intOf]; omega
    · obtain rfl : o = M.width := by omega
      have e0 : (List.range M.width).map (M.cellAt hs ek) ++ List.replicate (M.width - M.width) 0 = M.cellTo es (k + 1) := by rw [HST.out]; simp [Model.cellStep]
      rw [e0] at hoq
      go_wp2_with fail
      go_roundw
      case rel => exact ⟨k + 1, by omega, by go_num, hoq.more fun g _ hg => by have hg' : g = G := hg; omega, HB2.out.trans ⟨hkp.os, hkp.tape, hkp.output, hkp.size, fun q hq => hkp.block q (by omega) (by omega)⟩⟩
      case measure => simp [intOf]; omega
  · obtain rfl : k = es.length := by omega
    rw [HFU.out] at ho
    go_wp2_with fail
    go_ret
    exact ⟨_, rfl, ho.more fun g _ hg => by omega, b1.trans (hb.mono (by omega))⟩
end Go.Proofs.YtempdomhbfokmaaGreatDoor

namespace Go.Proofs.YtempdomhbfokmaaGreatDoor
open Go.RowKit
noncomputable def convR13 : Code := (Tryz.f97.body.bind (findRegion 13)).getD .skip

set_option maxRecDepth 100000 in
set_option maxHeartbeats 2000000 in
theorem conv_r13 (wr : World) (T TE : Nat → Prop) (M : Model) (v4 v5 v6 v7 v8 v9 v10 : Value) (hmr : MSl wr T M v4 v5 v6 v7 v8 v9 v10) (hM : M.Ok) (j o B : Nat) (hj : (j + 1) * (M.width * M.width) ≤ M.mix.length) (hj5 : j ≤ 5) (hml : M.mix.length ≤ 65536) (ho : o < M.width)
    (ad : Addr) (n ce a : Nat) (ha : a < n) (ve : Value) (e : List Int) (hcell : wr.cell? (ad.add a) = some ve) (had : (ad.add a).block < wr.heap.size) (he : Slc wr TE ve e) (hel : e.length = M.width) (hew : inRange (-2147483648) 2147483647 e) (s : Int) (hs : word s)
    (hbx : Blk wr B 35 #[.int .i64 M.kind, .int .i64 M.vocab, .int .i64 M.width, .int .i64 M.top, v4, v5, v6, v7, v8, v9, v10])
    (s0 s3 s4 s6 s7 s12 s13 s14 s15 s16 s17 s18 s19 s20 s21 s22 s23 s24 s25 s26 s27 s28 s29 s30 s31 s32 s33 s34 s35 s36 s37 s38 s39 s40 s41 s42 s43 s44 s45 s46 s47 s48 s49 s50 s51 s52 s53 s54 s55 s56 s57 s58 s59 s60 s61 s62 s63 s64 s65 : Value) (Q : Exit → Act → World → Prop)
    (hQ : ∀ (w' : World) (y39 y40 y41 y42 y43 y44 y45 y46 y47 y48 y49 y50 y51 y52 : Value), Below wr.heap.size wr w' → Q .normal ⟨#[s0, .slice (some ad) n ce, .pointer (some ⟨B, 0, none⟩), s3, s4, .int .i64 M.width, s6, s7, .int .i64 o, .int .i64 (Go.Proofs.YtempdomhbfokmaaGreatDoor.wr (s + dotF (rowF (M.matrix j) o M.width) e)), .int .i64 j, .int .i64 a, s12, s13, s14, s15, s16, s17, s18, s19, s20, s21, s22, s23, s24, s25, s26, s27, s28, s29, s30, s31, s32, s33, s34, s35, s36, s37, s38, y39, y40, y41, y42, y43, y44, y45, y46, y47, y48, y49, y50, y51, y52, s53, s54, s55, s56, s57, s58, s59, s60, s61, s62, s63, s64, s65], []⟩ w') :
    Code.wp Tryz.prog convR13 Q ⟨#[s0, .slice (some ad) n ce, .pointer (some ⟨B, 0, none⟩), s3, s4, .int .i64 M.width, s6, s7, .int .i64 o, .int .i64 s, .int .i64 j, .int .i64 a, s12, s13, s14, s15, s16, s17, s18, s19, s20, s21, s22, s23, s24, s25, s26, s27, s28, s29, s30, s31, s32, s33, s34, s35, s36, s37, s38, s39, s40, s41, s42, s43, s44, s45, s46, s47, s48, s49, s50, s51, s52, s53, s54, s55, s56, s57, s58, s59, s60, s61, s62, s63, s64, s65], []⟩ wr := by
  conv => arg 2; whnf
  obtain ⟨hw1, hw2⟩ := hM.width
  obtain ⟨oo0, ml0, rl0, rw0⟩ := mix_row M hM j o hj ho
  obtain ⟨m0, hm0⟩ : ∃ m0, m0 = cutv v7 (j * (M.width * M.width)) (M.width * M.width) := ⟨_, rfl⟩
  have hs0 := hmr.mix.row j (M.width * M.width) hj
  rw [← hm0] at hs0
  obtain ⟨r0, hr0⟩ : ∃ r0, r0 = cutv m0 (o * M.width) M.width := ⟨_, rfl⟩
  have ht0 : Slc wr T r0 (rowF (M.matrix j) o M.width) := by rw [hr0]; exact Slc.row (l := M.matrix j) hs0 o M.width oo0
  have HA0 : Hid (∀ W, MSl W T M v4 v5 v6 v7 v8 v9 v10 → Calls Tryz.prog 68 #[.agg #[.int .i64 M.kind, .int .i64 M.vocab, .int .i64 M.width, .int .i64 M.top, v4, v5, v6, v7, v8, v9, v10], .int .i64 j] W fun e w' => e = .returned m0 ∧ Below W.heap.size W w') := Lib.hid fun W hW => by
    rw [hm0]; exact matrix_any W T M v4 v5 v6 v7 v8 v9 v10 hW j hj hw2 hml hj5
  have HB0 : Hid (∀ W, Slc W T m0 (M.matrix j) → Calls Tryz.prog 63 #[m0, .int .i64 o, .int .i64 M.width] W fun e w' => e = .returned r0 ∧ W = w') := Lib.hid fun W hW => by
    rw [hr0]; exact row_any W T m0 (M.matrix j) o M.width hW oo0 (by omega) (by omega) (by omega)
  have HC0 : Hid (∀ W, Slc W T r0 (rowF (M.matrix j) o M.width) → Slc W TE ve e → Calls Tryz.prog 67 #[r0, ve] W fun r w' => r = .returned (.int .i64 (dotF (rowF (M.matrix j) o M.width) e)) ∧ ∃ n, w' = W.drewN n) := Lib.hid fun W h1 h2 =>
    dot_any W T TE r0 ve _ _ h1 h2 (by rw [rl0, hel]) rw0 hew
  obtain ⟨d0, hd0⟩ : ∃ d0, d0 = dotF (rowF (M.matrix j) o M.width) e := ⟨_, rfl⟩
  obtain ⟨x1, x2⟩ := dotF_word (rowF (M.matrix j) o M.width) e
  rw [← hd0] at HC0 hQ x1 x2
  obtain ⟨y1, y2⟩ := hs
  have i0 : IntKind.i64.wrap (s + d0) = s + d0 := IntWalk.i64_in _ ⟨by omega, by omega⟩
  have i1 : (0 : Int) ≤ a := by omega
  have i2 : (a : Int) < n := by omega
  have hbl := hbx.lt
  have c0 := hbx.cell 0
  have c1 := hbx.cell 1
  have c2 := hbx.cell 2
  have c3 := hbx.cell 3
  have c4 := hbx.cell 4
  have c5 := hbx.cell 5
  have c6 := hbx.cell 6
  have c7 := hbx.cell 7
  have c8 := hbx.cell 8
  have c9 := hbx.cell 9
  have c10 := hbx.cell 10
  clear hj5 hj hml oo0 ml0 rl0 rw0 hm0 hr0 hd0 hel hew
  go_region_held3 (fun w' => w'.cell? ⟨B, 0, none⟩ = some (.int .i64 M.kind) ∧ w'.cell? ⟨B, 1, none⟩ = some (.int .i64 M.vocab) ∧ w'.cell? ⟨B, 2, none⟩ = some (.int .i64 M.width) ∧ w'.cell? ⟨B, 3, none⟩ = some (.int .i64 M.top) ∧ w'.cell? ⟨B, 4, none⟩ = some v4 ∧ w'.cell? ⟨B, 5, none⟩ = some v5 ∧ w'.cell? ⟨B, 6, none⟩ = some v6 ∧ w'.cell? ⟨B, 7, none⟩ = some v7 ∧ w'.cell? ⟨B, 8, none⟩ = some v8 ∧ w'.cell? ⟨B, 9, none⟩ = some v9 ∧ w'.cell? ⟨B, 10, none⟩ = some v10 ∧ w'.cell? (ad.add a) = some ve) (go_keep)
    (first
      | (go_at_call 68; refine (HA0.out _ hmr.drew).mono ?_; rintro e W1 ⟨rfl, hb1⟩; replace hb1 := below_begin hb1; have e0 := hb1.cell (p := ⟨B, 0, none⟩) hbl; have e1 := hb1.cell (p := ⟨B, 1, none⟩) hbl; have e2 := hb1.cell (p := ⟨B, 2, none⟩) hbl; have e3 := hb1.cell (p := ⟨B, 3, none⟩) hbl; have e4 := hb1.cell (p := ⟨B, 4, none⟩) hbl; have e5 := hb1.cell (p := ⟨B, 5, none⟩) hbl; have e6 := hb1.cell (p := ⟨B, 6, none⟩) hbl; have e7 := hb1.cell (p := ⟨B, 7, none⟩) hbl; have e8 := hb1.cell (p := ⟨B, 8, none⟩) hbl; have e9 := hb1.cell (p := ⟨B, 9, none⟩) hbl; have e10 := hb1.cell (p := ⟨B, 10, none⟩) hbl; have e11 := hb1.cell (p := ad.add a) had; have p0 := hs0.fresh hb1; have q0 := ht0.fresh hb1; have pe := he.fresh hb1)
      | (go_at_call 63; refine (HB0.out _ p0).mono ?_; rintro e w' ⟨rfl, rfl⟩)
      | (go_at_call 67; refine (HC0.out _ q0 pe).mono ?_; rintro e w' ⟨rfl, nd, rfl⟩)
      | (go_at_call 65; refine (wrap_any _ _).mono ?_; rintro e w' ⟨rfl, rfl⟩))
  refine hQ _ _ _ _ _ _ _ _ _ _ _ _ _ _ _ ?_
  exact ((Keeps.of_below hb1 (fun _ => False)).drewN nd).to_below
end Go.Proofs.YtempdomhbfokmaaGreatDoor

namespace Go.Proofs.YtempdomhbfokmaaGreatDoor
open Go.RowKit

set_option maxRecDepth 100000 in
set_option maxHeartbeats 4000000 in
theorem conv_any (w : World) (T T' T2 : Nat → Prop) (M : Model) (v4 v5 v6 v7 v8 v9 v10 : Value) (h : MSl w T M v4 v5 v6 v7 v8 v9 v10) (hM : M.Ok) (hkind : M.kind = 3)
    (E : Option Addr) (ce : Nat) (vs : List Value) (es : List (List Int)) (hE : Reads w T' 1 E es.length vs) (hR : Rows w T2 vs es) (hes : goodEntries M es) (hn2 : es.length ≤ 64) :
    Calls Tryz.prog 97 #[.agg #[.int .i64 M.kind, .int .i64 M.vocab, .int .i64 M.width, .int .i64 M.top, v4, v5, v6, v7, v8, v9, v10], .slice E es.length ce] w (RetFresh w 3 1 M.width (ints (M.convF es))) := by
  obtain ⟨hw1, hw2⟩ := hM.width
  replace h := h.old
  replace hR := hR.old
  replace hE := hE.old
  clear T T' T2
  have hlen : ∀ e ∈ es, e.length = M.width := fun e he => by have := (hes e he).1; unfold Model.len at this; rw [if_neg (by omega)] at this; exact this
  obtain ⟨A4, c4, rfl⟩ := h.cuts.len
  obtain ⟨A7, c7, rfl⟩ := h.mix.len
  have hcut : 1 < M.cuts.length := by have := hM.lcuts; omega
  obtain ⟨t1, t2, t3⟩ := M.taps_in hM hkind
  obtain ⟨q1, q2, -⟩ := sq_bounds _ hw2
  have hq25 : M.width * M.width ≤ 5 * 5 := mul_bounds _ _ _ _ hw2 hw2
  obtain ⟨ww, hww⟩ : ∃ ww, ww = M.width * M.width := ⟨_, rfl⟩
  have e1 : (M.width : Int) * M.width = (ww : Int) := by rw [hww]; simp
  have hwp : 1 ≤ ww := by rw [hww]; exact Nat.mul_pos (by omega) (by omega)
  rw [← hww] at hq25 t3
  obtain ⟨tp, htp⟩ : ∃ tp, tp = M.taps := ⟨_, rfl⟩
  rw [← htp] at t1 t2 t3
  have hml : M.mix.length ≤ 100 := by
    have := mul_bounds tp ww 4 25 t2 hq25
    omega
  have HROW : Hid (∀ W, Calls Tryz.prog 64 #[.slice A7 M.mix.length c7, .int .i64 ww] W fun e w' => e = .returned (.int .i64 tp) ∧ W = w') := Lib.hid fun W => rows_ok _ _ _ _ tp W hwp (by omega) t3 (by omega)
  have HMIX : Hid (∀ j, j < tp → (j + 1) * (M.width * M.width) ≤ M.mix.length) := Lib.hid fun j hj => by
    rw [← hww, t3]
    exact Nat.mul_le_mul_right _ hj
  have HLN := Lib.hid hlen
  have HES := Lib.hid hes
  have HTP := Lib.hid htp
  have HCF : Hid (∀ o, M.convAt es o = max (shiftF (M.tapTo es o tp) (M.cut 1)) 0) := Lib.hid fun o => by rw [htp]; rfl
  have HML : Hid (M.mix.length ≤ 65536) := Lib.hid (by omega)
  clear hkind hlen hes htp hww t3 hwp hml q1 q2
  go_enter Tryz.func97, Tryz.ntmps97
  go_wp2_with fail
  refine (HROW.out _).mono ?_
  rintro e w' ⟨rfl, rfl⟩
  clear e1 HROW
  go_wp2_with (at_make; refine wpList_make_ints _ rfl _ _ rfl _ _ M.width rfl rfl rfl rfl (by omega) ?_; intro w1 hown hb1 hz1)
  have hm1 := (h.alloc _).fresh hb1
  have hE1 := (hE.alloc _).fresh hb1
  have hR1 := (hR.alloc _).fresh hb1
  have k1 := (Blk.new w 35 _).below hb1 (by simp)
  have b1 : Below w.heap.size w w1 := ((Below.refl _ _).alloc (Nat.le_refl _) _).trans (hb1.mono (by simp))
  obtain ⟨G, hG⟩ : ∃ G, G = w.heap.size + 1 := ⟨_, rfl⟩
  have hown1 : Own w1 (fun g => g = G) 3 1 (.slice (some ⟨G, 0, none⟩) M.width M.width) M.width (ints ((List.range 0).map (M.convAt es) ++ List.replicate (M.width - 0) 0)) := by
    rw [hG]; simpa using hown
  have z1 : G < w1.heap.size := by rw [hG]; simp at hz1; omega
  rw [← hG]
  have zG : w.heap.size < G := by omega
  clear hb1 h hE hR hown hz1 hG
  go_loopw [24] (fun i wr => ∃ o : Nat, o ≤ M.width ∧ i = .int .i64 o ∧ Own wr (fun g => g = G) 3 1 (.slice (some ⟨G, 0, none⟩) M.width M.width) M.width (ints ((List.range o).map (M.convAt es) ++ List.replicate (M.width - o) 0)) ∧ Keeps (· = G) w1 wr) (fun i _ => M.width - (intOf i).toNat)
  case atStart => exact ⟨0, by omega, rfl, hown1, Keeps.refl _ _⟩
  obtain ⟨o, ho1, rfl, hoq, hkp⟩ := hrel
  clear hown1
  by_cases hlt2 : o < M.width
  · have hmq := hm1.keeps hkp (fun i hi => by omega)
    have kwq := hkp.blk k1 (by omega)
    have hEq := hE1.keeps hkp (fun i hi => by omega)
    have hRq := hR1.keeps hkp (fun i hi => by omega)
    have HOQ := Lib.hid hoq
    have HKP := Lib.hid hkp
    have hGw := hkp.size
    obtain ⟨wo, rfl⟩ : ∃ wo : World, wo = wr := ⟨_, rfl⟩
    clear hoq hkp
    go_wp2_with fail
    go_loopw [9, 28] (fun v i wr => ∃ j : Nat, j ≤ tp ∧ i = .int .i64 j ∧ v = .int .i64 (M.tapTo es o j) ∧ Below wo.heap.size wo wr) (fun _ i _ => tp - (intOf i).toNat)
    case atStart => exact ⟨0, by omega, rfl, rfl, Below.refl _ _⟩
    obtain ⟨j, hj, rfl, rfl, hb⟩ := hrel
    have hmr := hmq.fresh hb
    have kwr := kwq.below hb kwq.lt
    by_cases hlt3 : j < tp
    · have HST := Lib.hid (M.tapTo_succ es o j)
      have hsw := M.tapTo_word es o j
      obtain ⟨s, hs⟩ : ∃ s, s = M.tapTo es o j := ⟨_, rfl⟩
      rw [← hs] at HST hsw ⊢
      clear hs
      by_cases hneg : es.length + j < tp
      · have i1 : (es.length : Int) - tp + j < 0 := by omega
        have HSE : Hid (M.tapTo es o (j + 1) = s) := Lib.hid (by rw [HST.out]; unfold Model.tapAt; rw [if_pos (by rw [← HTP.out]; exact hneg)])
        clear HST hneg
        go_wp2_with fail
        go_roundw
        case rel => exact ⟨j + 1, by omega, by go_num, by rw [HSE.out], hb⟩
        case measure => simp [intOf]; omega
      · obtain ⟨a, ha⟩ : ∃ a, a = es.length + j - tp := ⟨_, rfl⟩
        have i1 : (es.length : Int) - tp + j = (a : Int) := by omega
        have hla : a < es.length := by omega
        obtain ⟨E'', u, e, hltE, -, hu, hck⟩ := (hEq.fresh hb).at_ hla
        subst e
        obtain ⟨vk, hvk, Ak, ck, rfl, rk, l1, l2, l3⟩ := (hRq.fresh hb).2 a hla
        rw [hvk] at hu
        injection hu with hu
        subst hu
        have hkl := HLN.out _ (List.getElem_mem hla)
        obtain ⟨-, hkw⟩ := HES.out _ (List.getElem_mem hla)
        have hsk : Slc wr (· < w.heap.size) (.slice Ak es[a].length ck) es[a] := ⟨Ak, ck, rfl, rk, l1, l2, l3⟩
        have HSE : Hid (M.tapTo es o (j + 1) = Go.Proofs.YtempdomhbfokmaaGreatDoor.wr (s + dotF (rowF (M.matrix j) o M.width) es[a])) := Lib.hid (by
          rw [HST.out]; unfold Model.tapAt
          rw [if_neg (by rw [← HTP.out]; exact hneg), ← HTP.out, ← ha]
          simp [List.getD, hla])
        obtain ⟨ek, hek⟩ : ∃ ek, ek = es[a] := ⟨_, rfl⟩
        rw [← hek] at hck hkl hkw hsk HSE
        have hltE' : (E''.add a).block < wr.heap.size := by rw [block_of_add]; exact hltE
        have HKL := Lib.hid hkl
        clear hek hvk rk l1 l2 l3 hkl ha hneg HST
        go_wp2_with fail
        refine conv_r13 wr _ _ M _ _ _ _ _ _ _ hmr hM j o _ (HMIX.out j hlt3) (by omega) HML.out hlt2 E'' es.length ce a hla _ ek hck hltE' hsk HKL.out hkw s hsw kwr _ _ _ _ _ _ _ _ _ _ _ _ _ _ _ _ _ _ _ _ _ _ _ _ _ _ _ _ _ _ _ _ _ _ _ _ _ _ _ _ _ _ _ _ _ _ _ _ _ _ _ _ _ _ _ _ _ _ _ _ ?_
        intro w3 y39 y40 y41 y42 y43 y44 y45 y46 y47 y48 y49 y50 y51 y52 hb3
        rw [← HSE.out]
        clear hsw hck hkw hsk hmr kwr
        go_wp2_with fail
        go_roundw
        case rel => exact ⟨j + 1, by omega, by go_num, rfl, hb.trans (hb3.mono hb.size)⟩
        case measure => simp [intOf]; omega
    · obtain rfl : j = tp := by omega
      obtain ⟨-, ad4, e4, cc⟩ := hmr.cuts.at_ 1 hcut
      subst e4
      obtain ⟨cu1, cu2⟩ := M.cut_in hM 1 (by omega)
      have hcutE : M.cuts[1] = M.cut 1 := by simp [Model.cut, List.getD, hcut]
      rw [hcutE] at cc
      have cc' : wr.cell? ⟨ad4.block, ad4.off + 1, none⟩ = some (.int .i64 (M.cut 1)) := by simpa [Addr.add] using cc
      have i4 : (1 : Int) < M.cuts.length := by omega
      have kc := kwr.cell 4
      have ho3 := HOQ.out.fresh hb
      have hk3 := HKP.out.fresh hb
      have hfr := ho3.unfrozen o
      have hcr := ho3.get o hlt2
      rw [ints_get _ o (by rw [fill_length _ _ _ ho1]; exact hlt2)] at hcr
      generalize ((List.range o).map (M.convAt es) ++ List.replicate (M.width - o) 0)[o]'(by rw [fill_length _ _ _ ho1]; exact hlt2) = zo at hcr
      have HCA := Lib.hid (HCF.out o)
      have hfin : ∀ z : Int, z = M.convAt es o → Own (wr.setCell ⟨G, o, none⟩ (.int .i64 z)) (fun g => g = G) 3 1 (.slice (some ⟨G, 0, none⟩) M.width M.width) M.width (ints ((List.range (o + 1)).map (M.convAt es) ++ List.replicate (M.width - (o + 1)) 0)) := by
        intro z hz
        have := ho3.set o hlt2 (.int .i64 z)
        rw [← fill_step _ _ _ hlt2, ← hz]
        simpa [ints, List.map_set] using this
      have HFN := Lib.hid hfin
      obtain ⟨q1, q2⟩ := M.tapTo_word es o j
      generalize M.tapTo es o j = sm at *
      obtain ⟨c1, hc1⟩ : ∃ c1, c1 = M.cut 1 := ⟨_, rfl⟩
      rw [← hc1] at cc cc' cu1 cu2 HCA
      obtain ⟨sh, hsh⟩ : ∃ sh, sh = shiftF sm c1 := ⟨_, rfl⟩
      rw [← hsh] at HCA
      have HSH : Hid (∀ W, Calls Tryz.prog 66 #[.int .i64 sm, .int .i64 c1] W fun e w' => e = .returned (.int .i64 sh) ∧ W = w') := Lib.hid fun W => by rw [hsh]; exact shift_any sm c1 W cu1 cu2 ⟨by omega, by omega⟩
      have HK3 := Lib.hid hk3
      clear hfin hc1 hsh hcutE cu1 cu2 q1 q2 cc hk3 HCF HES HLN hb
      go_wp2_with fail
      refine (HSH.out _).mono ?_
      rintro e w' ⟨rfl, rfl⟩
      go_wp2_with fail
      all_goals
        go_roundw
        case rel => exact ⟨o + 1, by omega, by go_num, HFN.out _ (by rw [HCA.out]; omega), Keeps.setCell HK3.out (fun _ => rfl) _⟩
        case measure => simp [intOf]; omega
  · obtain rfl : o = M.width := by omega
    have e0 : (List.range M.width).map (M.convAt es) ++ List.replicate (M.width - M.width) 0 = M.convF es := by simp [Model.convF]
    rw [e0] at hoq
    go_wp2_with fail
    go_ret
    exact ⟨_, rfl, hoq.more fun g _ hg => by have hg' : g = G := hg; omega, b1.trans ⟨hkp.os, hkp.tape, hkp.output, hkp.size, fun q hq => hkp.block q (by have := b1.size; omega) (by omega)⟩⟩
end Go.Proofs.YtempdomhbfokmaaGreatDoor

namespace Go.Proofs.YtempdomhbfokmaaGreatDoor
open Go.RowKit

theorem Model.kind_in (M : Model) (hM : M.Ok) : M.kind = 1 ∨ M.kind = 2 ∨ M.kind = 3 := by
  have := hM.kind
  omega
theorem mixed_fn (M : Model) (hM : M.Ok) : (M.kind = 1 ∧ ∀ es, M.mixed es = M.attend es) ∨ (M.kind = 2 ∧ ∀ es, M.mixed es = M.cellF es) ∨ (M.kind = 3 ∧ ∀ es, M.mixed es = M.convF es) := by
  rcases M.kind_in hM with e | e | e
  · exact .inl ⟨e, fun es => by unfold Model.mixed; rw [if_pos e]⟩
  · exact .inr (.inl ⟨e, fun es => by unfold Model.mixed; rw [if_neg (by omega), if_pos e]⟩)
  · exact .inr (.inr ⟨e, fun es => by unfold Model.mixed; rw [if_neg (by omega), if_neg (by omega)]⟩)

set_option maxRecDepth 100000 in
set_option maxHeartbeats 4000000 in
theorem scores_any (w : World) (T T' T2 : Nat → Prop) (M : Model) (v4 v5 v6 v7 v8 v9 v10 : Value) (h : MSl w T M v4 v5 v6 v7 v8 v9 v10) (hM : M.Ok)
    (E : Option Addr) (ce : Nat) (vs : List Value) (es : List (List Int)) (hE : Reads w T' 1 E es.length vs) (hR : Rows w T2 vs es) (hes : goodEntries M es) (hn1 : 1 ≤ es.length) (hn2 : es.length ≤ 64) :
    Calls Tryz.prog 71 #[.agg #[.int .i64 M.kind, .int .i64 M.vocab, .int .i64 M.width, .int .i64 M.top, v4, v5, v6, v7, v8, v9, v10], .slice E es.length ce] w (RetFresh w 3 1 M.vocab (ints (M.scores es))) := by
  obtain ⟨i0, hi, hz0, hz1, hz2⟩ := info_parts int_info
  obtain ⟨hw1, hw2⟩ := hM.width
  obtain ⟨hv1, hv2⟩ := hM.vocab
  replace h := h.old
  replace hR := hR.old
  replace hE := hE.old
  clear T T' T2
  have hal := M.mixed_length hM es hes
  have haw := M.mixed_word hM es
  have hol := hM.lout
  have HAL := Lib.hid hal
  have HOL := Lib.hid hol
  have HSC : Hid (M.scores es = (List.range M.vocab).map fun v => dotF (rowF M.out v M.width) (M.mixed es)) := Lib.hid rfl
  have hb5 := mul_bounds _ _ _ _ hv2 hw2
  have HOL2 : Hid (M.out.length ≤ 65536) := Lib.hid (by omega)
  have HAT : Hid (∀ W, Below w.heap.size w W → (M.kind = 1 → Calls Tryz.prog 95 #[.agg #[.int .i64 M.kind, .int .i64 M.vocab, .int .i64 M.width, .int .i64 M.top, v4, v5, v6, v7, v8, v9, v10], .slice E es.length ce] W (RetFresh W 3 1 M.width (ints (M.mixed es)))) ∧ (M.kind = 2 → Calls Tryz.prog 96 #[.agg #[.int .i64 M.kind, .int .i64 M.vocab, .int .i64 M.width, .int .i64 M.top, v4, v5, v6, v7, v8, v9, v10], .slice E es.length ce] W (RetFresh W 3 1 M.width (ints (M.mixed es)))) ∧ (M.kind = 3 → Calls Tryz.prog 97 #[.agg #[.int .i64 M.kind, .int .i64 M.vocab, .int .i64 M.width, .int .i64 M.top, v4, v5, v6, v7, v8, v9, v10], .slice E es.length ce] W (RetFresh W 3 1 M.width (ints (M.mixed es))))) := Lib.hid fun W hW => by
    refine ⟨fun hk => ?_, fun hk => ?_, fun hk => ?_⟩
    · rw [show M.mixed es = M.attend es by unfold Model.mixed; rw [if_pos hk]]
      exact attend_any _ _ _ _ M v4 v5 v6 v7 v8 v9 v10 (h.fresh hW) hM hk E ce vs es (hE.fresh hW) (hR.fresh hW) hes hn1 hn2
    · rw [show M.mixed es = M.cellF es by unfold Model.mixed; rw [if_neg (by omega), if_pos hk]]
      exact cell_any _ _ _ _ M v4 v5 v6 v7 v8 v9 v10 (h.fresh hW) hM hk E ce vs es (hE.fresh hW) (hR.fresh hW) hes hn2
    · rw [show M.mixed es = M.convF es by unfold Model.mixed; rw [if_neg (by omega), if_neg (by omega)]]
      exact conv_any _ _ _ _ M v4 v5 v6 v7 v8 v9 v10 (h.fresh hW) hM hk E ce vs es (hE.fresh hW) (hR.fresh hW) hes hn2
  have hkk := M.kind_in hM
  rw [HSC.out]
  generalize M.mixed es = mx at *
  clear hal hol hb5 HSC hes
  have HR := Lib.hid hR
  have HE := Lib.hid hE
  clear hR hE
  obtain ⟨W0, hW0⟩ : ∃ W0, W0 = w.alloc (.cells #[.int .i64 M.kind, .int .i64 M.vocab, .int .i64 M.width, .int .i64 M.top, v4, v5, v6, v7, v8, v9, v10] 35) := ⟨_, rfl⟩
  have hb0 : Below w.heap.size w W0 := by rw [hW0]; exact (Below.refl _ _).alloc (Nat.le_refl _) _
  have k0 : Blk W0 w.heap.size 35 #[.int .i64 M.kind, .int .i64 M.vocab, .int .i64 M.width, .int .i64 M.top, v4, v5, v6, v7, v8, v9, v10] := by rw [hW0]; exact Blk.new w 35 _
  have hAt := HAT.out W0 hb0
  obtain ⟨hA1, hA2, hA3⟩ := hAt
  have HA1 := Lib.hid hA1
  have HA2 := Lib.hid hA2
  have HA3 := Lib.hid hA3
  have hm0 := h.fresh hb0
  clear hA1 hA2 hA3 HAT h
  -- what follows once the mix is there
  have REST : ∀ (va : Value) (w1 : World), Fresh W0 w1 3 1 va M.width (ints mx) → Blk w1 w.heap.size 35 #[.int .i64 M.kind, .int .i64 M.vocab, .int .i64 M.width, .int .i64 M.top, v4, v5, v6, v7, v8, v9, v10] ∧ MSl w1 (· < w.heap.size) M v4 v5 v6 v7 v8 v9 v10 ∧ Slc w1 (fun g => w.heap.size ≤ g) va mx ∧ Below w.heap.size w w1 := by
    rintro va w1 ⟨hown, hb1⟩
    exact ⟨k0.below hb1 k0.lt, hm0.fresh hb1, (hown.slc).more fun g _ hg => by have := hb0.size; have hg' : W0.heap.size ≤ g := hg; omega, hb0.trans (hb1.mono hb0.size)⟩
  have HREST := Lib.hid REST
  clear REST hm0 k0
  subst hW0
  go_enter Tryz.func71, Tryz.ntmps71
  rcases hkk with hk | hk | hk
  all_goals first
    | (have hk1 : (M.kind == 1) = true := by simpa using hk
       have HC := Lib.hid (HA1.out hk)
       clear hk HA1 HA2 HA3
       go_wp2_with fail)
    | (have hk2 : (M.kind == 2) = true := by simpa using hk
       have hk1 : (M.kind == 1) = false := by simp [hk]
       have HC := Lib.hid (HA2.out hk)
       clear hk HA1 HA2 HA3
       go_wp2_with fail)
    | (have hk2 : (M.kind == 2) = false := by simp [hk]
       have hk1 : (M.kind == 1) = false := by simp [hk]
       have HC := Lib.hid (HA3.out hk)
       clear hk HA1 HA2 HA3
       go_wp2_with fail)
  all_goals
    refine HC.out.mono ?_
    rintro e w1 ⟨va, rfl, hfr⟩
    obtain ⟨k1, h1, hat, b1⟩ := HREST.out _ _ hfr
    clear hfr HC
    have z1 := k1.lt
    have q1 := k1.cell
    go_wp2_with fail
    go_loopw [6, 25] (fun v i wr => ∃ k : Nat, k ≤ M.vocab ∧ i = .int .i64 k ∧ Own wr (fun g => w1.heap.size ≤ g) 3 1 v k (ints ((List.range k).map fun v => dotF (rowF M.out v M.width) mx)) ∧ Below w1.heap.size w1 wr) (fun _ i _ => M.vocab - (intOf i).toNat)
    case atStart => exact ⟨0, by omega, rfl, by simpa [ints] using Own.nil_ w1 (fun g => w1.heap.size ≤ g) 3 1, Below.refl _ _⟩
    obtain ⟨k, hk, rfl, ho, hb⟩ := hrel
    by_cases hlt : k < M.vocab
    · have hkr : (k + 1) * M.width ≤ M.out.length := by rw [HOL.out]; exact Nat.mul_le_mul_right _ hlt
      have hrl := rowF_length _ _ _ hkr
      have hrw : inRange (-4294967296) 4294967296 (rowF M.out k M.width) := fun z hz => by have := hM.out z (List.mem_of_mem_drop (List.mem_of_mem_take hz)); omega
      have hmr := h1.fresh hb
      have har := hat.fresh hb
      have kr := (k1.below hb z1).cell
      have HRL := Lib.hid hrl
      clear hrl
      go_wp2_with fail
      refine (row_any _ _ _ M.out k M.width hmr.out hkr HOL2.out (by omega) (by omega)).mono ?_
      rintro e w' ⟨rfl, rfl⟩
      go_wp2_with fail
      refine (dot_any _ _ _ _ _ _ _ (hmr.out.row k M.width hkr) har (by rw [HRL.out, HAL.out]) hrw haw).mono ?_
      rintro e w' ⟨rfl, nd, rfl⟩
      go_wp2_with (at_builtin; refine wpList_append_any _ rfl _ _ 22 rfl 3 i0 _ 1 8 Tryz.underlying22 hi hz0 hz1 hz2 rfl (by omega) u6 _ _ rfl ((ho.drewN nd).alloc _) _ 1 1 _ rfl (reads_new _ _ [_] 1 rfl) (ints_one _) (by unfold maxLen; omega) (by omega) ?_; intro v' w' happ)
      go_roundw
      case rel =>
        have hg := grown_after (wr := wr) (W1 := wr) (n := nd) (Below.refl _ _) happ.2.1
        refine ⟨k + 1, by omega, by go_num, ?_, ⟨hg.os.trans hb.os, hg.tape.trans hb.tape, hg.output.trans hb.output, Nat.le_trans hb.size hg.size, fun q hq => (hg.block q (Nat.lt_of_lt_of_le hq hb.size) (fun e => by have := ho.2 _ e.symm; simp at this; omega)).trans (hb.block q hq)⟩⟩
        have hwz := hb.size
        have := happ.1.more (T' := fun g => w1.heap.size ≤ g) fun g _ hg => by
          rcases hg with hg | hg
          · exact hg
          · simp at hg; omega
        rw [range_map_succ]
        simpa [ints] using this
      case measure => simp [intOf]; omega
    · obtain rfl : k = M.vocab := by omega
      go_wp2_with fail
      go_ret
      exact ⟨_, rfl, ho.more fun g _ hg => by have hg' : w1.heap.size ≤ g := hg; have := b1.size; omega, b1.trans (hb.mono b1.size)⟩
end Go.Proofs.YtempdomhbfokmaaGreatDoor

namespace Go.Proofs.YtempdomhbfokmaaGreatDoor
open Go.RowKit

theorem isum_pos (l : List Int) (m : Int) (h : inRange 0 m l) (j : Nat) (y : Int) (hj : l[j]? = some y) (hy : 0 < y) : 0 < isum l := by
  induction l generalizing j with
  | nil => simp at hj
  | cons x l ih =>
    rw [isum_cons]
    have h0 := h x (by simp)
    have h1 := isum_bounds l m fun z hz => h z (by simp [hz])
    match j, hj with
    | 0, hj => simp at hj; omega
    | j + 1, hj =>
      have := ih (fun z hz => h z (by simp [hz])) j (by simpa using hj)
      omega
def setAll (g : Nat → Int) (l : List Int) (o : List Int) : List Int := l.foldl (fun out v => out.set v.toNat (g v.toNat)) o
theorem setAll_range (g : Nat → Int) (a b : Int) (hg : ∀ k, a ≤ g k ∧ g k ≤ b) (l : List Int) : ∀ o : List Int, inRange a b o → inRange a b (setAll g l o) := by
  induction l with
  | nil => exact fun o h => h
  | cons x l ih =>
    intro o h
    refine ih _ fun z hz => ?_
    rcases List.mem_or_eq_of_mem_set hz with h1 | h1
    · exact h z h1
    · subst h1; exact hg _
theorem setAll_stay (g : Nat → Int) (l : List Int) (j : Nat) : ∀ o : List Int, o[j]? = some (g j) → (setAll g l o)[j]? = some (g j) := by
  induction l with
  | nil => exact fun o h => h
  | cons x l ih =>
    intro o h
    refine ih _ ?_
    by_cases e : x.toNat = j
    · subst e
      have : x.toNat < o.length := by
        rcases Nat.lt_or_ge x.toNat o.length with h1 | h1
        · exact h1
        · rw [List.getElem?_eq_none h1] at h; simp at h
      simp [List.getElem?_set, this]
    · rw [List.getElem?_set_ne e]; exact h
theorem Model.weights_length (m : Model) (s : List Int) : (m.weights s).length = m.vocab := by
  have := m.wTo_length s (rankF s m.top).length
  unfold Model.wTo at this
  rwa [List.take_of_length_le (Nat.le_refl _)] at this
def Model.wAt (m : Model) (s : List Int) (v : Nat) : Int := m.odds.getD (min ((maxF s - s.getD v 0) / 2 ^ (m.cut 3).toNat).toNat (m.odds.length - 1)) 0
theorem Model.weights_eq (m : Model) (s : List Int) : m.weights s = setAll (m.wAt s) (rankF s m.top) (List.replicate m.vocab 0) := rfl
theorem Model.wAt_range (m : Model) (hM : m.Ok) (s : List Int) (v : Nat) : 0 ≤ m.wAt s v ∧ m.wAt s v ≤ 1000 := by
  unfold Model.wAt
  have h := hM.lodds
  have : min ((maxF s - s.getD v 0) / 2 ^ (m.cut 3).toNat).toNat (m.odds.length - 1) < m.odds.length := by omega
  generalize min ((maxF s - s.getD v 0) / 2 ^ (m.cut 3).toNat).toNat (m.odds.length - 1) = k at this
  have e : m.odds.getD k 0 = m.odds[k] := by simp [List.getD, this]
  rw [e]
  exact hM.odds _ (List.getElem_mem this)
theorem Model.weights_range (m : Model) (hM : m.Ok) (s : List Int) : inRange 0 1000 (m.weights s) := by
  rw [m.weights_eq]
  refine setAll_range _ 0 1000 (m.wAt_range hM s) _ _ fun z hz => ?_
  rw [List.mem_replicate] at hz
  omega
theorem rankCmp_asym (l : List Int) (a b : Int) : decide (rankCmp l a b < 0) = true → decide (rankCmp l b a < 0) = false := by
  unfold rankCmp cmpI
  simp only [decide_eq_true_eq, decide_eq_false_iff_not]
  split <;> split <;> (try split) <;> (try split) <;> omega
theorem rankCmp_ntr (l : List Int) (a b c : Int) : decide (rankCmp l b a < 0) = false → decide (rankCmp l c b < 0) = false → decide (rankCmp l c a < 0) = false := by
  unfold rankCmp cmpI
  simp only [decide_eq_false_iff_not]
  intro h1 h2
  (repeat' split at h1) <;> (repeat' split at h2) <;> (repeat' split) <;> omega
theorem rankF_head (s : List Int) (k : Nat) (hk : 1 ≤ k) (hs : 1 ≤ s.length) : ∃ r rest, rankF s k = r :: rest ∧ r.toNat < s.length ∧ maxF s = s.getD r.toNat 0 := by
  have hl : (isort (fun a b => decide (rankCmp s a b < 0)) (order s.length)).length = s.length := by simp [isort, isortTo_length, order]
  have hso := isort_sorted (fun a b => decide (rankCmp s a b < 0)) (rankCmp_asym s) (rankCmp_ntr s) (order s.length)
  have hpe := isort_perm (fun a b => decide (rankCmp s a b < 0)) (order s.length)
  have hme : ∀ x ∈ isort (fun a b => decide (rankCmp s a b < 0)) (order s.length), 0 ≤ x ∧ x < s.length := fun x hx => order_mem (hpe.mem_iff.1 hx)
  have hr : rankF s k = (isort (fun a b => decide (rankCmp s a b < 0)) (order s.length)).take k := rfl
  generalize isort (fun a b => decide (rankCmp s a b < 0)) (order s.length) = L at *
  match L, hl, hr with
  | [], hl, _ => simp at hl; omega
  | r :: L, hl, hr =>
    obtain ⟨k, rfl⟩ : ∃ k', k = k' + 1 := ⟨k - 1, by omega⟩
    have hr0 := hme r (by simp)
    have hrl : r.toNat < s.length := by omega
    refine ⟨r, L.take k, by rw [hr]; rfl, hrl, ?_⟩
    have hup : ∀ x ∈ s, x ≤ s.getD r.toNat 0 := by
      intro x hx
      obtain ⟨j, hj, rfl⟩ := List.mem_iff_getElem.1 hx
      have hjo : (j : Int) ∈ order s.length := by unfold order; exact List.mem_map.2 ⟨j, List.mem_range.2 hj, rfl⟩
      have hjL := hpe.mem_iff.2 hjo
      obtain ⟨i, hi, he⟩ := List.mem_iff_getElem.1 hjL
      have e1 : s[j] = s.getD j 0 := by simp [List.getD, hj]
      rw [e1]
      match i, hi, he with
      | 0, hi, he =>
        simp at he
        rw [he]
        simp
      | i + 1, hi, he =>
        have h := hso 0 (i + 1) (by omega) (by simpa [order] using (show i + 1 < s.length by rw [← hl]; exact hi)) r (j : Int) rfl (by rw [List.getElem?_eq_getElem hi, he])
        simp only [decide_eq_false_iff_not, rankCmp, cmpI, Int.toNat_natCast] at h
        split at h
        · omega
        · split at h <;> omega
    have h1 : s.getD r.toNat 0 ≤ maxF s := by
      have e1 : s.getD r.toNat 0 = s[r.toNat] := by simp [List.getD, hrl]
      rw [e1]
      exact maxF_ge s (List.getElem_mem hrl)
    have h2 : maxF s ∈ s := by
      match s, hs with
      | y :: s, _ =>
        have key : ∀ (l : List Int) (z : Int), l.foldl max z = z ∨ l.foldl max z ∈ l := by
          intro l
          induction l with
          | nil => exact fun z => Or.inl rfl
          | cons p l ih =>
            intro z
            rw [List.foldl_cons]
            rcases ih (max z p) with h | h
            · rw [h]
              rcases Int.le_total z p with h1 | h1
              · right; simp [Int.max_eq_right h1]
              · left; exact Int.max_eq_left h1
            · right; simp [h]
        rcases key s y with h | h
        · simp [maxF, h]
        · simp [maxF, h]
    have := hup _ h2
    omega
theorem Model.weights_pos (m : Model) (hM : m.Ok) (s : List Int) (hs : s.length = m.vocab) : 0 < isum (m.weights s) := by
  have hv := hM.vocab
  obtain ⟨r, rest, e, hr, hmax⟩ := rankF_head s m.top hM.top.1 (by omega)
  have hg : m.wAt s r.toNat = m.odds.getD 0 0 := by
    unfold Model.wAt
    rw [hmax]
    simp
  have h0 : (m.weights s)[r.toNat]? = some (m.wAt s r.toNat) := by
    rw [m.weights_eq, e]
    refine setAll_stay (m.wAt s) rest r.toNat _ ?_
    have : r.toNat < m.vocab := by omega
    simp [List.getElem?_set, this]
  refine isum_pos _ _ (m.weights_range hM s) _ _ h0 ?_
  have h1 := m.wAt_range hM s r.toNat
  have h2 := hM.odds0
  rw [hg] at h1 ⊢
  omega

/-- The next token for entries and a draw. -/
def Model.next (m : Model) (es : List (List Int)) (d : Int) : Nat := sampleF (m.weights (m.scores es)) d
theorem Model.scores_length (m : Model) (es : List (List Int)) : (m.scores es).length = m.vocab := by simp [Model.scores]
theorem Model.next_lt (m : Model) (hM : m.Ok) (es : List (List Int)) (d : Int) (hd : 0 ≤ d ∧ d < 4294967296) : m.next es d < m.vocab := by
  have := sampleF_lt (m.weights (m.scores es)) d hd (m.weights_pos hM _ (m.scores_length es))
  rwa [m.weights_length] at this
end Go.Proofs.YtempdomhbfokmaaGreatDoor

namespace Go.Proofs.YtempdomhbfokmaaGreatDoor
open Go.RowKit

theorem Model.x_length (M : Model) (hM : M.Ok) (t i : Nat) (ht : t < M.vocab) : (M.x t i).length = M.width := by
  obtain ⟨tp, hp1, hp2, hp3⟩ := hM.lplace
  have hw := hM.width
  have h1 := rowF_length M.embed t M.width (by rw [hM.lembed]; exact Nat.mul_le_mul_right _ ht)
  have hr : M.rows = tp := by unfold Model.rows; rw [hp3]; exact Nat.mul_div_cancel _ (by omega)
  have h2 := rowF_length M.place (i % M.rows) M.width (by rw [hp3, hr]; exact Nat.mul_le_mul_right _ (Nat.mod_lt _ hp1))
  unfold Model.x
  exact addRow_length _ _ _ h1 h2
theorem addRow_word (x y : List Int) : inRange (-2147483648) 2147483647 (addRow x y) := by
  intro z hz
  unfold addRow at hz
  rw [List.mem_iff_getElem] at hz
  obtain ⟨k, hk, rfl⟩ := hz
  rw [List.getElem_zipWith]
  exact wr_range _
theorem Model.entry_good (M : Model) (hM : M.Ok) (t i : Nat) (ht : t < M.vocab) : (M.entry t i).length = M.len ∧ inRange (-2147483648) 2147483647 (M.entry t i) := by
  by_cases hkind : M.kind = 1
  · have hc := hM.lcuts
    have h0 : 0 < M.cuts.length := by omega
    have hcut := hM.cuts _ (List.getElem_mem h0)
    have e : M.cuts[0] = M.cut 0 := by simp [Model.cut, List.getD, h0]
    rw [e] at hcut
    unfold Model.entry Model.len
    rw [if_pos hkind, if_pos hkind]
    constructor
    · have := ent_flat_length M t i 3
      simpa [Model.ent] using this
    · intro z hz
      obtain ⟨k, -, hz⟩ := List.mem_flatMap.1 hz
      obtain ⟨o, -, rfl⟩ := List.mem_map.1 hz
      exact shiftF_word _ _ hcut.1 hcut.2 (dotF_word _ _)
  · unfold Model.entry Model.len
    rw [if_neg hkind, if_neg hkind]
    exact ⟨M.x_length hM t i ht, addRow_word _ _⟩

set_option maxHeartbeats 400000 in
theorem isWordM_yes (n : Int) (w : World) (h1 : -2147483648 ≤ n) (h2 : n ≤ 2147483647) :
    Calls Tryz.prog 34 #[.int .i64 n] w fun e w' => e = .returned (.bool true) ∧ w = w' := by
  go_enter Tryz.func34, Tryz.ntmps34
  go_wp2_with (go_at_call 33; refine (within_yes _ _ _ _ h1 h2).mono ?_; rintro e w' ⟨rfl, rfl⟩)
  go_ret
  exact ⟨rfl, rfl⟩
theorem Rows.drew {w : World} {T : Nat → Prop} {vs : List Value} {ls : List (List Int)} (h : Rows w T vs ls) : Rows w.drew T vs ls := h
theorem mcells {w : World} {g : Nat} {M : Model} {v4 v5 v6 v7 v8 v9 v10 : Value} (h : Blk w g 35 #[.int .i64 M.kind, .int .i64 M.vocab, .int .i64 M.width, .int .i64 M.top, v4, v5, v6, v7, v8, v9, v10]) :
    w.cell? ⟨g, 0, none⟩ = some (.int .i64 M.kind) ∧ w.cell? ⟨g, 1, none⟩ = some (.int .i64 M.vocab) ∧ w.cell? ⟨g, 2, none⟩ = some (.int .i64 M.width) ∧ w.cell? ⟨g, 3, none⟩ = some (.int .i64 M.top) ∧ w.cell? ⟨g, 4, none⟩ = some v4 ∧ w.cell? ⟨g, 5, none⟩ = some v5 ∧ w.cell? ⟨g, 6, none⟩ = some v6 ∧ w.cell? ⟨g, 7, none⟩ = some v7 ∧ w.cell? ⟨g, 8, none⟩ = some v8 ∧ w.cell? ⟨g, 9, none⟩ = some v9 ∧ w.cell? ⟨g, 10, none⟩ = some v10 := by
  have q := h.cell
  exact ⟨q 0, q 1, q 2, q 3, q 4, q 5, q 6, q 7, q 8, q 9, q 10⟩

set_option maxRecDepth 100000 in
set_option maxHeartbeats 1000000 in
theorem next_any' (w : World) (T T' T2 : Nat → Prop) (M : Model) (v4 v5 v6 v7 v8 v9 v10 : Value) (h : MSl w T M v4 v5 v6 v7 v8 v9 v10) (hM : M.Ok)
    (E : Option Addr) (ce : Nat) (vs : List Value) (es : List (List Int)) (hE : Reads w T' 1 E es.length vs) (hR : Rows w T2 vs es) (hes : goodEntries M es) (hn1 : 1 ≤ es.length) (hn2 : es.length ≤ 64)
    (d : Int) (hd : 0 ≤ d ∧ d < 4294967296) :
    Calls Tryz.prog 37 #[.agg #[.int .i64 M.kind, .int .i64 M.vocab, .int .i64 M.width, .int .i64 M.top, v4, v5, v6, v7, v8, v9, v10], .slice E es.length ce, .int .i64 d] w fun e w' => e = .returned (.int .i64 (M.next es d)) ∧ Below w.heap.size w w' := by
  have hpos := M.weights_pos hM (M.scores es) (M.scores_length es)
  have hwl := M.weights_length (M.scores es)
  have hwr := M.weights_range hM (M.scores es)
  have hslen := M.scores_length es
  have hsw := M.scores_word es
  have HP := Lib.hid hpos
  have HWL := Lib.hid hwl
  have HWR := Lib.hid hwr
  have HSL := Lib.hid hslen
  have HSW := Lib.hid hsw
  have HE := Lib.hid hes
  obtain ⟨hv1, hv2⟩ := hM.vocab
  clear hpos hwl hwr hslen hsw hes
  have h0 := h.alloc (.cells #[.int .i64 M.kind, .int .i64 M.vocab, .int .i64 M.width, .int .i64 M.top, v4, v5, v6, v7, v8, v9, v10] 35)
  have k0 := Blk.new w 35 #[.int .i64 M.kind, .int .i64 M.vocab, .int .i64 M.width, .int .i64 M.top, v4, v5, v6, v7, v8, v9, v10]
  have b0 : Below w.heap.size w (w.alloc (.cells #[.int .i64 M.kind, .int .i64 M.vocab, .int .i64 M.width, .int .i64 M.top, v4, v5, v6, v7, v8, v9, v10] 35)) := (Below.refl _ _).alloc (Nat.le_refl _) _
  have z0 := k0.lt
  have hE0 := hE.alloc (.cells #[.int .i64 M.kind, .int .i64 M.vocab, .int .i64 M.width, .int .i64 M.top, v4, v5, v6, v7, v8, v9, v10] 35)
  have hR0 := hR.alloc (.cells #[.int .i64 M.kind, .int .i64 M.vocab, .int .i64 M.width, .int .i64 M.top, v4, v5, v6, v7, v8, v9, v10] 35)
  go_enter Tryz.func37, Tryz.ntmps37
  go_wp2_with fail
  generalize w.alloc (.cells #[.int .i64 M.kind, .int .i64 M.vocab, .int .i64 M.width, .int .i64 M.top, v4, v5, v6, v7, v8, v9, v10] 35) = w0 at *
  clear h hE hR
  obtain ⟨q0, q1, q2, q3, q4, q5, q6, q7, q8, q9, q10⟩ := mcells k0
  go_region_held3 (fun w' => w'.cell? ⟨w.heap.size, 0, none⟩ = some (.int .i64 M.kind) ∧ w'.cell? ⟨w.heap.size, 1, none⟩ = some (.int .i64 M.vocab) ∧ w'.cell? ⟨w.heap.size, 2, none⟩ = some (.int .i64 M.width) ∧ w'.cell? ⟨w.heap.size, 3, none⟩ = some (.int .i64 M.top) ∧ w'.cell? ⟨w.heap.size, 4, none⟩ = some v4 ∧ w'.cell? ⟨w.heap.size, 5, none⟩ = some v5 ∧ w'.cell? ⟨w.heap.size, 6, none⟩ = some v6 ∧ w'.cell? ⟨w.heap.size, 7, none⟩ = some v7 ∧ w'.cell? ⟨w.heap.size, 8, none⟩ = some v8 ∧ w'.cell? ⟨w.heap.size, 9, none⟩ = some v9 ∧ w'.cell? ⟨w.heap.size, 10, none⟩ = some v10) (go_keep) ((first
    | (go_at_call 71; refine (scores_any _ _ _ _ M v4 v5 v6 v7 v8 v9 v10 h0.drew hM E ce vs es hE0.drew hR0.drew HE.out hn1 hn2).mono ?_; rintro e w1 ⟨vs1, rfl, ho1, hb1⟩; obtain ⟨A1, c1, rfl, -, -⟩ := ho1.shape; obtain ⟨p0, p1, p2, p3, p4, p5, p6, p7, p8, p9, p10⟩ := mcells (k0.drew.below hb1 z0))
    | (go_at_call 69; refine (sample_any _ _ _ (M.weights (M.scores es)) ho2.slc (by rw [HWL.out]; omega) (fun z hz => by have := HWR.out z hz; omega) HP.out d hd).mono ?_; rintro e w3 ⟨rfl, rfl⟩)
    | (go_at_call 70; refine (weights_any _ _ _ M v4 v5 v6 v7 v8 v9 v10 _ (h0.drew.fresh hb1) hM (M.scores es) ho1.slc HSL.out HSW.out).mono ?_; rintro e w2 ⟨vs2, rfl, ho2, hb2⟩; obtain ⟨r0, r1, r2, r3, r4, r5, r6, r7, r8, r9, r10⟩ := mcells ((k0.drew.below hb1 z0).below hb2 (k0.drew.below hb1 z0).lt))))
  go_wp2_with fail
  go_ret
  exact ⟨rfl, b0.trans ((((Below.refl _ _).trans (hb1.mono b0.size)).trans (hb2.mono (Nat.le_trans b0.size hb1.size))).drewed)⟩

end Go.Proofs.YtempdomhbfokmaaGreatDoor

/- The entry of a token. Bytes of numbers. -/
import Derived.Test.YtempdomhbfokmaaGreatDoorNf6
import Derived.Deep.RegionHeld3
import Derived.Deep.RegionWith
import Derived.Test.YtempdomhbfokmaaGreatDoorRows
import Derived.Test.YtempdomhbfokmaaGreatDoorNf2
import Derived.Test.YtempdomhbfokmaaGreatDoorNf3
namespace Go.Proofs.YtempdomhbfokmaaGreatDoor
open Go.RowKit

theorem Slc.len {w : World} {T : Nat → Prop} {v : Value} {xs : List Int} (h : Slc w T v xs) : ∃ A c, v = .slice A xs.length c := by
  obtain ⟨A, c, rfl, -⟩ := h
  exact ⟨A, c, rfl⟩
/-- The cell of a slice. -/
theorem Slc.at_ {w : World} {T : Nat → Prop} {A : Option Addr} {n c : Nat} {xs : List Int} (h : Slc w T (.slice A n c) xs) (k : Nat) (hk : k < xs.length) : n = xs.length ∧ ∃ ad, A = some ad ∧ w.cell? (ad.add k) = some (.int .i64 xs[k]) := by
  obtain ⟨A', c', he, hr, -⟩ := h
  injection he with h1 h2 h3
  subst h1 h2 h3
  obtain ⟨ad, u, rfl, -, -, hu, hc⟩ := hr.at_ hk
  rw [ints_get _ _ hk] at hu
  injection hu with hu
  subst hu
  exact ⟨rfl, ad, rfl, hc⟩

theorem addRow_step (x y : List Int) (k : Nat) (hx : k < x.length) (hy : k < y.length) :
    (addRow (x.take k) (y.take k) ++ x.drop k).set k (wr (x[k] + y[k])) = addRow (x.take (k + 1)) (y.take (k + 1)) ++ x.drop (k + 1) := by
  have hl : (addRow (x.take k) (y.take k)).length = k := by simp [addRow]; omega
  rw [List.set_append_right _ _ (by omega), hl, Nat.sub_self, List.drop_eq_getElem_cons hx, List.set_cons_zero, List.take_succ_eq_append_getElem hx, List.take_succ_eq_append_getElem hy]
  unfold addRow
  rw [List.zipWith_append (by simp; omega)]
  simp
theorem addRow_get (x y : List Int) (k : Nat) (hx : k < x.length) (hy : k < y.length) : (ints (addRow (x.take k) (y.take k) ++ x.drop k))[k]? = some (.int .i64 x[k]) := by
  have hl : (addRow (x.take k) (y.take k)).length = k := by simp [addRow]; omega
  simp only [ints, List.map_append]
  rw [List.getElem?_append_right (by simp [hl]), List.length_map, hl, Nat.sub_self]
  simp [hx]
theorem addRow_length (x y : List Int) (n : Nat) (hx : x.length = n) (hy : y.length = n) : (addRow x y).length = n := by simp [addRow, hx, hy]
/-- one row of an entry -/
def Model.ent (m : Model) (t i k : Nat) : List Int := (List.range m.width).map fun o => shiftF (dotF (rowF (m.matrix k) o m.width) (m.x t i)) (m.cut 0)
theorem range_flat_succ (f : Nat → List Int) (k : Nat) : (List.range (k + 1)).flatMap f = (List.range k).flatMap f ++ f k := by
  rw [List.range_succ, List.flatMap_append]
  simp
theorem range_map_succ (f : Nat → Int) (k : Nat) : (List.range (k + 1)).map f = (List.range k).map f ++ [f k] := by
  rw [List.range_succ, List.map_append]
  simp
theorem ent_flat_length (m : Model) (t i k : Nat) : ((List.range k).flatMap (m.ent t i)).length = k * m.width := by
  induction k with
  | zero => simp
  | succ k ih => rw [range_flat_succ, List.length_append, ih, Nat.add_mul]; simp [Model.ent]
theorem rowF_length (l : List Int) (i d : Nat) (h : (i + 1) * d ≤ l.length) : (rowF l i d).length = d := by
  unfold rowF
  rw [Nat.add_mul] at h
  simp
  omega

/-- The region with a number. -/
def findRegion (n : Nat) : Code → Option Code
  | .region i ops d => if i = n then some (.region i ops d) else none
  | .seq a b => match findRegion n a with
    | some c => some c
    | none => findRegion n b
  | .cond _ a b => match findRegion n a with
    | some c => some c
    | none => findRegion n b
  | .block _ c => findRegion n c
  | .loop c => findRegion n c
  | .scope c => findRegion n c
  | _ => none
noncomputable def entryR17 : Code := (Tryz.f36.body.bind (findRegion 17)).getD .skip

set_option maxRecDepth 100000 in
set_option maxHeartbeats 2000000 in
/-- One element of an entry. -/
theorem entry_r17 (wr : World) (T : Nat → Prop) (M : Model) (A4 : Addr) (c4 : Nat) (v5 v6 v7 v8 v9 v10 : Value) (hmr : MSl wr T M (.slice (some A4) M.cuts.length c4) v5 v6 v7 v8 v9 v10) (hM : M.Ok) (hkind : M.kind = 1) (t i k o B : Nat) (hk : k < 3) (ho : o < M.width)
    (vx : Value) (hx : Slc wr T vx (M.x t i)) (hlx : (M.x t i).length = M.width) (hxw : inRange (-2147483648) 2147483647 (M.x t i)) (v11 : Value) (xs : List Value) (n : Nat) (TO : Nat → Prop) (ho11 : Own wr TO 3 1 v11 n xs) (hn : n ≤ 1000) (hne4 : v11.ownBlock ≠ some A4.block)
    (hbx : Blk wr B 35 #[.int .i64 M.kind, .int .i64 M.vocab, .int .i64 M.width, .int .i64 M.top, .slice (some A4) M.cuts.length c4, v5, v6, v7, v8, v9, v10])
    (s0 s1 s2 s4 s5 s6 s9 s10 s14 s15 s16 s17 s18 s19 s20 s21 s22 s23 s24 s25 s26 s27 s28 s29 s30 s31 s32 s33 s34 s35 s36 s37 s38 s39 s40 s41 s42 s43 s44 s45 s46 s47 s48 s49 s50 s51 s52 s53 s54 s55 s56 s57 s58 s59 s60 s61 s62 s63 s64 s65 s66 s67 s68 s69 s70 s71 s72 s73 s74 s75 s76 s77 s78 : Value) (Q : Exit → Act → World → Prop)
    (hQ : ∀ (v' : Value) (w' : World) (y60 y61 y62 y63 y64 y65 y66 y67 y68 y69 y70 y71 y72 y73 y74 y75 : Value), Own w' (fun g => TO g ∨ wr.heap.size ≤ g) 3 1 v' (n + 1) (xs ++ [.int .i64 (shiftF (dotF (rowF (M.matrix k) o M.width) (M.x t i)) (M.cut 0))]) → wr.grownBy w' v11.ownBlock → Q .normal ⟨#[s0, s1, s2, .pointer (some ⟨B, 0, none⟩), s4, s5, s6, .int .i64 M.width, vx, s9, s10, v', .int .i64 k, .int .i64 o, s14, s15, s16, s17, s18, s19, s20, s21, s22, s23, s24, s25, s26, s27, s28, s29, s30, s31, s32, s33, s34, s35, s36, s37, s38, s39, s40, s41, s42, s43, s44, s45, s46, s47, s48, s49, s50, s51, s52, s53, s54, s55, s56, s57, s58, s59, y60, y61, y62, y63, y64, y65, y66, y67, y68, y69, y70, y71, y72, y73, y74, y75, s76, s77, s78], []⟩ w') :
    Code.wp Tryz.prog entryR17 Q ⟨#[s0, s1, s2, .pointer (some ⟨B, 0, none⟩), s4, s5, s6, .int .i64 M.width, vx, s9, s10, v11, .int .i64 k, .int .i64 o, s14, s15, s16, s17, s18, s19, s20, s21, s22, s23, s24, s25, s26, s27, s28, s29, s30, s31, s32, s33, s34, s35, s36, s37, s38, s39, s40, s41, s42, s43, s44, s45, s46, s47, s48, s49, s50, s51, s52, s53, s54, s55, s56, s57, s58, s59, s60, s61, s62, s63, s64, s65, s66, s67, s68, s69, s70, s71, s72, s73, s74, s75, s76, s77, s78], []⟩ wr := by
  conv => arg 2; whnf
  obtain ⟨i0, hi, hz0, hz1, hz2⟩ := info_parts int_info
  obtain ⟨hw1, hw2⟩ := hM.width
  have hcut : 0 < M.cuts.length := by have := hM.lcuts; omega
  obtain ⟨cu1, cu2⟩ := hM.cuts _ (List.getElem_mem hcut)
  have hcutE : M.cuts[0] = M.cut 0 := by simp [Model.cut, List.getD, hcut]
  obtain ⟨-, ad, e, hc4⟩ := hmr.cuts.at_ 0 hcut
  injection e with e
  subst e
  rw [hcutE] at hc4 cu1 cu2
  rw [show A4.add 0 = A4 from by simp [Addr.add]] at hc4
  have hmix := hM.attend hkind
  rw [Nat.mul_assoc] at hmix
  have hb7 := mul_bounds _ _ _ _ hw2 hw2
  have hkk : (k + 1) * (M.width * M.width) ≤ M.mix.length := by rw [hmix]; exact Nat.mul_le_mul_right _ (by omega)
  have hml : M.mix.length ≤ 75 := by omega
  have hmk := rowF_length _ _ _ hkk
  have hoo : (o + 1) * M.width ≤ (M.matrix k).length := by rw [Model.matrix, hmk]; exact Nat.mul_le_mul_right _ (by omega)
  have hmkl : (M.matrix k).length ≤ 25 := by rw [Model.matrix, hmk]; omega
  have hrl : (rowF (M.matrix k) o M.width).length = M.width := rowF_length _ _ _ hoo
  have hrw : inRange (-4294967296) 4294967296 (rowF (M.matrix k) o M.width) := by
    intro z hz
    have h1 := hM.mix z (List.mem_of_mem_drop (List.mem_of_mem_take (List.mem_of_mem_drop (List.mem_of_mem_take hz))))
    omega
  have hmrow := hmr.mix.row k (M.width * M.width) hkk
  have hdw := dotF_word (rowF (M.matrix k) o M.width) (M.x t i)
  obtain ⟨dw1, dw2⟩ := hdw
  have hlt : A4.block < wr.heap.size := by
    rcases Nat.lt_or_ge A4.block wr.heap.size with h | h
    · exact h
    · simp [World.cell?, Array.getElem?_eq_none h] at hc4
  have hbl := hbx.lt
  have hneB : v11.ownBlock ≠ some B := ho11.ne_blk hbx (by decide)
  have d0 := hbx.cell 0
  have d1 := hbx.cell 1
  have d2 := hbx.cell 2
  have d3 := hbx.cell 3
  have d4 := hbx.cell 4
  have d5 := hbx.cell 5
  have d6 := hbx.cell 6
  have d7 := hbx.cell 7
  have d8 := hbx.cell 8
  have d9 := hbx.cell 9
  have d10 := hbx.cell 10
  have HK := Lib.hid hkind
  have HM1 := Lib.hid hmix
  have HM2 := Lib.hid hmk
  have HM3 := Lib.hid hrl
  have HM4 := Lib.hid hlx
  clear hkind hmix hmk hrl hlx hcutE
  go_region_held3 (fun w' => w'.cell? ⟨B, 0, none⟩ = some (.int .i64 M.kind) ∧ w'.cell? ⟨B, 1, none⟩ = some (.int .i64 M.vocab) ∧ w'.cell? ⟨B, 2, none⟩ = some (.int .i64 M.width) ∧ w'.cell? ⟨B, 3, none⟩ = some (.int .i64 M.top)
    ∧ w'.cell? ⟨B, 4, none⟩ = some (.slice (some A4) M.cuts.length c4) ∧ w'.cell? ⟨B, 5, none⟩ = some v5 ∧ w'.cell? ⟨B, 6, none⟩ = some v6 ∧ w'.cell? ⟨B, 7, none⟩ = some v7
    ∧ w'.cell? ⟨B, 8, none⟩ = some v8 ∧ w'.cell? ⟨B, 9, none⟩ = some v9 ∧ w'.cell? ⟨B, 10, none⟩ = some v10 ∧ w'.cell? A4 = some (.int .i64 (M.cut 0))) (go_keep)
    (first
      | (go_at_call 68; refine (matrix_any _ _ M _ _ _ _ _ _ _ hmr.drew k hkk hw2 (by omega) (by omega)).mono ?_; rintro e W1 ⟨rfl, hbW⟩; have e0 := hbW.cell (p := ⟨B, 0, none⟩) hbl; have e1 := hbW.cell (p := ⟨B, 1, none⟩) hbl; have e2 := hbW.cell (p := ⟨B, 2, none⟩) hbl; have e3 := hbW.cell (p := ⟨B, 3, none⟩) hbl; have e4 := hbW.cell (p := ⟨B, 4, none⟩) hbl; have e5 := hbW.cell (p := ⟨B, 5, none⟩) hbl; have e6 := hbW.cell (p := ⟨B, 6, none⟩) hbl; have e7 := hbW.cell (p := ⟨B, 7, none⟩) hbl; have e8 := hbW.cell (p := ⟨B, 8, none⟩) hbl; have e9 := hbW.cell (p := ⟨B, 9, none⟩) hbl; have e10 := hbW.cell (p := ⟨B, 10, none⟩) hbl; have dA := hbW.cell (p := A4) hlt)
      | (go_at_call 63; refine (row_any _ _ _ (M.matrix k) o M.width (hmrow.drew.fresh hbW) hoo (by omega) (by omega) (by omega)).mono ?_; rintro e w' ⟨rfl, rfl⟩)
      | (go_at_call 67; refine (dot_any _ _ _ _ _ (rowF (M.matrix k) o M.width) (M.x t i) ((hmrow.drew.fresh hbW).row o M.width hoo) (hx.drew.fresh hbW) (by rw [HM3.out, HM4.out]) hrw hxw).mono ?_; rintro e w' ⟨rfl, nd, rfl⟩)
      | (refine step_append_any _ (by rfl) _ _ 22 (by rfl) 3 i0 _ 1 8 Tryz.underlying22 hi hz0 hz1 hz2 rfl (by omega) v11 n xs (by rfl) (((ho11.drew.fresh hbW).drewN nd).alloc _) _ 1 1 _ (by rfl) (reads_new _ _ [_] 1 rfl) (ints_one _) (by unfold maxLen; omega) (by omega) ?_; intro v' w' happ; have hlB := Nat.lt_of_lt_of_le hbl hbW.size; have hlA := Nat.lt_of_lt_of_le hlt hbW.size; have f0 := far_cell happ.2.1 ⟨B, 0, none⟩ hlB hneB; have f1 := far_cell happ.2.1 ⟨B, 1, none⟩ hlB hneB; have f2 := far_cell happ.2.1 ⟨B, 2, none⟩ hlB hneB; have f3 := far_cell happ.2.1 ⟨B, 3, none⟩ hlB hneB; have f4 := far_cell happ.2.1 ⟨B, 4, none⟩ hlB hneB; have f5 := far_cell happ.2.1 ⟨B, 5, none⟩ hlB hneB; have f6 := far_cell happ.2.1 ⟨B, 6, none⟩ hlB hneB; have f7 := far_cell happ.2.1 ⟨B, 7, none⟩ hlB hneB; have f8 := far_cell happ.2.1 ⟨B, 8, none⟩ hlB hneB; have f9 := far_cell happ.2.1 ⟨B, 9, none⟩ hlB hneB; have f10 := far_cell happ.2.1 ⟨B, 10, none⟩ hlB hneB; have fA := far_cell happ.2.1 A4 hlA hne4)
      | (go_at_call 66; refine (shift_any _ _ _ cu1 cu2 (by omega)).mono ?_; rintro e w' ⟨rfl, rfl⟩))
  refine hQ _ _ _ _ _ _ _ _ _ _ _ _ _ _ _ _ _ _ (happ.1.more fun g _ hg => ?_) (grown_after (n := nd) hbW.drewed happ.2.1)
  rcases hg with hg | hg
  · exact .inl hg
  · have := hbW.size
    simp at hg this
    exact .inr (by omega)
end Go.Proofs.YtempdomhbfokmaaGreatDoor

namespace Go.Proofs.YtempdomhbfokmaaGreatDoor
open Go.RowKit

def bytes (l : List Int) : List Value := l.map (Value.int .u8)
theorem bytes_length (l : List Int) : (bytes l).length = l.length := by simp [bytes]
theorem bytes_one (l : List Int) : ∀ u ∈ bytes l, u.oneCell' = true := by
  intro u hu
  obtain ⟨x, -, rfl⟩ := List.mem_map.1 hu
  rfl
theorem bytes_get (l : List Int) (k : Nat) (h : k < l.length) : (bytes l)[k]? = some (.int .u8 l[k]) := by simp [bytes, h]
theorem bytes_append (a b : List Int) : bytes (a ++ b) = bytes a ++ bytes b := by simp [bytes]
theorem bytes_new (w : World) (t : TypeId) (xs : List Int) (n : Nat) (hn : n = xs.length) : Reads (w.alloc (.cells (bytes xs).toArray t)) (· = w.heap.size) 1 (some ⟨w.heap.size, 0, none⟩) n (bytes xs) := by
  refine ⟨by simp [bytes, hn], fun _ => ⟨_, rfl, by simp, rfl, fun j u hu => ?_⟩⟩
  have h : Blk (w.alloc (.cells (bytes xs).toArray t)) w.heap.size t (bytes xs).toArray := Blk.new w t _
  rw [Addr.add_lit, h.cell]
  simpa using hu
/-- the k lowest bytes of n -/
def lowF : Int → Nat → List Int
  | _, 0 => []
  | n, k + 1 => (n % 256) :: lowF (n / 256) k
def shr8 : Int → Nat → Int
  | n, 0 => n
  | n, k + 1 => shr8 n k / 256
theorem shr8_in (n : Int) (hn : -9223372036854775808 ≤ n ∧ n ≤ 9223372036854775807) (k : Nat) : -9223372036854775808 ≤ shr8 n k ∧ shr8 n k ≤ 9223372036854775807 := by
  induction k with
  | zero => exact hn
  | succ k ih => unfold shr8; omega
theorem shr8_left (n : Int) (k : Nat) : shr8 (n / 256) k = shr8 n (k + 1) := by
  induction k with
  | zero => rfl
  | succ k ih => unfold shr8; rw [ih]
theorem lowF_succ (n : Int) (k : Nat) : lowF n (k + 1) = lowF n k ++ [shr8 n k % 256] := by
  induction k generalizing n with
  | zero => rfl
  | succ k ih =>
    have e : lowF n (k + 1 + 1) = (n % 256) :: lowF (n / 256) (k + 1) := rfl
    rw [e, ih, shr8_left]
    rfl
theorem lowF_length (n : Int) (k : Nat) : (lowF n k).length = k := by
  induction k generalizing n with
  | zero => rfl
  | succ k ih => simp [lowF, ih]

end Go.Proofs.YtempdomhbfokmaaGreatDoor

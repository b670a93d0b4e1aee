/- Numbers of a model as bytes. -/
import Derived.Test.YtmlfgokbcafbkaaGreatDoorTk7
import Derived.Test.YtmlfgokbcafbkaaGreatDoorTk5
import Derived.Deep.LoopGhost
namespace Go.Proofs.YtmlfgokbcafbkaaGreatDoor
open Go.RowKit

def zigF (n : Int) : Nat := if n < 0 then (-2 * n - 1).toNat else (2 * n).toNat
def varF : Nat → Nat → List Int
  | 0, u => [(u : Int) % 256]
  | f + 1, u => if u < 128 then [(u : Int) % 256] else bits .or .u8 ((u : Int) % 256) 128 :: varF f (u / 128)
def numF (n : Int) : List Int := varF 10 (zigF n)
theorem varF_last (f u : Nat) (h : u < 128) : varF f u = [(u : Int) % 256] := by
  cases f with
  | zero => rfl
  | succ f => simp [varF, h]
theorem varF_more (f u : Nat) (h : ¬ u < 128) : varF (f + 1) u = bits .or .u8 ((u : Int) % 256) 128 :: varF f (u / 128) := by simp [varF, h]
theorem varF_bytes : ∀ f u, isBytes (varF f u) := by
  intro f
  induction f with
  | zero => intro u x hx; simp [varF] at hx; omega
  | succ f ih =>
    intro u x hx
    unfold varF at hx
    split at hx
    · simp at hx; omega
    · rcases List.mem_cons.1 hx with rfl | hx
      · exact ⟨bits_lo_u8 _ _ _, bits_hi_u8 _ _ _⟩
      · exact ih _ x hx
theorem varF_length : ∀ f u, (varF f u).length ≤ f + 1 := by
  intro f
  induction f with
  | zero => intro u; simp [varF]
  | succ f ih =>
    intro u
    unfold varF
    split
    · simp
    · have := ih (u / 128); simp; omega
/-- a writer at p; the blocks of R are not its own -/
structure Wr (w : World) (R : Nat → Prop) (p : Nat) (xs : List Int) : Prop where
  blk : ∃ v, Blk w p 84 #[v] ∧ Own w (fun g => ¬ R g) 5 1 v xs.length (bytes xs)
  base : ¬ R p
theorem Wr.fresh {w w' : World} {R : Nat → Prop} {p : Nat} {xs : List Int} (h : Wr w R p xs) (hb : Below w.heap.size w w') : Wr w' R p xs := by
  obtain ⟨v, h1, h2⟩ := h.blk
  exact ⟨⟨v, h1.below hb h1.lt, h2.fresh hb⟩, h.base⟩
theorem Wr.push {w W w' : World} {R : Nat → Prop} {p : Nat} {A : Option Addr} {c : Nat} {xs : List Int} {o : Obj} (hW : W = w.alloc o) (hblk : Blk w p 84 #[.slice A xs.length c]) (hown : Own w (fun g => ¬ R g) 5 1 (.slice A xs.length c) xs.length (bytes xs)) (hbp : ¬ R p) (hR : ∀ g, R g → g < w.heap.size) (x : Int) {A' : Option Addr} {n c' : Nat} (hn : n = xs.length + 1)
    (happ : Appended W w' (fun g => ¬ R g) 5 1 (.slice A xs.length c) (.slice A' n c') n (bytes xs ++ bytes [x])) :
    Blk w' p 84 #[.slice A xs.length c] ∧ Wr (w'.setCell ⟨p, 0, none⟩ (.slice A' n c')) R p (xs ++ [x]) ∧ Keeps (fun g => ¬ R g) w (w'.setCell ⟨p, 0, none⟩ (.slice A' n c')) := by
  subst hW
  subst hn
  have hpz := hblk.lt
  have hne := hown.ne_blk hblk (by decide)
  have kb : Blk w' p 84 #[.slice A xs.length c] := (hblk.alloc _).grown happ.2.1 (fun e => hne e.symm)
  have o1 := happ.1.more (T' := fun g => ¬ R g) fun g _ h => by
    rcases h with h | h
    · exact h
    · intro hr
      have := hR g hr
      simp at h
      omega
  have ne2 := o1.ne_blk kb (by decide)
  have o3 : Own w' (fun g => ¬ R g ∧ g ≠ p) 5 1 (.slice A' (xs.length + 1) c') (xs.length + 1) (bytes xs ++ bytes [x]) := ⟨o1.1, fun g hg => ⟨o1.2 g hg, fun e => ne2 (e ▸ hg)⟩⟩
  have hk : Keeps (fun g => ¬ R g) w w' := ((Keeps.refl (fun g => ¬ R g) w).alloc o).grown happ.2.1 (fun k e _ => hown.2 k e)
  refine ⟨kb, ⟨⟨_, kb.set_ 0 _, ?_⟩, hbp⟩, Keeps.setCell hk (p := ⟨p, 0, none⟩) (fun _ => hbp) _⟩
  rw [bytes_append, List.length_append]
  exact (o3.setCell (p := ⟨p, 0, none⟩) (fun h => h.2 rfl) _).more fun g _ h => h.1
set_option maxRecDepth 100000 in
set_option maxHeartbeats 1000000 in
theorem number_w (w : World) (R : Nat → Prop) (p : Nat) (xs : List Int) (h : Wr w R p xs) (hR0 : ∀ g, R g → g < w.heap.size) (n : Int) (hn : -2147483648 ≤ n ∧ n ≤ 2147483648) (hl : xs.length ≤ 1000000) :
    Calls Tryz.prog 47 #[.pointer (some ⟨p, 0, none⟩), .int .i64 n] w fun e w' => e = .returned (.tuple #[]) ∧ Wr w' R p (xs ++ numF n) ∧ Keeps (fun g => ¬ R g) w w' := by
  obtain ⟨i0, hi, hz0, hz1, hz2⟩ := info_parts u8_info
  obtain ⟨n1, n2⟩ := hn
  have HZ : Hid (zigF n = if n < 0 then (-2 * n - 1).toNat else (2 * n).toNat) := Lib.hid rfl
  have HNF : Hid (numF n = varF 10 (zigF n)) := Lib.hid rfl
  generalize numF n = nf at *
  generalize zigF n = z at *
  have HH := Lib.hid h
  have HR0 := Lib.hid hR0
  clear h hR0
  have hzb : z < 8589934592 := by have := HZ.out; split at this <;> omega
  by_cases hneg : n < 0
  · have hz : ((z : Nat) : Int) = -2 * n - 1 := by have := HZ.out; rw [if_pos hneg] at this; omega
    go_enter Tryz.func47, Tryz.ntmps47
    go_wp2_with fail
    have HST : Hid ([] ++ varF 10 z = nf ∧ z < 128 ^ (10 + 1)) := by
      refine And.intro (by rw [HNF.out]; rfl) ?_
      have : (128 : Nat) ^ (10 + 1) = 151115727451828646838272 := by decide
      omega
    go_loopg [4] 10 (fun f x wr => ∃ (u : Nat) (done : List Int), x = .int .u64 u ∧ Wr wr R p (xs ++ done) ∧ Keeps (fun g => ¬ R g) w wr ∧ done.length + f ≤ 10 ∧ u < 8589934592 ∧ Hid (done ++ varF f u = nf ∧ u < 128 ^ (f + 1)))
    case atStart => exact ⟨z, [], by rw [hz], by rw [List.append_nil]; exact HH.out, Keeps.refl _ _, by simp, hzb, HST.out⟩
    obtain ⟨u, done, rfl, hw, hb, hdl, hub, HX⟩ := hrel
    obtain ⟨⟨v, hblk, hown⟩, hbp⟩ := hw
    obtain ⟨A, c, rfl, -, -⟩ := hown.shape
    have hwz := hb.size
    obtain ⟨N, hN⟩ : ∃ N, N = (xs ++ done).length := ⟨_, rfl⟩
    have hlen : N ≤ 1000010 := by rw [hN, List.length_append]; omega
    have hpush : ∀ (x : Int) A' c' w', Appended (wr.alloc (.cells #[.int .u8 x] 5)) w' (fun g => ¬ R g) 5 1 (.slice A N c) (.slice A' (N + 1) c') (N + 1) (bytes (xs ++ done) ++ bytes [x]) →
        Blk w' p 84 #[.slice A N c] ∧ Wr (w'.setCell ⟨p, 0, none⟩ (.slice A' (N + 1) c')) R p ((xs ++ done) ++ [x]) ∧ Keeps (fun g => ¬ R g) wr (w'.setCell ⟨p, 0, none⟩ (.slice A' (N + 1) c')) := by
      intro x A' c' w' h
      rw [hN] at h ⊢
      exact Wr.push rfl hblk hown hbp (fun g hg => Nat.lt_of_lt_of_le (HR0.out g hg) hwz) x rfl h
    rw [← hN] at hblk hown
    have c0 : wr.cell? ⟨p, 0, none⟩ = some (.slice A N c) := hblk.cell 0
    have hpz := hblk.lt
    have HPUSH := Lib.hid hpush
    have HB := Lib.hid hb
    have HOWN := Lib.hid hown
    clear hb hown hblk hN hpush hz hneg
    by_cases hlt : u < 128
    · have hlt' : (u : Int) < 128 := by omega
      have HLT := Lib.hid hlt
      go_wp2_with (first | (at_builtin; go_must (refine wpList_append_any _ rfl _ _ 84 rfl 5 i0 _ 1 1 Tryz.underlying84 hi hz0 hz1 hz2 rfl (by omega) (.slice A N c) _ _ rfl (HOWN.out.alloc _) _ 1 1 _ rfl (bytes_new _ _ [_] 1 rfl) (bytes_one _) (by unfold maxLen; omega) (by omega) ?_); intro v' w2 happ; obtain ⟨A', c', rfl, -, -⟩ := happ.1.shape; obtain ⟨kb, hwr, hbl⟩ := HPUSH.out _ _ _ _ happ; have kc := kb.cell 0; have kf := kb.frozen 0))
      go_end0
      refine ⟨rfl, ?_, HB.out.tr hbl⟩
      have e : nf = done ++ [(u : Int) % 256] := by rw [← HX.out.1, varF_last _ _ HLT.out]
      rw [e, ← List.append_assoc, show (u : Int) % 256 = u by omega]
      exact hwr
    · have hlt' : (128 : Int) ≤ u := by omega
      have HLT := Lib.hid hlt
      clear hlt
      go_wp2_with (first | (at_builtin; go_must (refine wpList_append_any _ rfl _ _ 84 rfl 5 i0 _ 1 1 Tryz.underlying84 hi hz0 hz1 hz2 rfl (by omega) (.slice A N c) _ _ rfl (HOWN.out.alloc _) _ 1 1 _ rfl (bytes_new _ _ [_] 1 rfl) (bytes_one _) (by unfold maxLen; omega) (by omega) ?_); intro v' w2 happ; obtain ⟨A', c', rfl, -, -⟩ := happ.1.shape; obtain ⟨kb, hwr, hbl⟩ := HPUSH.out _ _ _ _ happ; have kc := kb.cell 0; have kf := kb.frozen 0))
      have hgk : 1 ≤ gk := by
        rcases Nat.eq_zero_or_pos gk with h | h
        · have := HX.out.2; rw [h] at this; simp at this; omega
        · exact h
      go_roundg (gk - 1)
      case measure => omega
      case rel =>
        refine ⟨u / 128, done ++ [bits .or .u8 ((u : Int) % 256) 128], ?_, ?_, HB.out.tr hbl, by simp; omega, by omega, ?_⟩
        · rw [Int.natCast_ediv]; rfl
        · rw [← List.append_assoc]; exact hwr
        · refine And.intro ?_ ?_
          · rw [List.append_assoc]
            have := HX.out.1
            rw [show gk = (gk - 1) + 1 by omega, varF_more _ _ HLT.out] at this
            exact this
          · have := HX.out.2
            rw [show gk + 1 = (gk - 1 + 1) + 1 by omega, Nat.pow_succ] at this
            omega
  · have hz : ((z : Nat) : Int) = 2 * n := by have := HZ.out; rw [if_neg hneg] at this; omega
    go_enter Tryz.func47, Tryz.ntmps47
    go_wp2_with fail
    have HST : Hid ([] ++ varF 10 z = nf ∧ z < 128 ^ (10 + 1)) := by
      refine And.intro (by rw [HNF.out]; rfl) ?_
      have : (128 : Nat) ^ (10 + 1) = 151115727451828646838272 := by decide
      omega
    go_loopg [4] 10 (fun f x wr => ∃ (u : Nat) (done : List Int), x = .int .u64 u ∧ Wr wr R p (xs ++ done) ∧ Keeps (fun g => ¬ R g) w wr ∧ done.length + f ≤ 10 ∧ u < 8589934592 ∧ Hid (done ++ varF f u = nf ∧ u < 128 ^ (f + 1)))
    case atStart => exact ⟨z, [], by rw [hz], by rw [List.append_nil]; exact HH.out, Keeps.refl _ _, by simp, hzb, HST.out⟩
    obtain ⟨u, done, rfl, hw, hb, hdl, hub, HX⟩ := hrel
    obtain ⟨⟨v, hblk, hown⟩, hbp⟩ := hw
    obtain ⟨A, c, rfl, -, -⟩ := hown.shape
    have hwz := hb.size
    obtain ⟨N, hN⟩ : ∃ N, N = (xs ++ done).length := ⟨_, rfl⟩
    have hlen : N ≤ 1000010 := by rw [hN, List.length_append]; omega
    have hpush : ∀ (x : Int) A' c' w', Appended (wr.alloc (.cells #[.int .u8 x] 5)) w' (fun g => ¬ R g) 5 1 (.slice A N c) (.slice A' (N + 1) c') (N + 1) (bytes (xs ++ done) ++ bytes [x]) →
        Blk w' p 84 #[.slice A N c] ∧ Wr (w'.setCell ⟨p, 0, none⟩ (.slice A' (N + 1) c')) R p ((xs ++ done) ++ [x]) ∧ Keeps (fun g => ¬ R g) wr (w'.setCell ⟨p, 0, none⟩ (.slice A' (N + 1) c')) := by
      intro x A' c' w' h
      rw [hN] at h ⊢
      exact Wr.push rfl hblk hown hbp (fun g hg => Nat.lt_of_lt_of_le (HR0.out g hg) hwz) x rfl h
    rw [← hN] at hblk hown
    have c0 : wr.cell? ⟨p, 0, none⟩ = some (.slice A N c) := hblk.cell 0
    have hpz := hblk.lt
    have HPUSH := Lib.hid hpush
    have HB := Lib.hid hb
    have HOWN := Lib.hid hown
    clear hb hown hblk hN hpush hz hneg
    by_cases hlt : u < 128
    · have hlt' : (u : Int) < 128 := by omega
      have HLT := Lib.hid hlt
      go_wp2_with (first | (at_builtin; go_must (refine wpList_append_any _ rfl _ _ 84 rfl 5 i0 _ 1 1 Tryz.underlying84 hi hz0 hz1 hz2 rfl (by omega) (.slice A N c) _ _ rfl (HOWN.out.alloc _) _ 1 1 _ rfl (bytes_new _ _ [_] 1 rfl) (bytes_one _) (by unfold maxLen; omega) (by omega) ?_); intro v' w2 happ; obtain ⟨A', c', rfl, -, -⟩ := happ.1.shape; obtain ⟨kb, hwr, hbl⟩ := HPUSH.out _ _ _ _ happ; have kc := kb.cell 0; have kf := kb.frozen 0))
      go_end0
      refine ⟨rfl, ?_, HB.out.tr hbl⟩
      have e : nf = done ++ [(u : Int) % 256] := by rw [← HX.out.1, varF_last _ _ HLT.out]
      rw [e, ← List.append_assoc, show (u : Int) % 256 = u by omega]
      exact hwr
    · have hlt' : (128 : Int) ≤ u := by omega
      have HLT := Lib.hid hlt
      clear hlt
      go_wp2_with (first | (at_builtin; go_must (refine wpList_append_any _ rfl _ _ 84 rfl 5 i0 _ 1 1 Tryz.underlying84 hi hz0 hz1 hz2 rfl (by omega) (.slice A N c) _ _ rfl (HOWN.out.alloc _) _ 1 1 _ rfl (bytes_new _ _ [_] 1 rfl) (bytes_one _) (by unfold maxLen; omega) (by omega) ?_); intro v' w2 happ; obtain ⟨A', c', rfl, -, -⟩ := happ.1.shape; obtain ⟨kb, hwr, hbl⟩ := HPUSH.out _ _ _ _ happ; have kc := kb.cell 0; have kf := kb.frozen 0))
      have hgk : 1 ≤ gk := by
        rcases Nat.eq_zero_or_pos gk with h | h
        · have := HX.out.2; rw [h] at this; simp at this; omega
        · exact h
      go_roundg (gk - 1)
      case measure => omega
      case rel =>
        refine ⟨u / 128, done ++ [bits .or .u8 ((u : Int) % 256) 128], ?_, ?_, HB.out.tr hbl, by simp; omega, by omega, ?_⟩
        · rw [Int.natCast_ediv]; rfl
        · rw [← List.append_assoc]; exact hwr
        · refine And.intro ?_ ?_
          · rw [List.append_assoc]
            have := HX.out.1
            rw [show gk = (gk - 1) + 1 by omega, varF_more _ _ HLT.out] at this
            exact this
          · have := HX.out.2
            rw [show gk + 1 = (gk - 1 + 1) + 1 by omega, Nat.pow_succ] at this
            omega

def listTo (l : List Int) (k : Nat) : List Int := numF l.length ++ (l.take k).flatMap numF
def listF (l : List Int) : List Int := numF l.length ++ l.flatMap numF
theorem listTo_succ (l : List Int) (k : Nat) (h : k < l.length) : listTo l (k + 1) = listTo l k ++ numF l[k] := by
  unfold listTo
  rw [List.take_succ_eq_append_getElem h, List.flatMap_append]
  simp
theorem numF_length (n : Int) : (numF n).length ≤ 11 := varF_length _ _
theorem flatNum_length (l : List Int) : (l.flatMap numF).length ≤ 11 * l.length := by
  induction l with
  | nil => simp
  | cons x l ih => simp only [List.flatMap_cons, List.length_append, List.length_cons]; have := numF_length x; omega
theorem listTo_length (l : List Int) (k : Nat) : (listTo l k).length ≤ 11 + 11 * l.length := by
  unfold listTo
  rw [List.length_append]
  have h1 := numF_length l.length
  have h2 := flatNum_length (l.take k)
  have h3 : (l.take k).length ≤ l.length := List.length_take_le' _ _
  omega
theorem listF_length (l : List Int) : (listF l).length ≤ 11 + 11 * l.length := by
  have := listTo_length l l.length
  unfold listTo at this
  rw [List.take_length] at this
  exact this
set_option maxRecDepth 100000 in
set_option maxHeartbeats 1000000 in
theorem list_w (w : World) (R : Nat → Prop) (p : Nat) (xs : List Int) (h : Wr w R p xs) (hR0 : ∀ g, R g → g < w.heap.size) (T : Nat → Prop) (v : Value) (l : List Int) (hv : Slc w T v l) (hT : ∀ b, T b → R b) (hr : inRange (-2147483648) 2147483647 l) (hl : xs.length ≤ 500000) (hll : l.length ≤ 10000) :
    Calls Tryz.prog 48 #[.pointer (some ⟨p, 0, none⟩), v, .func (.func 47) #[.pointer (some ⟨p, 0, none⟩)] #[]] w fun e w' => e = .returned (.tuple #[]) ∧ Wr w' R p (xs ++ listF l) ∧ Keeps (fun g => ¬ R g) w w' := by
  obtain ⟨A, c, rfl⟩ := hv.len
  have HN1 := Lib.hid (number_w w R p xs h hR0 (l.length : Int) ⟨by omega, by omega⟩ (by omega))
  have HV := Lib.hid hv
  have HR := Lib.hid hr
  have HR0 := Lib.hid hR0
  obtain ⟨n, hn⟩ : ∃ n, n = l.length := ⟨_, rfl⟩
  rw [← hn] at hv HN1 HV hll
  have HN := Lib.hid hn
  rw [← hn]
  clear h hr hn hv hR0
  go_enter Tryz.func48, Tryz.ntmps48
  go_wp2_with fail
  refine HN1.out.mono ?_
  rintro e w1 ⟨rfl, hw1, hb1⟩
  have hst : Wr w1 R p (xs ++ listTo l 0) := by
    unfold listTo
    rw [← HN.out]
    simpa using hw1
  have HST := Lib.hid hst
  have HB1 := Lib.hid hb1
  clear hw1 hb1 hst
  go_wp2_with fail
  go_loopw [14] (fun i wr => ∃ k : Nat, k ≤ n ∧ i = .int .i64 k ∧ Wr wr R p (xs ++ listTo l k) ∧ Keeps (fun g => ¬ R g) w wr) (fun i _ => n - (intOf i).toNat)
  case atStart => exact ⟨0, by omega, rfl, HST.out, HB1.out⟩
  obtain ⟨k, hk, rfl, hw, hb⟩ := hrel
  by_cases hlt : k < n
  · have hkl : k < l.length := by rw [← HN.out]; exact hlt
    have hs := HV.out.keeps hb (fun i h hn => hn (hT i h))
    obtain ⟨-, ad, rfl, hc⟩ := hs.at_ k hkl
    have hx := HR.out _ (List.getElem_mem hkl)
    have HSU := Lib.hid (listTo_succ l k hkl)
    generalize l[k] = x at *
    have HNX := Lib.hid (number_w wr R p _ hw (fun g hg => Nat.lt_of_lt_of_le (HR0.out g hg) hb.size) x ⟨by omega, by omega⟩ (by rw [List.length_append]; have := listTo_length l k; rw [← HN.out] at this; omega))
    have HB := Lib.hid hb
    clear hs hx hw hb hkl
    go_wp2_with fail
    refine HNX.out.mono ?_
    rintro e w2 ⟨rfl, hw2, hb2⟩
    have HW2 := Lib.hid hw2
    have HB2 := Lib.hid (HB.out.tr hb2)
    clear hw2 hb2
    go_wp2_with fail
    go_roundw
    case rel => exact ⟨k + 1, by omega, by go_num, by rw [HSU.out, ← List.append_assoc]; exact HW2.out, HB2.out⟩
    case measure => simp [intOf]; omega
  · obtain rfl : k = n := by omega
    have HW := Lib.hid hw
    have HB := Lib.hid hb
    clear hw hb
    go_wp2_with fail
    go_end0
    refine ⟨rfl, ?_, HB.out⟩
    have e : listTo l k = listF l := by unfold listTo listF; rw [HN.out, List.take_length]
    rw [← e]; exact HW.out
end Go.Proofs.YtmlfgokbcafbkaaGreatDoor

/- Bytes, Vocabulary, head. -/
import Derived.Test.YtedkfehdfmimoaaGreatKc25
import Derived.Test.YtedkfehdfmimoaaGreatKc7
import Derived.Deep.DeepCutAuto
namespace Go.Proofs.YtedkfehdfmimoaaGreat
open Go.RowKit

set_option maxRecDepth 100000 in
set_option maxHeartbeats 1000000 in
theorem vocab_any (w : World) (T : Nat → Prop) (M : Model) (v4 v5 v6 v7 v8 v9 v10 : Value) (h : MSl w T M v4 v5 v6 v7 v8 v9 v10) (hM : M.Ok) :
    Calls Tryz.prog 27 #[.agg #[.int .i64 M.kind, .int .i64 M.vocab, .int .i64 M.width, .int .i64 M.top, v4, v5, v6, v7, v8, v9, v10]] w fun e w' => e = .returned (.tuple #[.int .i64 M.vocab, .int .i64 0]) ∧ Below w.heap.size w w' := by
  have kb := Blk.new w 27 #[.int .i64 M.kind, .int .i64 M.vocab, .int .i64 M.width, .int .i64 M.top, v4, v5, v6, v7, v8, v9, v10]
  have hb0 : Below w.heap.size w (w.alloc (.cells #[.int .i64 M.kind, .int .i64 M.vocab, .int .i64 M.width, .int .i64 M.top, v4, v5, v6, v7, v8, v9, v10] 27)) := (Below.refl _ _).alloc (Nat.le_refl _) _
  have HCK := Lib.hid (check_ok _ _ M v4 v5 v6 v7 v8 v9 v10 (h.fresh hb0) hM)
  have HB0 := Lib.hid hb0
  have KB := Lib.hid kb
  clear h hM hb0 kb
  go_enter Tryz.func27, Tryz.ntmps27
  go_wp2_with fail
  refine HCK.out.mono ?_
  rintro e w1 ⟨rfl, hb1⟩
  have c1 : w1.cell? ⟨w.heap.size, 1, none⟩ = some (.int .i64 M.vocab) := (KB.out.below hb1 (by simp)).cell 1
  have HB1 := Lib.hid (HB0.out.trans (hb1.mono HB0.out.size))
  clear hb1
  go_wp2_with fail
  go_ret2
  exact ⟨rfl, HB1.out⟩
set_option maxRecDepth 100000 in
set_option maxHeartbeats 1000000 in
theorem bytesM_any (w : World) (T : Nat → Prop) (M : Model) (v4 v5 v6 v7 v8 v9 v10 : Value) (h : MSl w T M v4 v5 v6 v7 v8 v9 v10) (hM : M.Ok) (hk : M.kind = 1) :
    Calls Tryz.prog 56 #[.agg #[.int .i64 M.kind, .int .i64 M.vocab, .int .i64 M.width, .int .i64 M.top, v4, v5, v6, v7, v8, v9, v10]] w fun e w' => ∃ v, e = .returned (.tuple #[v, .int .i64 0]) ∧ Fresh w w' 5 1 v (modelBytes M).length (bytes (modelBytes M)) := by
  have kb := Blk.new w 27 #[.int .i64 M.kind, .int .i64 M.vocab, .int .i64 M.width, .int .i64 M.top, v4, v5, v6, v7, v8, v9, v10]
  have hb0 : Below w.heap.size w (w.alloc (.cells #[.int .i64 M.kind, .int .i64 M.vocab, .int .i64 M.width, .int .i64 M.top, v4, v5, v6, v7, v8, v9, v10] 27)) := (Below.refl _ _).alloc (Nat.le_refl _) _
  have h0 := h.fresh hb0
  have HCK := Lib.hid (check_ok _ _ M v4 v5 v6 v7 v8 v9 v10 h0 hM)
  have H0 := Lib.hid h0
  have HM := Lib.hid hM
  have HK := Lib.hid hk
  have HB0 := Lib.hid hb0
  have KB := Lib.hid kb
  clear h hM hb0 kb h0 hk
  go_enter Tryz.func56, Tryz.ntmps56
  go_wp2_with fail
  refine HCK.out.mono ?_
  rintro e w1 ⟨rfl, hb1⟩
  obtain ⟨c0, c1, c2, c3, c4, c5, c6, c7, c8, c9, c10⟩ := mcells (KB.out.below hb1 (by simp))
  have HBO := Lib.hid (bytesOf_any w1 _ M v4 v5 v6 v7 v8 v9 v10 (H0.out.fresh hb1) HM.out HK.out)
  have HB1 := Lib.hid (HB0.out.trans (hb1.mono HB0.out.size))
  clear hb1
  go_wp2_with fail
  refine HBO.out.mono ?_
  rintro e w2 ⟨v, rfl, hf, hb2⟩
  have HF := Lib.hid (hf.more (T' := fun g => w.heap.size ≤ g) fun g _ h => Nat.le_trans HB1.out.size h)
  have HB2 := Lib.hid (HB1.out.trans (hb2.mono HB1.out.size))
  clear hf hb2 c0 c1 c2 c3 c4 c5 c6 c7 c8 c9 c10
  go_wp2_with fail
  go_ret2
  exact ⟨_, rfl, HF.out, HB2.out⟩
def headTo (M : Model) (ns : List Int) (k : Nat) : List Int := [119, 102, 108, 1] ++ lowF (codeF (modelBytes M)) 4 ++ (ns.take k).flatMap fun n => lowF n 4
def headF (M : Model) (ns : List Int) : List Int := sealF (headTo M ns ns.length)
theorem headTo_succ (M : Model) (ns : List Int) (k : Nat) (h : k < ns.length) : headTo M ns (k + 1) = headTo M ns k ++ lowF ns[k] 4 := by
  unfold headTo
  rw [List.take_succ_eq_append_getElem h, List.flatMap_append]
  simp
theorem headTo_length (M : Model) (ns : List Int) (k : Nat) (h : k ≤ ns.length) : (headTo M ns k).length = 8 + 4 * k := by
  induction k with
  | zero => simp [headTo, lowF_length]
  | succ k ih => rw [headTo_succ _ _ _ (by omega), List.length_append, ih (by omega), lowF_length]; omega
theorem headTo_bytes (M : Model) (ns : List Int) (k : Nat) : isBytes (headTo M ns k) := by
  refine isBytes_append (isBytes_append (fun x hx => ?_) (lowF_bytes _ _)) ?_
  · simp at hx; omega
  · intro x hx
    obtain ⟨n, -, h⟩ := List.mem_flatMap.1 hx
    exact lowF_bytes _ _ x h
set_option maxRecDepth 100000 in
set_option maxHeartbeats 2000000 in
theorem head_any (w : World) (T : Nat → Prop) (M : Model) (v4 v5 v6 v7 v8 v9 v10 : Value) (h : MSl w T M v4 v5 v6 v7 v8 v9 v10) (hM : M.Ok) (hk : M.kind = 1) (c : CConf) (hc : c.Ok) :
    Calls Tryz.prog 30 #[.agg #[.int .i64 M.kind, .int .i64 M.vocab, .int .i64 M.width, .int .i64 M.top, v4, v5, v6, v7, v8, v9, v10], .agg #[.int .i64 c.pages, .int .i64 c.pageSize, .int .i64 c.batch, .int .i64 c.queue]] w (RetFresh w 5 1 28 (bytes (headF M [(c.pages : Int), c.pageSize, c.batch, c.queue]))) := by
  obtain ⟨i0, hi, hz0, hz1, hz2⟩ := info_parts u8_info
  have hb0 : Below w.heap.size w ((w.alloc (.cells #[.int .i64 M.kind, .int .i64 M.vocab, .int .i64 M.width, .int .i64 M.top, v4, v5, v6, v7, v8, v9, v10] 27)).alloc (.cells #[.int .i64 c.pages, .int .i64 c.pageSize, .int .i64 c.batch, .int .i64 c.queue] 30)) := ((Below.refl _ _).alloc (Nat.le_refl _) _).alloc (by simp) _
  have kc := Blk.new (w.alloc (.cells #[.int .i64 M.kind, .int .i64 M.vocab, .int .i64 M.width, .int .i64 M.top, v4, v5, v6, v7, v8, v9, v10] 27)) 30 #[.int .i64 c.pages, .int .i64 c.pageSize, .int .i64 c.batch, .int .i64 c.queue]
  rw [show (w.alloc (.cells #[.int .i64 M.kind, .int .i64 M.vocab, .int .i64 M.width, .int .i64 M.top, v4, v5, v6, v7, v8, v9, v10] 27)).heap.size = w.heap.size + 1 by simp] at kc
  have HBY := Lib.hid (bytesM_any _ _ M v4 v5 v6 v7 v8 v9 v10 (h.fresh hb0) hM hk)
  have HML := Lib.hid (modelBytes_length M hM hk)
  have HMB := Lib.hid (modelBytes_bytes M)
  have HB0 := Lib.hid hb0
  have KC := Lib.hid kc
  have HC := Lib.hid hc
  clear h hM hk hb0 kc hc
  go_enter Tryz.func30, Tryz.ntmps30
  go_wp2_with fail
  refine HBY.out.mono ?_
  rintro e w1 ⟨v, rfl, hf, hb1⟩
  have hz1' : w.heap.size ≤ w1.heap.size := Nat.le_trans HB0.out.size hb1.size
  have hzb := HB0.out.size
  have hzz1 : w.heap.size + 1 < w1.heap.size := by have := hb1.size; simp at this; omega
  have hf0 := hf.more (T' := fun g => w.heap.size ≤ g) fun g _ h => Nat.le_trans HB0.out.size h
  obtain ⟨A, cc, rfl, -, -⟩ := hf0.shape
  have kc1 := KC.out.below hb1 (by simp)
  have HB1 := Lib.hid (HB0.out.trans (hb1.mono HB0.out.size))
  have HF := Lib.hid hf0
  have KC1 := Lib.hid kc1
  obtain ⟨n, hn⟩ : ∃ n, n = (modelBytes M).length := ⟨_, rfl⟩
  have hn8 : n ≤ 800000 := by rw [hn]; exact HML.out
  have hcode : Calls Tryz.prog 49 #[.slice A n cc] (w1.alloc (.cells #[.int .u8 119, .int .u8 102, .int .u8 108, .int .u8 1] 5)) fun e w' => e = .returned (.int .i64 (codeF (modelBytes M))) ∧ (w1.alloc (.cells #[.int .u8 119, .int .u8 102, .int .u8 108, .int .u8 1] 5)) = w' := by
    rw [hn]
    exact code_any _ _ A cc (modelBytes M) (hf0.reads.alloc _) (by omega) HMB.out
  have hcin := codeF_in (modelBytes M)
  have HCODE := Lib.hid hcode
  have HN := Lib.hid hn
  obtain ⟨CD, hcd⟩ : ∃ CD, CD = codeF (modelBytes M) := ⟨_, rfl⟩
  rw [← hcd] at HCODE hcin
  have HCD := Lib.hid hcd
  obtain ⟨hci1, hci2⟩ := hcin
  rw [← hn]
  have hl4 := own_lit w1 (fun g => w.heap.size ≤ g) 5 (bytes [119, 102, 108, 1]) 4 (by decide) rfl hz1'
  have HL4 := Lib.hid hl4
  clear hb1 hf hf0 kc1 hcode hn hcd hl4
  go_wp2_with fail
  refine HCODE.out.mono ?_
  rintro e w' ⟨rfl, rfl⟩
  go_wp2_with fail
  refine (low_any _ CD ⟨by omega, by omega⟩ 4 (by omega)).mono ?_
  rintro e w2 ⟨u, rfl, hu, hb2⟩
  obtain ⟨Au, cu, rfl, -, -⟩ := hu.shape
  have HO4 := Lib.hid (HL4.out.fresh hb2)
  have HU := Lib.hid hu
  have hb2' : Below w1.heap.size w1 w2 := ((Below.refl _ _).alloc (Nat.le_refl _) (.cells (bytes [119, 102, 108, 1]).toArray 5)).trans (hb2.mono (by simp))
  have HB2 := Lib.hid hb2'
  have hz2' := hb2'.size
  clear hu hb2 hb2'
  go_upto_region 3 with (first | (at_builtin; go_must (refine wpList_append_any _ rfl _ _ 56 rfl 5 i0 _ 1 1 Tryz.underlying56 hi hz0 hz1 hz2 rfl (by omega) (.slice (some ⟨w1.heap.size, 0, none⟩) 4 4) 4 _ rfl HO4.out _ 4 cu _ rfl HU.out.reads (bytes_one _) (by unfold maxLen; omega) (by omega) ?_); intro v' w3 happ))
  rw [show (4 + 4 : Nat) = 8 from rfl] at happ
  obtain ⟨A3, c3, rfl, -, -⟩ := happ.1.shape
  obtain ⟨o1, o2⟩ := appBelow happ (by omega) (fun g hg => HO4.out.2 g hg)
  have kc3 := (KC1.out.below HB2.out (by omega)).grown happ.2.1 (by simp [Value.ownBlock]; omega)
  have hstart : headTo M [(c.pages : Int), c.pageSize, c.batch, c.queue] 0 = [119, 102, 108, 1] ++ lowF CD 4 := by unfold headTo; rw [← HCD.out]; simp
  have hown3 : Own w3 (fun g => w.heap.size ≤ g ∧ g ≠ w3.heap.size) 5 1 (.slice A3 8 c3) 8 (bytes (headTo M [(c.pages : Int), c.pageSize, c.batch, c.queue] 0)) := by
    rw [hstart, bytes_append]
    exact o1.more fun g hg h => ⟨h, by omega⟩
  have hb3 : Below w.heap.size w w3 := (HB1.out.trans (HB2.out.mono hz1')).trans o2
  have e0 : w3.cell? ⟨w.heap.size + 1, 0, none⟩ = some (.int .i64 c.pages) := kc3.cell 0
  have e1 : w3.cell? ⟨w.heap.size + 1, 1, none⟩ = some (.int .i64 c.pageSize) := kc3.cell 1
  have e2 : w3.cell? ⟨w.heap.size + 1, 2, none⟩ = some (.int .i64 c.batch) := kc3.cell 2
  have e3 : w3.cell? ⟨w.heap.size + 1, 3, none⟩ = some (.int .i64 c.queue) := kc3.cell 3
  have HO3 := Lib.hid hown3
  have HB3 := Lib.hid hb3
  have hq1 := HC.out.pages
  have hq2 := HC.out.pageSize
  have hq3 := HC.out.batch
  have hq4 := HC.out.queue
  clear o1 o2 kc3 hstart hown3 hb3 happ
  go_wp2_with fail
  have hs1 := (lit_slc w3 3 [(c.pages : Int), c.pageSize, c.batch, c.queue] 4 rfl (by decide))
  have hbn : ∀ x ∈ [(c.pages : Int), c.pageSize, c.batch, c.queue], -9223372036854775808 ≤ x ∧ x ≤ 9223372036854775807 := by
    intro x hx
    simp only [List.mem_cons, List.not_mem_nil, or_false] at hx
    omega
  have hst : Own (w3.alloc (.cells #[.int .i64 c.pages, .int .i64 c.pageSize, .int .i64 c.batch, .int .i64 c.queue] 3)) (fun g => w.heap.size ≤ g ∧ g ≠ w3.heap.size) 5 1 (.slice A3 8 c3) 8 (bytes (headTo M [(c.pages : Int), c.pageSize, c.batch, c.queue] 0)) := HO3.out.alloc _
  have hz3' := HB3.out.size
  have hbst : Below w.heap.size w (w3.alloc (.cells #[.int .i64 c.pages, .int .i64 c.pageSize, .int .i64 c.batch, .int .i64 c.queue] 3)) := HB3.out.alloc hz3' _
  have hs1' : Slc (w3.alloc (.cells #[.int .i64 c.pages, .int .i64 c.pageSize, .int .i64 c.batch, .int .i64 c.queue] 3)) (· = w3.heap.size) (.slice (some ⟨w3.heap.size, 0, none⟩) 4 4) [(c.pages : Int), c.pageSize, c.batch, c.queue] := hs1
  have hzl : w3.heap.size < (w3.alloc (.cells #[.int .i64 c.pages, .int .i64 c.pageSize, .int .i64 c.batch, .int .i64 c.queue] 3)).heap.size := by simp
  generalize w3.alloc (.cells #[.int .i64 c.pages, .int .i64 c.pageSize, .int .i64 c.batch, .int .i64 c.queue] 3) = W at *
  have hnl : [(c.pages : Int), c.pageSize, c.batch, c.queue].length = 4 := rfl
  generalize [(c.pages : Int), c.pageSize, c.batch, c.queue] = ns at *
  have HNS := Lib.hid hbn
  have HNL := Lib.hid hnl
  have HS1 := Lib.hid hs1'
  have HST := Lib.hid hst
  have HBST := Lib.hid hbst
  clear hs1 hs1' hbn hnl hst hbst hq1 hq2 hq3 hq4 e0 e1 e2 e3
  go_loopw [7, 9, 30] (fun v _ i wr => ∃ k : Nat, k ≤ 4 ∧ i = .int .i64 k ∧ Own wr (fun g => w.heap.size ≤ g ∧ g ≠ w3.heap.size) 5 1 v (8 + 4 * k) (bytes (headTo M ns k)) ∧ Slc wr (· = w3.heap.size) (.slice (some ⟨w3.heap.size, 0, none⟩) 4 4) ns ∧ Below w.heap.size w wr ∧ w3.heap.size < wr.heap.size) (fun _ _ i _ => 4 - (intOf i).toNat)
  case atStart => exact ⟨0, by omega, rfl, HST.out, HS1.out, HBST.out, hzl⟩
  obtain ⟨k, hk, rfl, ho, hsl, hb, hzw⟩ := hrel
  have hwz := hb.size
  by_cases hlt : k < 4
  · have hkl : k < ns.length := by rw [HNL.out]; exact hlt
    obtain ⟨-, ad, e, hcx⟩ := hsl.at_ k hkl
    injection e with e
    subst e
    rw [Addr.add_lit, Nat.zero_add] at hcx
    have hx := HNS.out _ (List.getElem_mem hkl)
    have HSU := Lib.hid (headTo_succ M ns k hkl)
    generalize ns[k] = x at *
    have HO := Lib.hid ho
    have HSL := Lib.hid hsl
    have HB := Lib.hid hb
    clear ho hsl hb hkl
    go_wp2_with fail
    refine (low_any _ x hx 4 (by omega)).mono ?_
    rintro e w4 ⟨u, rfl, hu4, hb4⟩
    obtain ⟨A4, c4, rfl, -, -⟩ := hu4.shape
    have ho4 := HO.out.fresh hb4
    have hsl4 := HSL.out.fresh hb4
    have HU4 := Lib.hid hu4
    have HO4' := Lib.hid ho4
    have HSL4 := Lib.hid hsl4
    have HB4 := Lib.hid (HB.out.trans (hb4.mono hwz))
    have hz4 := hb4.size
    clear hu4 ho4 hsl4 hb4
    go_wp2_with (first | (at_builtin; go_must (refine wpList_append_any _ rfl _ _ 56 rfl 5 i0 _ 1 1 Tryz.underlying56 hi hz0 hz1 hz2 rfl (by omega) u7 _ _ rfl HO4'.out _ 4 c4 _ rfl HU4.out.reads (bytes_one _) (by unfold maxLen; omega) (by omega) ?_); intro v' w5 happ))
    go_roundw
    case rel =>
      have hrow : ∀ g, u7.ownBlock = some g → w.heap.size ≤ g ∧ g ≠ w3.heap.size := fun g hg => HO4'.out.2 g hg
      refine ⟨k + 1, by omega, by go_num, ?_, HSL4.out.keeps ((Keeps.refl (fun g => u7.ownBlock = some g) w4).grown happ.2.1 fun k e _ => e) (fun i h hn => (hrow i hn).2 h), (HB4.out.grown happ.2.1 HB4.out.size (fun g hg => (hrow g hg).1)), by have := happ.2.1.size; omega⟩
      rw [HSU.out, bytes_append, show 8 + 4 * (k + 1) = 8 + 4 * k + 4 by omega]
      exact happ.1.more fun g _ h => by
        rcases h with h | h
        · exact h
        · exact ⟨by omega, by omega⟩
    case measure => simp [intOf]; omega
  · obtain rfl : k = 4 := by omega
    have hsd := sealed_any wr w.heap.size hwz _ (headTo M ns 4) 24 (ho.more fun g _ h => h.1) (headTo_length M ns 4 (by rw [HNL.out]; exact Nat.le_refl _)) (by omega) (headTo_bytes _ _ _)
    have HSD := Lib.hid hsd
    have HB := Lib.hid hb
    have HHF : Hid (headF M ns = sealF (headTo M ns 4)) := by show _ = _; unfold headF; rw [HNL.out]
    clear hsd ho hsl hb
    go_wp2_with fail
    refine HSD.out.mono ?_
    rintro e w6 ⟨v6', rfl, ho6, hb6⟩
    have HO6 := Lib.hid ho6
    have HB6 := Lib.hid (HB.out.trans hb6)
    clear ho6 hb6
    go_wp2_with fail
    go_ret
    exact ⟨_, rfl, by rw [HHF.out]; exact HO6.out, HB6.out⟩
end Go.Proofs.YtedkfehdfmimoaaGreat

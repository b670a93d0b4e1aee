/- models.parse: the closure that reads a model. -/
import Derived.Test.YtmlfgokbcafbkaaGreatDoorTk13
import Derived.Test.YtmlfgokbcafbkaaGreatDoorTk14
import Derived.Test.YtmlfgokbcafbkaaGreatDoorTk11
namespace Go.Proofs.YtmlfgokbcafbkaaGreatDoor
open Go.RowKit

def modelRest (M : Model) (k : Nat) (rest : List Int) : List Int := (M.ls.drop k).flatMap listF ++ rest
theorem modelRest_step (M : Model) (k : Nat) (rest : List Int) (h : k < M.ls.length) : modelRest M k rest = listF M.ls[k] ++ modelRest M (k + 1) rest := by
  unfold modelRest
  rw [List.drop_eq_getElem_cons h, List.flatMap_cons, List.append_assoc]
theorem Src.drew {w : World} {R : Nat → Prop} {p : Nat} {xs : List Int} (h : Src w R p xs) : Src w.drew R p xs := h
theorem list7 (vs : List Value) (h : vs.length = 7) : ∃ v4 v5 v6 v7 v8 v9 v10, vs = [v4, v5, v6, v7, v8, v9, v10] := by
  match vs, h with
  | [v4, v5, v6, v7, v8, v9, v10], _ => exact ⟨_, _, _, _, _, _, _, rfl⟩
theorem _root_.Go.Proofs.YtmlfgokbcafbkaaGreatDoor.Rows.msl {W : World} {T : Nat → Prop} {M : Model} {v4 v5 v6 v7 v8 v9 v10 : Value} (h : Rows W T [v4, v5, v6, v7, v8, v9, v10] M.ls) : MSl W T M v4 v5 v6 v7 v8 v9 v10 := by
  have g : ∀ i (v : Value) (x : List Int), [v4, v5, v6, v7, v8, v9, v10][i]? = some v → M.ls[i]? = some x → Slc W T v x := fun i v x hv hx => by
    obtain ⟨hi, e⟩ := List.getElem?_eq_some_iff.1 hx
    obtain ⟨u, hu, hs⟩ := h.2 i hi
    rw [hv] at hu
    injection hu with hu
    rw [hu, ← e]
    exact hs
  exact ⟨g 0 _ _ rfl rfl, g 1 _ _ rfl rfl, g 2 _ _ rfl rfl, g 3 _ _ rfl rfl, g 4 _ _ rfl rfl, g 5 _ _ rfl rfl, g 6 _ _ rfl rfl⟩
theorem keeps4' (w : World) (g : Nat) (a0 a1 a2 a3 : Value) : Keeps (· = g) w ((((w.setCell ⟨g, 0, none⟩ a0).setCell ⟨g, 1, none⟩ a1).setCell ⟨g, 2, none⟩ a2).setCell ⟨g, 3, none⟩ a3) :=
  Keeps.setCell (p := ⟨g, 3, none⟩) (Keeps.setCell (p := ⟨g, 2, none⟩) (Keeps.setCell (p := ⟨g, 1, none⟩) (Keeps.setCell (p := ⟨g, 0, none⟩) (Keeps.refl (· = g) w) (fun _ => rfl) _) (fun _ => rfl) _) (fun _ => rfl) _) (fun _ => rfl) _
set_option maxRecDepth 100000 in
set_option maxHeartbeats 2000000 in
theorem parse1_s (w : World) (R : Nat → Prop) (p : Nat) (M : Model) (rest : List Int) (h : Src w R p (modelBytes M ++ rest)) (hR0 : ∀ g, R g → g < w.heap.size) (hM : M.Ok) :
    Calls Tryz.prog 55 #[.pointer (some ⟨p, 0, none⟩)] w fun e w' => ∃ v4 v5 v6 v7 v8 v9 v10, e = .returned (.agg #[.int .i64 M.kind, .int .i64 M.vocab, .int .i64 M.width, .int .i64 M.top, v4, v5, v6, v7, v8, v9, v10]) ∧ MSl w' (fun g => w.heap.size ≤ g) M v4 v5 v6 v7 v8 v9 v10 ∧ Src w' R p rest ∧ Keeps (· = p) w w' := by
  have hpz := h.lt
  have hkk := hM.kind
  have hvv := hM.vocab
  have hww := hM.width
  have htt := hM.top
  have n1 : (1 : Int) ≤ M.kind := hkk.1
  have n2 : M.kind ≤ 3 := hkk.2
  have h0 : Src w R p (numF M.kind ++ (numF M.vocab ++ (numF M.width ++ (numF M.top ++ modelRest M 0 rest)))) := by
    have e : modelBytes M ++ rest = numF M.kind ++ (numF M.vocab ++ (numF M.width ++ (numF M.top ++ modelRest M 0 rest))) := by
      unfold modelBytes modelRest Model.ns
      simp [List.append_assoc]
    rw [← e]; exact h
  have HS := Lib.hid h0
  have HR0 := Lib.hid hR0
  have HM := Lib.hid hM
  clear h h0 hR0 hM hkk
  go_enter Tryz.func55, Tryz.ntmps55
  go_upto_region 2 with (fail)
  have kr := (Blk.new w 27 #[.int .i64 0, .int .i64 0, .int .i64 0, .int .i64 0, .slice none 0 0, .slice none 0 0, .slice none 0 0, .slice none 0 0, .slice none 0 0, .slice none 0 0, .slice none 0 0]).alloc (.cells #[.int .i64 0, .int .i64 0, .int .i64 0, .int .i64 0, .slice none 0 0, .slice none 0 0, .slice none 0 0, .slice none 0 0, .slice none 0 0, .slice none 0 0, .slice none 0 0] 27)
  have kb := Blk.new (w.alloc (.cells #[.int .i64 0, .int .i64 0, .int .i64 0, .int .i64 0, .slice none 0 0, .slice none 0 0, .slice none 0 0, .slice none 0 0, .slice none 0 0, .slice none 0 0, .slice none 0 0] 27)) 27 #[.int .i64 0, .int .i64 0, .int .i64 0, .int .i64 0, .slice none 0 0, .slice none 0 0, .slice none 0 0, .slice none 0 0, .slice none 0 0, .slice none 0 0, .slice none 0 0]
  have hb0 : Below w.heap.size w ((w.alloc (.cells #[.int .i64 0, .int .i64 0, .int .i64 0, .int .i64 0, .slice none 0 0, .slice none 0 0, .slice none 0 0, .slice none 0 0, .slice none 0 0, .slice none 0 0, .slice none 0 0] 27)).alloc (.cells #[.int .i64 0, .int .i64 0, .int .i64 0, .int .i64 0, .slice none 0 0, .slice none 0 0, .slice none 0 0, .slice none 0 0, .slice none 0 0, .slice none 0 0, .slice none 0 0] 27)) := ((Below.refl _ _).alloc (Nat.le_refl _) _).alloc (by simp) _
  have hz0' : ((w.alloc (.cells #[.int .i64 0, .int .i64 0, .int .i64 0, .int .i64 0, .slice none 0 0, .slice none 0 0, .slice none 0 0, .slice none 0 0, .slice none 0 0, .slice none 0 0, .slice none 0 0] 27)).alloc (.cells #[.int .i64 0, .int .i64 0, .int .i64 0, .int .i64 0, .slice none 0 0, .slice none 0 0, .slice none 0 0, .slice none 0 0, .slice none 0 0, .slice none 0 0, .slice none 0 0] 27)).heap.size = w.heap.size + 2 := by simp
  rw [show (w.alloc (.cells #[.int .i64 0, .int .i64 0, .int .i64 0, .int .i64 0, .slice none 0 0, .slice none 0 0, .slice none 0 0, .slice none 0 0, .slice none 0 0, .slice none 0 0, .slice none 0 0] 27)).heap.size = w.heap.size + 1 by simp] at kb
  generalize (w.alloc (.cells #[.int .i64 0, .int .i64 0, .int .i64 0, .int .i64 0, .slice none 0 0, .slice none 0 0, .slice none 0 0, .slice none 0 0, .slice none 0 0, .slice none 0 0, .slice none 0 0] 27)).alloc (.cells #[.int .i64 0, .int .i64 0, .int .i64 0, .int .i64 0, .slice none 0 0, .slice none 0 0, .slice none 0 0, .slice none 0 0, .slice none 0 0, .slice none 0 0, .slice none 0 0] 27) = W at *
  have hs0 := HS.out.below hb0 hpz HR0.out
  obtain ⟨r, hr⟩ : ∃ r, r = w.heap.size := ⟨_, rfl⟩
  obtain ⟨b, hb⟩ : ∃ b, b = w.heap.size + 1 := ⟨_, rfl⟩
  rw [← hr] at kr
  rw [← hb] at kb
  rw [← hb, ← hr]
  have HN1 := Lib.hid (number_s W R p M.kind _ hs0 ⟨by omega, by omega⟩)
  have HB0 := Lib.hid hb0
  have HRE := Lib.hid hr
  have HBE := Lib.hid hb
  have KR := Lib.hid kr
  have KB := Lib.hid kb
  have hpr : p < r := by omega
  have hrb1 : r < b := by omega
  have hrb2 : b < r + 2 := by omega
  have hWz : b < W.heap.size := by omega
  clear hs0 kr kb hb0 hz0' HS hr hb hpz
  go_wp2_with fail
  refine HN1.out.mono ?_
  rintro e w1 ⟨rfl, hs1, hk1⟩
  have HN2 := Lib.hid (number_s w1 R p (M.vocab : Int) _ hs1 ⟨by omega, by omega⟩)
  have HK1 := Lib.hid hk1
  clear hs1 hk1 HN1
  go_wp2_with fail
  refine HN2.out.mono ?_
  rintro e w2 ⟨rfl, hs2, hk2⟩
  have HN3 := Lib.hid (number_s w2 R p (M.width : Int) _ hs2 ⟨by omega, by omega⟩)
  have HK2 := Lib.hid (HK1.out.tr hk2)
  clear hs2 hk2 HN2 HK1
  go_wp2_with fail
  refine HN3.out.mono ?_
  rintro e w3 ⟨rfl, hs3, hk3⟩
  have HN4 := Lib.hid (number_s w3 R p (M.top : Int) _ hs3 ⟨by omega, by omega⟩)
  have HK3 := Lib.hid (HK2.out.tr hk3)
  clear hs3 hk3 HN3 HK2
  go_wp2_with fail
  refine HN4.out.mono ?_
  rintro e w4 ⟨rfl, hs4, hk4⟩
  have hk5 := HK3.out.tr hk4
  have kb4 := hk5.blk KB.out (by omega)
  have kr4 := hk5.blk KR.out (by omega)
  have e0 := kb4.cell 0
  have e1 := kb4.cell 1
  have e2 := kb4.cell 2
  have e3 := kb4.cell 3
  have f0 := kb4.frozen 0
  have f1 := kb4.frozen 1
  have f2 := kb4.frozen 2
  have f3 := kb4.frozen 3
  have kb5 : Blk ((((w4.setCell ⟨b, 0, none⟩ (.int .i64 M.kind)).setCell ⟨b, 1, none⟩ (.int .i64 M.vocab)).setCell ⟨b, 2, none⟩ (.int .i64 M.width)).setCell ⟨b, 3, none⟩ (.int .i64 M.top)) b 27 (cellsTo M.kind M.vocab M.width M.top [] 0) := (((kb4.set_ 0 _).set_ 1 _).set_ 2 _).set_ 3 _
  have kk4 := keeps4' w4 b (.int .i64 M.kind) (.int .i64 M.vocab) (.int .i64 M.width) (.int .i64 M.top)
  have k5 : Keeps (fun g => g = p ∨ g = b) W ((((w4.setCell ⟨b, 0, none⟩ (.int .i64 M.kind)).setCell ⟨b, 1, none⟩ (.int .i64 M.vocab)).setCell ⟨b, 2, none⟩ (.int .i64 M.width)).setCell ⟨b, 3, none⟩ (.int .i64 M.top)) :=
    (hk5.mono (S' := fun g => g = p ∨ g = b) (fun i _ h => Or.inl h)).trans kk4 (fun i _ h => Or.inr h)
  have s5 : Src ((((w4.setCell ⟨b, 0, none⟩ (.int .i64 M.kind)).setCell ⟨b, 1, none⟩ (.int .i64 M.vocab)).setCell ⟨b, 2, none⟩ (.int .i64 M.width)).setCell ⟨b, 3, none⟩ (.int .i64 M.top)) R p (modelRest M 0 rest) :=
    hs4.keeps kk4 (by omega) (fun i hi e => by have := HR0.out i hi; have := HRE.out; omega)
  have HKB5 := Lib.hid kb5
  have HK5 := Lib.hid k5
  have HS5 := Lib.hid s5
  clear hs4 hk4 hk5 kb5 k5 s5 kb4 kr4 HN4 HK3 kk4
  go_wp2_with fail
  generalize (((w4.setCell ⟨b, 0, none⟩ (.int .i64 M.kind)).setCell ⟨b, 1, none⟩ (.int .i64 M.vocab)).setCell ⟨b, 2, none⟩ (.int .i64 M.width)).setCell ⟨b, 3, none⟩ (.int .i64 M.top) = w5 at *
  clear e0 e1 e2 e3 f0 f1 f2 f3
  refine (lists_any w5 b _ HKB5.out).mono ?_
  rintro e w6 ⟨rfl, hw6⟩
  have hb6 : Below w5.heap.size w5 w6 := by rw [hw6]; exact ((Below.refl _ _).drew).alloc (by simp) _
  have kq : Blk w6 w5.heap.size 70 #[.pointer (some ⟨b, 4, none⟩), .pointer (some ⟨b, 5, none⟩), .pointer (some ⟨b, 6, none⟩), .pointer (some ⟨b, 7, none⟩), .pointer (some ⟨b, 8, none⟩), .pointer (some ⟨b, 9, none⟩), .pointer (some ⟨b, 10, none⟩)] := by rw [hw6]; exact Blk.new w5.drew _ _
  have hz5 := HK5.out.size
  obtain ⟨q, hq⟩ : ∃ q, q = w5.heap.size := ⟨_, rfl⟩
  have hbq : b < q := by omega
  have HK6 := Lib.hid (HK5.out.fresh hb6)
  have HKB6 := Lib.hid (HKB5.out.below hb6 HKB5.out.lt)
  have HS6 := Lib.hid (HS5.out.below hb6 (by omega) (fun g hg => by have := HR0.out g hg; have := HRE.out; omega))
  have HKR6 := Lib.hid (HK6.out.blk KR.out (by omega))
  rw [← hq] at kq ⊢
  have HKQ6 := Lib.hid kq
  have HQ := Lib.hid hq
  clear hw6 hb6 kq hq HK5 HKB5 HS5
  go_wp2_with fail
  go_loopw [5, 20] (fun _ i wr => ∃ (k : Nat) (vs : List Value), k ≤ 7 ∧ i = .int .i64 k ∧ Hid (vs.length = k) ∧ Blk wr b 27 (cellsTo M.kind M.vocab M.width M.top vs k) ∧ Blk wr q 70 #[.pointer (some ⟨b, 4, none⟩), .pointer (some ⟨b, 5, none⟩), .pointer (some ⟨b, 6, none⟩), .pointer (some ⟨b, 7, none⟩), .pointer (some ⟨b, 8, none⟩), .pointer (some ⟨b, 9, none⟩), .pointer (some ⟨b, 10, none⟩)] ∧
      Blk wr r 27 #[.int .i64 0, .int .i64 0, .int .i64 0, .int .i64 0, .slice none 0 0, .slice none 0 0, .slice none 0 0, .slice none 0 0, .slice none 0 0, .slice none 0 0, .slice none 0 0] ∧ Rows wr (fun g => q < g) vs (M.ls.take k) ∧ Src wr R p (modelRest M k rest) ∧ Keeps (fun g => g = p ∨ g = b) W wr) (fun _ i _ => 7 - (intOf i).toNat)
  case atStart => exact ⟨0, [], by omega, rfl, rfl, HKB6.out, HKQ6.out, HKR6.out, Rows.nil_ _ _, HS6.out, HK6.out⟩
  clear HKB6 HKQ6 HKR6 HS6 HK6
  obtain ⟨k, vs, hk7, rfl, HL, hkb, hkq, hkr, hrow, hs, hkp⟩ := hrel
  have hqz := hkq.lt
  by_cases hlt : k < 7
  · have hkl : k < M.ls.length := hlt
    rw [modelRest_step M k rest hkl] at hs
    have hsm := HM.out.small _ (List.getElem_mem hkl)
    have HNX := Lib.hid (listed_s wr R p M.ls[k] _ hs (fun g hg => by have := HR0.out g hg; have := HRE.out; omega) hsm.2 (by omega))
    have HT := Lib.hid (List.take_succ_eq_append_getElem hkl)
    generalize M.ls[k] = l at *
    have c1 : wr.cell? ⟨q, k, none⟩ = some (.pointer (some ⟨b, 4 + k, none⟩)) := by
      rw [hkq.cell k]
      match k, hlt with
      | 0, _ => rfl
      | 1, _ => rfl
      | 2, _ => rfl
      | 3, _ => rfl
      | 4, _ => rfl
      | 5, _ => rfl
      | 6, _ => rfl
    have HKB := Lib.hid hkb
    have HKQ := Lib.hid hkq
    have HKR := Lib.hid hkr
    have HROW := Lib.hid hrow
    have HKP := Lib.hid hkp
    clear hkb hkq hkr hrow hs hkp hsm hkl
    go_wp2_with fail
    refine HNX.out.mono ?_
    rintro e w7 ⟨v, rfl, ho7, hs7, hk7'⟩
    obtain ⟨A, cap, rfl, -, -⟩ := ho7.shape
    have kb7 := hk7'.blk HKB.out (by omega)
    have kq7 := hk7'.blk HKQ.out (by omega)
    have kr7 := hk7'.blk HKR.out (by omega)
    have c2 : w7.cell? ⟨b, 4 + k, none⟩ = some (.slice none 0 0) := by rw [kb7.cell (4 + k)]; exact cellsTo_get _ _ _ _ vs k HL.out hlt
    have f2 := kb7.frozen (4 + k)
    have kb8 := kb7.set_ (4 + k) (.slice A l.length cap)
    rw [cellsTo_step _ _ _ _ vs k HL.out hlt] at kb8
    have k8 : Keeps (· = b) w7 (w7.setCell ⟨b, 4 + k, none⟩ (.slice A l.length cap)) := Keeps.setCell (p := ⟨b, 4 + k, none⟩) (Keeps.refl (· = b) w7) (fun _ => rfl) _
    have HKB8 := Lib.hid kb8
    have HKQ8 := Lib.hid (k8.blk kq7 (by omega))
    have HKR8 := Lib.hid (k8.blk kr7 (by omega))
    have HS8 := Lib.hid (hs7.keeps k8 (by omega) (fun g hg e => by have := HR0.out g hg; have := HRE.out; omega))
    have HROW8 := Lib.hid (((HROW.out.keeps hk7' (fun i hi e => by omega)).snoc ((ho7.more (T' := fun g => q < g) (fun g _ h => by omega)).slc)).keeps k8 (fun i hi e => by omega))
    have HK8 := Lib.hid ((HKP.out.trans hk7' (S := fun g => g = p ∨ g = b) (fun i _ h => Or.inl h)).trans k8 (S := fun g => g = p ∨ g = b) (fun i _ h => Or.inr h))
    clear ho7 hs7 hk7' kb7 kq7 kr7 kb8 k8
    go_wp2_with fail
    go_roundw
    case rel => exact ⟨k + 1, vs ++ [.slice A l.length cap], by omega, by go_num, by rw [List.length_append, HL.out]; rfl, HKB8.out, HKQ8.out, HKR8.out, by rw [HT.out]; exact HROW8.out, HS8.out, HK8.out⟩
    case measure => simp [intOf]; omega
  · obtain rfl : k = 7 := by omega
    obtain ⟨v4, v5, v6, v7, v8, v9, v10, rfl⟩ := list7 vs HL.out
    have e7 : M.ls.take 7 = M.ls := rfl
    rw [e7] at hrow
    have hone : ∀ v ∈ [v4, v5, v6, v7, v8, v9, v10], v.oneCell' = true := by
      intro v hv
      obtain ⟨i, hi, rfl⟩ := List.mem_iff_getElem.1 hv
      obtain ⟨v', h1, h2⟩ := hrow.2 i hi
      rw [List.getElem?_eq_getElem hi] at h1
      injection h1 with h1
      rw [h1]; exact h2.one
    have HKB := Lib.hid hkb
    have HKR := Lib.hid hkr
    have HROW := Lib.hid hrow
    have HKP := Lib.hid hkp
    have HS := Lib.hid hs
    have HONE := Lib.hid (cellsTo_one M.kind M.vocab M.width M.top _ 7 hone)
    have hi27 : (Tryz.prog.info? 27).map (·.size) = some 11 := by kernel_rfl
    clear hkb hkq hkr hrow hs hkp hone e7
    go_wp2_with (first
      | (refine wpList_load_blk rfl 27 _ rfl b rfl 27 _ _ HKB.out Tryz.underlying27 rfl hi27 ?_)
      | (refine wpList_store_blk rfl 27 _ _ rfl r _ rfl rfl 27 _ HKR.out hi27 rfl HONE.out ?_; intro w9 kr9 k9))
    refine bodyPost_ret (v := .agg (cellsTo M.kind M.vocab M.width M.top [v4, v5, v6, v7, v8, v9, v10] 7)) ?_ ?_ ?_
    · exact res_cell (p := 2) (ty := 27) (fn := Tryz.f55) rfl _ _ r 27 _ _ rfl kr9 Tryz.underlying27 rfl hi27
    · rfl
    have hbe := HBE.out
    have hz := HB0.out.size
    have hrow9 := (HROW.out.keeps k9 (fun i hi e => by omega)).more (T' := fun g => w.heap.size ≤ g) (fun g _ h => by omega)
    have hkk : Keeps (· = p) w w9 := (((Keeps.of_below HB0.out (· = p)).trans HKP.out (fun i hi h => by
      rcases h with h | h
      · exact h
      · omega))).trans k9 (fun i hi h => by omega)
    exact ⟨v4, v5, v6, v7, v8, v9, v10, rfl, hrow9.msl, HS.out.keeps k9 (by omega) (fun g hg e => by have := HR0.out g hg; omega), hkk⟩
end Go.Proofs.YtmlfgokbcafbkaaGreatDoor

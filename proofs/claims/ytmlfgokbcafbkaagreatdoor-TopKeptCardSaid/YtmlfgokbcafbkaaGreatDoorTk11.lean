/- The bytes of a model. The methods of Stream: each returns some number of its range, moves the stream's place, and keeps all else. Conditions: none beside the stream's own form. -/
import Derived.Test.YtmlfgokbcafbkaaGreatDoorTk8
import Derived.Test.YtmlfgokbcafbkaaGreatDoorTk10
import Derived.Test.YtmlfgokbcafbkaaGreatDoorTk5
import Derived.StillTailTactics
import Derived.Deep.DeepCutAuto
import Derived.Test.YtmlfgokbcafbkaaGreatDoorRows
import Derived.Test.YtmlfgokbcafbkaaGreatDoorTk1
namespace Go.Proofs.YtmlfgokbcafbkaaGreatDoor
open Go.RowKit

theorem lit_slc' (w : World) (t : TypeId) (xs : List Int) (n : Nat) (hn : n = xs.length) (hm : n ≤ maxLen) : Slc (w.alloc (.cells (ints xs).toArray t)) (· = w.heap.size) (.slice (some ⟨w.heap.size, 0, none⟩) n n) xs := by
  subst hn
  exact ⟨_, _, rfl, reads_new w t xs _ rfl, Nat.le_refl _, hm, fun h => by cases h⟩
def Model.ls (M : Model) : List (List Int) := [M.cuts, M.embed, M.place, M.mix, M.out, M.soft, M.odds]
def Model.ns (M : Model) : List Int := [M.kind, M.vocab, M.width, M.top]
def modelBytes (M : Model) : List Int := M.ns.flatMap numF ++ M.ls.flatMap listF
theorem Wr.moreR {w : World} {R R' : Nat → Prop} {p : Nat} {xs : List Int} (h : Wr w R p xs) (hR : ∀ g, g < w.heap.size → R' g → R g) : Wr w R' p xs := by
  obtain ⟨⟨v, h1, h2⟩, h3⟩ := h
  exact ⟨⟨v, h1, h2.more fun g hg hn hr => hn (hR g hg hr)⟩, fun hr => h3 (hR p h1.lt hr)⟩
theorem MSl.rows {w : World} {T : Nat → Prop} {M : Model} {v4 v5 v6 v7 v8 v9 v10 : Value} (h : MSl w T M v4 v5 v6 v7 v8 v9 v10) : Rows w T [v4, v5, v6, v7, v8, v9, v10] M.ls := by
  have r := (((((((Rows.nil_ w T).snoc h.cuts).snoc h.embed).snoc h.place).snoc h.mix).snoc h.out).snoc h.soft).snoc h.odds
  exact r
set_option maxRecDepth 100000 in
set_option maxHeartbeats 1000000 in
theorem lists_any (w : World) (b : Nat) (cs : Array Value) (hb : Blk w b 27 cs) :
    Calls Tryz.prog 36 #[.pointer (some ⟨b, 0, none⟩)] w fun e w' => e = .returned (.slice (some ⟨w.heap.size, 0, none⟩) 7 7) ∧ w' = (w.drew.alloc (.cells #[.pointer (some ⟨b, 4, none⟩), .pointer (some ⟨b, 5, none⟩), .pointer (some ⟨b, 6, none⟩), .pointer (some ⟨b, 7, none⟩), .pointer (some ⟨b, 8, none⟩), .pointer (some ⟨b, 9, none⟩), .pointer (some ⟨b, 10, none⟩)] 70)) := by
  have hlt := hb.lt
  go_enter Tryz.func36, Tryz.ntmps36
  go_wp2_with fail
  go_still_tail 21, (by kernel_rfl)
  change wpList _ _ _ _ _ w.drew
  go_wp2_with fail
  go_ret
  exact ⟨rfl, rfl⟩

def nsTo (M : Model) (k : Nat) : List Int := (M.ns.take k).flatMap numF
def lsTo (M : Model) (k : Nat) : List Int := M.ns.flatMap numF ++ (M.ls.take k).flatMap listF
theorem nsTo_succ (M : Model) (k : Nat) (h : k < M.ns.length) : nsTo M (k + 1) = nsTo M k ++ numF M.ns[k] := by
  unfold nsTo
  rw [List.take_succ_eq_append_getElem h, List.flatMap_append]
  simp
theorem lsTo_succ (M : Model) (k : Nat) (h : k < M.ls.length) : lsTo M (k + 1) = lsTo M k ++ listF M.ls[k] := by
  unfold lsTo
  rw [List.take_succ_eq_append_getElem h, List.flatMap_append]
  simp
theorem nsTo_length (M : Model) (k : Nat) : (nsTo M k).length ≤ 44 := by
  unfold nsTo
  have h1 := flatNum_length (M.ns.take k)
  have h2 : (M.ns.take k).length ≤ M.ns.length := List.length_take_le' _ _
  have h3 : M.ns.length = 4 := rfl
  omega
theorem flatList_length (L : List (List Int)) (h : ∀ l ∈ L, l.length ≤ 10000) : (L.flatMap listF).length ≤ 110011 * L.length := by
  induction L with
  | nil => simp
  | cons x L ih =>
    simp only [List.flatMap_cons, List.length_append, List.length_cons]
    have h1 := listF_length x
    have h2 := h x (by simp)
    have h3 := ih fun l hl => h l (by simp [hl])
    omega
theorem Model.Ok.small {M : Model} (hM : M.Ok) : ∀ l ∈ M.ls, l.length ≤ 1000 ∧ inRange (-2147483648) 2147483647 l := by
  have hv := hM.vocab
  have hw := hM.width
  have hm : M.vocab * M.width ≤ 16 * 5 := Nat.mul_le_mul hv.2 hw.2
  have h3 : 3 * M.width * M.width ≤ 3 * 5 * 5 := Nat.mul_le_mul (Nat.mul_le_mul (Nat.le_refl 3) hw.2) hw.2
  intro l hl
  simp only [Model.ls, List.mem_cons, List.not_mem_nil, or_false] at hl
  rcases hl with rfl | rfl | rfl | rfl | rfl | rfl | rfl
  · exact ⟨by have := hM.lcuts; omega, fun x hx => by have := hM.cuts x hx; omega⟩
  · exact ⟨by have := hM.lembed; omega, fun x hx => by have := hM.embed x hx; omega⟩
  · obtain ⟨t, t1, t2, ht⟩ := hM.lplace
    have : t * M.width ≤ 16 * 5 := Nat.mul_le_mul t2 hw.2
    exact ⟨by omega, fun x hx => by have := hM.place x hx; omega⟩
  · refine ⟨?_, fun x hx => by have := hM.mix x hx; omega⟩
    have hk := hM.kind
    have h2 : 2 * M.width * M.width ≤ 2 * 5 * 5 := Nat.mul_le_mul (Nat.mul_le_mul (Nat.le_refl 2) hw.2) hw.2
    have hk2 : M.kind = 1 ∨ M.kind = 2 ∨ M.kind = 3 := by omega
    rcases hk2 with e | e | e
    · have := hM.attend e; omega
    · have := hM.cell e; omega
    · obtain ⟨t, t1, t2, ht⟩ := hM.conv e
      have : t * (M.width * M.width) ≤ 4 * (5 * 5) := Nat.mul_le_mul t2 (Nat.mul_le_mul hw.2 hw.2)
      omega
  · exact ⟨by have := hM.lout; omega, fun x hx => by have := hM.out x hx; omega⟩
  · exact ⟨by have := hM.lsoft; omega, fun x hx => by have := hM.soft x hx; omega⟩
  · exact ⟨by have := hM.lodds; omega, fun x hx => by have := hM.odds x hx; omega⟩
theorem lsTo_length (M : Model) (hM : M.Ok) (k : Nat) : (lsTo M k).length ≤ 400000 := by
  have key : ∀ L : List (List Int), (∀ l ∈ L, l.length ≤ 1000) → (L.flatMap listF).length ≤ 11011 * L.length := by
    intro L
    induction L with
    | nil => intro _; simp
    | cons x L ih =>
      intro h
      simp only [List.flatMap_cons, List.length_append, List.length_cons]
      have h1 := listF_length x
      have h2 := h x (by simp)
      have h3 := ih fun l hl => h l (by simp [hl])
      omega
  unfold lsTo
  rw [List.length_append]
  have h1 := flatNum_length M.ns
  have h3 : M.ns.length = 4 := rfl
  have h2 := key (M.ls.take k) fun l hl => (hM.small l (List.mem_of_mem_take hl)).1
  have h4 : (M.ls.take k).length ≤ M.ls.length := List.length_take_le' _ _
  have h5 : M.ls.length = 7 := rfl
  have h6 : 11011 * (M.ls.take k).length ≤ 11011 * 7 := Nat.mul_le_mul (Nat.le_refl _) (by omega)
  omega
theorem modelBytes_bytes (M : Model) : isBytes (modelBytes M) := by
  have h1 : ∀ n, isBytes (numF n) := fun n => varF_bytes _ _
  have h2 : ∀ l : List Int, isBytes (l.flatMap numF) := by
    intro l x hx
    obtain ⟨n, -, h⟩ := List.mem_flatMap.1 hx
    exact h1 n x h
  refine isBytes_append (h2 _) ?_
  intro x hx
  obtain ⟨l, -, h⟩ := List.mem_flatMap.1 hx
  exact isBytes_append (h1 _) (h2 l) x h
theorem modelBytes_length (M : Model) (hM : M.Ok) : (modelBytes M).length ≤ 800000 := by
  unfold modelBytes
  rw [List.length_append]
  have h1 := flatNum_length M.ns
  have h3 : M.ns.length = 4 := rfl
  have h2 := flatList_length M.ls fun l hl => by have := (hM.small l hl).1; omega
  have h4 : M.ls.length = 7 := rfl
  rw [h4] at h2
  omega
def mcell (M : Model) (vs : List Value) : Array Value := #[.int .i64 M.kind, .int .i64 M.vocab, .int .i64 M.width, .int .i64 M.top] ++ vs.toArray
set_option maxRecDepth 100000 in
set_option maxHeartbeats 2000000 in
theorem bytesOf_any (w : World) (T : Nat → Prop) (M : Model) (v4 v5 v6 v7 v8 v9 v10 : Value) (h : MSl w T M v4 v5 v6 v7 v8 v9 v10) (hM : M.Ok) :
    Calls Tryz.prog 24 #[.agg #[.int .i64 M.kind, .int .i64 M.vocab, .int .i64 M.width, .int .i64 M.top, v4, v5, v6, v7, v8, v9, v10]] w (RetFresh w 5 1 (modelBytes M).length (bytes (modelBytes M))) := by
  have hold := h.old
  have HR0 := Lib.hid hold.rows
  have HM := Lib.hid hM
  have hkk := hM.kind
  have hvv := hM.vocab
  have hww := hM.width
  have htt := hM.top
  have n1 : (1 : Int) ≤ M.kind := hkk.1
  have n2 : M.kind ≤ 3 := hkk.2
  clear h hold hM hkk
  go_enter Tryz.func24, Tryz.ntmps24
  go_upto_region 2 with (fail)
  have kb := (Blk.new w 27 #[.int .i64 M.kind, .int .i64 M.vocab, .int .i64 M.width, .int .i64 M.top, v4, v5, v6, v7, v8, v9, v10]).alloc (.cells #[.slice none 0 0] 84)
  have kp := Blk.new (w.alloc (.cells #[.int .i64 M.kind, .int .i64 M.vocab, .int .i64 M.width, .int .i64 M.top, v4, v5, v6, v7, v8, v9, v10] 27)) 84 #[.slice none 0 0]
  have hb0 : Below w.heap.size w ((w.alloc (.cells #[.int .i64 M.kind, .int .i64 M.vocab, .int .i64 M.width, .int .i64 M.top, v4, v5, v6, v7, v8, v9, v10] 27)).alloc (.cells #[.slice none 0 0] 84)) := ((Below.refl _ _).alloc (Nat.le_refl _) _).alloc (by simp) _
  have hz0' : ((w.alloc (.cells #[.int .i64 M.kind, .int .i64 M.vocab, .int .i64 M.width, .int .i64 M.top, v4, v5, v6, v7, v8, v9, v10] 27)).alloc (.cells #[.slice none 0 0] 84)).heap.size = w.heap.size + 2 := by simp
  rw [show (w.alloc (.cells #[.int .i64 M.kind, .int .i64 M.vocab, .int .i64 M.width, .int .i64 M.top, v4, v5, v6, v7, v8, v9, v10] 27)).heap.size = w.heap.size + 1 by simp] at kp
  generalize (w.alloc (.cells #[.int .i64 M.kind, .int .i64 M.vocab, .int .i64 M.width, .int .i64 M.top, v4, v5, v6, v7, v8, v9, v10] 27)).alloc (.cells #[.slice none 0 0] 84) = W at *
  obtain ⟨b, hb⟩ : ∃ b, b = w.heap.size := ⟨_, rfl⟩
  have e0 : W.cell? ⟨b, 0, none⟩ = some (.int .i64 M.kind) := by rw [hb]; exact kb.cell 0
  have e1 : W.cell? ⟨b, 1, none⟩ = some (.int .i64 M.vocab) := by rw [hb]; exact kb.cell 1
  have e2 : W.cell? ⟨b, 2, none⟩ = some (.int .i64 M.width) := by rw [hb]; exact kb.cell 2
  have e3 : W.cell? ⟨b, 3, none⟩ = some (.int .i64 M.top) := by rw [hb]; exact kb.cell 3
  rw [← hb] at kb kp hz0' ⊢
  have hWz : b + 1 < W.heap.size := by omega
  have hWz2 : W.heap.size ≤ b + 2 := by omega
  have HB0 := Lib.hid hb0
  have HBE := Lib.hid hb
  have KB := Lib.hid kb
  have KP := Lib.hid kp
  clear hb0 hb kb kp hz0'
  go_wp2_with fail
  have hs1 := lit_slc' W 3 M.ns 4 rfl (by decide)
  have hst : Wr (W.alloc (.cells #[.int .i64 M.kind, .int .i64 M.vocab, .int .i64 M.width, .int .i64 M.top] 3)) (fun g => g < b + 1 ∨ g = W.heap.size) (b + 1) (nsTo M 0) :=
    ⟨⟨_, KP.out.alloc _, Own.nil_ _ _ _ _⟩, fun h => by omega⟩
  have hs1' : Slc (W.alloc (.cells #[.int .i64 M.kind, .int .i64 M.vocab, .int .i64 M.width, .int .i64 M.top] 3)) (· = W.heap.size) (.slice (some ⟨W.heap.size, 0, none⟩) 4 4) M.ns := hs1
  have hbW := Below.alloc (Below.refl W.heap.size W) (Nat.le_refl _) (.cells #[.int .i64 M.kind, .int .i64 M.vocab, .int .i64 M.width, .int .i64 M.top] 3)
  have hz1' : (W.alloc (.cells #[.int .i64 M.kind, .int .i64 M.vocab, .int .i64 M.width, .int .i64 M.top] 3)).heap.size = W.heap.size + 1 := by simp
  generalize W.alloc (.cells #[.int .i64 M.kind, .int .i64 M.vocab, .int .i64 M.width, .int .i64 M.top] 3) = W1 at *
  have hW1z : W.heap.size < W1.heap.size := by omega
  have HST := Lib.hid hst
  have HS1 := Lib.hid hs1'
  have HBW := Lib.hid hbW
  have HZ1 := Lib.hid hz1'
  clear hst hs1 hs1' hbW hz1' e0 e1 e2 e3
  go_loopw [5, 18] (fun _ i wr => ∃ k : Nat, k ≤ 4 ∧ i = .int .i64 k ∧ Wr wr (fun g => g < b + 1 ∨ g = W.heap.size) (b + 1) (nsTo M k) ∧ Keeps (fun g => ¬ (g < b + 1 ∨ g = W.heap.size)) W1 wr) (fun _ i _ => 4 - (intOf i).toNat)
  case atStart => exact ⟨0, by omega, rfl, HST.out, Keeps.refl _ _⟩
  obtain ⟨k, hk4, rfl, hw, hkp⟩ := hrel
  have hwz := hkp.size
  by_cases hlt : k < 4
  · have hkl : k < M.ns.length := hlt
    have hs := HS1.out.keeps hkp (fun i h hn => hn (Or.inr h))
    obtain ⟨-, ad, e, hc⟩ := hs.at_ k hkl
    injection e with e
    subst e
    rw [Addr.add_lit, Nat.zero_add] at hc
    have hx : -2147483648 ≤ M.ns[k] ∧ M.ns[k] ≤ 2147483648 := by
      have : ∀ x ∈ M.ns, -2147483648 ≤ x ∧ x ≤ 2147483648 := by
        intro x hx
        simp only [Model.ns, List.mem_cons, List.not_mem_nil, or_false] at hx
        omega
      exact this _ (List.getElem_mem hkl)
    have HSU := Lib.hid (nsTo_succ M k hkl)
    generalize M.ns[k] = x at *
    have HNX := Lib.hid (number_w wr _ (b + 1) _ hw (fun g hg => by rcases hg with hg | hg <;> omega) x hx (by have := nsTo_length M k; omega))
    have HKP := Lib.hid hkp
    clear hs hw hkp hkl hx
    go_wp2_with fail
    refine HNX.out.mono ?_
    rintro e w2 ⟨rfl, hw2, hb2⟩
    have HW2 := Lib.hid hw2
    have HB2 := Lib.hid (HKP.out.tr hb2)
    clear hw2 hb2
    go_wp2_with fail
    go_roundw
    case rel => exact ⟨k + 1, by omega, by go_num, by rw [HSU.out]; exact HW2.out, HB2.out⟩
    case measure => simp [intOf]; omega
  · obtain rfl : k = 4 := by omega
    have kb2 : Blk wr b 27 #[.int .i64 M.kind, .int .i64 M.vocab, .int .i64 M.width, .int .i64 M.top, v4, v5, v6, v7, v8, v9, v10] := hkp.blk (KB.out.below HBW.out (by omega)) (fun hn => hn (Or.inl (by omega)))
    have hRw : Rows wr (· < w.heap.size) [v4, v5, v6, v7, v8, v9, v10] M.ls := ((HR0.out.fresh HB0.out).fresh HBW.out).keeps hkp fun i h hn => hn (Or.inl (by rw [HBE.out]; omega))
    have hkb : Keeps (fun _ => False) w wr := by
      have hz := HB0.out.size
      have hbb := HBE.out
      exact ⟨hkp.os.trans (HBW.out.os.trans HB0.out.os), hkp.tape.trans (HBW.out.tape.trans HB0.out.tape), hkp.output.trans (HBW.out.output.trans HB0.out.output), Nat.le_trans hz (Nat.le_trans HBW.out.size hkp.size),
        fun g hg _ => (hkp.block g (by omega) (fun hn => hn (Or.inl (by omega)))).trans ((HBW.out.block g (by omega)).trans (HB0.out.block g hg))⟩
    have HL := Lib.hid (lists_any wr b _ kb2)
    have KB2 := Lib.hid kb2
    have HRW := Lib.hid hRw
    have HW := Lib.hid hw
    have HKB := Lib.hid hkb
    clear kb2 hRw hw hkp hkb
    go_wp2_with fail
    refine HL.out.mono ?_
    rintro e w2 ⟨rfl, hw2⟩
    have hb2 : Below wr.heap.size wr w2 := by rw [hw2]; exact ((Below.refl _ _).drew).alloc (by simp) _
    have kq : Blk w2 wr.heap.size 70 #[.pointer (some ⟨b, 4, none⟩), .pointer (some ⟨b, 5, none⟩), .pointer (some ⟨b, 6, none⟩), .pointer (some ⟨b, 7, none⟩), .pointer (some ⟨b, 8, none⟩), .pointer (some ⟨b, 9, none⟩), .pointer (some ⟨b, 10, none⟩)] := by rw [hw2]; exact Blk.new wr.drew _ _
    have hz2' : w2.heap.size = wr.heap.size + 1 := by rw [hw2]; simp
    have hst2 : Wr w2 (fun g => g < b + 1 ∨ g = wr.heap.size) (b + 1) (lsTo M 0) := by
      have h1 := (HW.out.moreR (R' := fun g => g < b + 1 ∨ g = wr.heap.size) fun g hg h => by
        rcases h with h | h
        · exact Or.inl h
        · omega).fresh hb2
      have e : lsTo M 0 = nsTo M 4 := by unfold lsTo nsTo; simp [Model.ns]
      rw [e]; exact h1
    have HKQ := Lib.hid kq
    have HST2 := Lib.hid hst2
    have HKB2 := Lib.hid (HKB.out.to_below.trans (hb2.mono HKB.out.size))
    have KB3 := Lib.hid (KB2.out.below hb2 KB2.out.lt)
    have HR2 := Lib.hid (HRW.out.fresh hb2)
    have hbz : b + 1 < wr.heap.size := by omega
    have hz2'' : wr.heap.size < w2.heap.size := by omega
    clear hw2 hb2 kq hz2' hst2
    go_wp2_with fail
    obtain ⟨wo, rfl⟩ : ∃ wo : World, wo = wr := ⟨_, rfl⟩
    go_loopw [7, 27] (fun _ i wx => ∃ k : Nat, k ≤ 7 ∧ i = .int .i64 k ∧ Wr wx (fun g => g < b + 1 ∨ g = wo.heap.size) (b + 1) (lsTo M k) ∧ Keeps (fun g => ¬ (g < b + 1 ∨ g = wo.heap.size)) w2 wx) (fun _ i _ => 7 - (intOf i).toNat)
    case atStart => exact ⟨0, by omega, rfl, HST2.out, Keeps.refl _ _⟩
    obtain ⟨k, hk7, rfl, hw, hkp⟩ := hrel
    have hwz2 := hkp.size
    by_cases hlt : k < 7
    · have hkl : k < M.ls.length := hlt
      have kb4 := hkp.blk KB3.out (fun hn => hn (Or.inl (by omega)))
      have kq4 := hkp.blk HKQ.out (fun hn => hn (Or.inr rfl))
      have hrow := HR2.out.keeps hkp (fun i h hn => hn (Or.inl (by rw [HBE.out]; omega)))
      obtain ⟨v, hv, hslc⟩ := hrow.2 k hkl
      have hsm := HM.out.small _ (List.getElem_mem hkl)
      have HSU := Lib.hid (lsTo_succ M k hkl)
      have hlen := lsTo_length M HM.out k
      obtain ⟨l, hl⟩ : ∃ l, l = M.ls[k] := ⟨_, rfl⟩
      rw [← hl] at hslc hsm HSU
      have c1 : wr.cell? ⟨wo.heap.size, k, none⟩ = some (.pointer (some ⟨b, 4 + k, none⟩)) := by
        rw [kq4.cell k]
        match k, hlt with
        | 0, _ => rfl
        | 1, _ => rfl
        | 2, _ => rfl
        | 3, _ => rfl
        | 4, _ => rfl
        | 5, _ => rfl
        | 6, _ => rfl
      have c2 : wr.cell? ⟨b, 4 + k, none⟩ = some v := by
        rw [kb4.cell (4 + k), ← hv]
        match k, hlt with
        | 0, _ => rfl
        | 1, _ => rfl
        | 2, _ => rfl
        | 3, _ => rfl
        | 4, _ => rfl
        | 5, _ => rfl
        | 6, _ => rfl
      obtain ⟨Av, cv, rfl⟩ := hslc.len
      have HLX := Lib.hid (list_w wr _ (b + 1) _ hw (fun g hg => by rcases hg with hg | hg <;> omega) (· < w.heap.size) _ l hslc (fun g hg => Or.inl (by rw [HBE.out]; omega)) hsm.2 (by omega) (by omega))
      have HKP := Lib.hid hkp
      clear kb4 kq4 hrow hv hslc hsm hlen hl hw hkp hkl
      go_wp2_with fail
      refine HLX.out.mono ?_
      rintro e w3 ⟨rfl, hw3, hb3⟩
      have HW3 := Lib.hid hw3
      have HB3 := Lib.hid (HKP.out.tr hb3)
      clear hw3 hb3
      go_wp2_with fail
      go_roundw
      case rel => exact ⟨k + 1, by omega, by go_num, by rw [HSU.out]; exact HW3.out, HB3.out⟩
      case measure => simp [intOf]; omega
    · obtain rfl : k = 7 := by omega
      obtain ⟨⟨v, hvb, hown⟩, -⟩ := hw
      obtain ⟨Av, cv, rfl, -, -⟩ := hown.shape
      have c0 : wr.cell? ⟨b + 1, 0, none⟩ = some (.slice Av (lsTo M 7).length cv) := hvb.cell 0
      have e : lsTo M 7 = modelBytes M := rfl
      rw [e] at c0 hown
      have HOWN := Lib.hid hown
      have hbel : Below w.heap.size w wr := by
        have h1 := HKB2.out
        have hbb := HBE.out
        exact ⟨hkp.os.trans h1.os, hkp.tape.trans h1.tape, hkp.output.trans h1.output, Nat.le_trans h1.size hkp.size, fun g hg => (hkp.block g (by have := h1.size; omega) (fun hn => hn (Or.inl (by omega)))).trans (h1.block g hg)⟩
      have HBEL := Lib.hid hbel
      clear hvb hown e hbel hkp
      go_wp2_with fail
      go_ret
      exact ⟨_, rfl, HOWN.out.more fun g _ h => by
        have hbb := HBE.out
        have : ¬ g < b + 1 := fun h' => h (Or.inl h')
        omega, HBEL.out⟩
end Go.Proofs.YtmlfgokbcafbkaaGreatDoor

namespace Go.Proofs.YtmlfgokbcafbkaaGreatDoor
open Go.RowKit

/-- 'weftmake.Below' as a function. -/
def belowF (x n : Int) : Int := if n < 1 then 0 else if x.tmod n < 0 then x.tmod n + n else x.tmod n
theorem belowF_range (x n : Int) : 0 ≤ belowF x n ∧ (1 ≤ n → belowF x n < n) ∧ (n < 1 → belowF x n = 0) := by
  unfold belowF
  by_cases h : n < 1
  · rw [if_pos h]; exact ⟨Int.le_refl 0, fun h1 => by omega, fun _ => rfl⟩
  · rw [if_neg h]
    have h1 := Int.tmod_lt_of_pos x (show 0 < n by omega)
    have h2 : -n < x.tmod n := by
      have h3 := Int.tmod_lt_of_pos (-x) (show 0 < n by omega)
      rw [Int.neg_tmod] at h3
      omega
    split <;> exact ⟨by omega, fun _ => by omega, fun h4 => by omega⟩

set_option maxHeartbeats 400000 in
theorem below_any (x n : Int) (w : World) (hn : -9223372036854775808 ≤ n ∧ n ≤ 9223372036854775807) :
    Calls Tryz.prog 5 #[.int .i64 x, .int .i64 n] w fun e w' => e = .returned (.int .i64 (belowF x n)) ∧ w = w' := by
  go_enter Tryz.func5, Tryz.ntmps5
  go_wp2
  · go_ret
    exact ⟨by unfold belowF; rw [if_pos (by assumption)]; rfl, rfl⟩
  · go_ret
    have h1 : 1 ≤ n := by assumption
    have h2 : x.tmod n < 0 := by assumption
    refine ⟨?_, rfl⟩
    unfold belowF
    rw [if_neg (by omega), if_pos h2]
    have h3 := Int.tmod_lt_of_pos (-x) (show 0 < n by omega)
    rw [Int.neg_tmod] at h3
    show Ending.returned (.int .i64 (wrap64 _)) = _
    rw [IntWalk.wrap64_in _ ⟨by omega, by omega⟩]
  · go_ret
    have h1 : 1 ≤ n := by assumption
    have h2 : 0 ≤ x.tmod n := by assumption
    exact ⟨by unfold belowF; rw [if_neg (by omega), if_neg (by omega)]; rfl, rfl⟩

/-- The stream at block p: its list reads as l, its place is a. -/
structure Str (w : World) (p : Nat) (A : Option Addr) (n c : Nat) (l : List Int) (a : Int) : Prop where
  blk : Blk w p 25 #[.slice A n c, .int .i64 a]
  reads : Reads w (· ≠ p) 1 A n (ints l)
  wf : ∀ x ∈ l, -9223372036854775808 ≤ x ∧ x ≤ 9223372036854775807
  len : n ≤ 9223372036854775807
  at0 : 0 ≤ a

section
variable {w w' : World} {p : Nat} {A : Option Addr} {n c : Nat} {l : List Int} {a : Int}
theorem Str.keeps {S : Nat → Prop} (h : Str w p A n c l a) (hk : Keeps S w w') (hp : ¬ S p) (hs : ∀ ad, A = some ad → ¬ S ad.block) : Str w' p A n c l a := by
  refine ⟨hk.blk h.blk hp, ?_, h.wf, h.len, h.at0⟩
  refine ⟨h.reads.1, fun hn => ?_⟩
  obtain ⟨ad, e, hb, ht, hc⟩ := h.reads.2 hn
  exact ⟨ad, e, Nat.lt_of_lt_of_le hb hk.size, ht, fun j u hu => (hk.cell (by rw [block_of_add]; exact hb) (by rw [block_of_add]; exact hs ad e)).trans (hc j u hu)⟩
theorem Str.fresh (h : Str w p A n c l a) (hk : Below w.heap.size w w') : Str w' p A n c l a :=
  ⟨(hk.block p h.blk.lt).trans h.blk, h.reads.fresh hk, h.wf, h.len, h.at0⟩
theorem Str.set (h : Str w p A n c l a) (a' : Int) (h0 : 0 ≤ a') : Str (w.setCell ⟨p, 1, none⟩ (.int .i64 a')) p A n c l a' :=
  ⟨h.blk.set_ 1 _, h.reads.setCell (fun h => h rfl) _, h.wf, h.len, h0⟩
theorem Str.drew (h : Str w p A n c l a) : Str w.drew p A n c l a := ⟨h.blk.drew, h.reads.drew, h.wf, h.len, h.at0⟩
theorem Str.drewN (h : Str w p A n c l a) (k : Nat) : Str (w.drewN k) p A n c l a := ⟨h.blk.drewN k, h.reads.drewN k, h.wf, h.len, h.at0⟩
theorem Str.alloc (h : Str w p A n c l a) (o : Obj) : Str (w.alloc o) p A n c l a := ⟨h.blk.alloc o, h.reads.alloc o, h.wf, h.len, h.at0⟩
theorem Str.setFar (h : Str w p A n c l a) {q : Addr} (hq : w.heap.size ≤ q.block) (u : Value) : Str (w.setCell q u) p A n c l a := by
  have := h.blk.lt
  refine ⟨h.blk.far (by omega) u, ?_, h.wf, h.len, h.at0⟩
  exact h.reads.keep (by simp [World.setCell]) fun r hr _ => World.cell?_setCell_other w q r u (fun e => by subst e; omega)
end

/-- What a method of the stream leaves: some number with a property, the stream moved on by at most m places, all else kept. -/
def StrPost (w : World) (p : Nat) (A : Option Addr) (n c : Nat) (l : List Int) (a m : Int) (R : Int → Prop) (e : Ending) (w' : World) : Prop :=
  ∃ v a', e = .returned (.int .i64 v) ∧ R v ∧ a ≤ a' ∧ a' ≤ a + m ∧ Str w' p A n c l a' ∧ Keeps (· = p) w w'

set_option maxHeartbeats 400000 in
theorem next_any (w : World) (p : Nat) (A : Option Addr) (n c : Nat) (l : List Int) (a m : Int) (h : Str w p A n c l a) (ha : a ≤ 1000000000) (hm : -9223372036854775808 ≤ m ∧ m ≤ 9223372036854775807) :
    Calls Tryz.prog 13 #[.pointer (some ⟨p, 0, none⟩), .int .i64 m] w (StrPost w p A n c l a 1 fun v => 0 ≤ v ∧ (1 ≤ m → v < m) ∧ (m < 1 → v = 0)) := by
  have c0 := h.blk.cell 0
  have c1 := h.blk.cell 1
  have f1 := h.blk.frozen 1
  have a0 := h.at0
  have hl := h.len
  by_cases hn : n = 0
  · subst hn
    go_enter Tryz.func13, Tryz.ntmps13
    go_wp2_with (go_at_call 5; refine (below_any _ _ _ hm).mono ?_; rintro e w' ⟨rfl, rfl⟩)
    go_ret
    exact ⟨_, a + 1, rfl, belowF_range _ m, by omega, by omega, h.set _ (by omega), Keeps.setCell (Keeps.refl (· = p) w) (fun _ => rfl) _⟩
  · have e1 : a % n < n := Int.emod_lt_of_pos a (show (0 : Int) < n by omega)
    have e0 : 0 ≤ a % n := Int.emod_nonneg a (show (n : Int) ≠ 0 by omega)
    obtain ⟨ad, u, rfl, hb, ht, hu, hc⟩ := h.reads.at_ (k := (a % n).toNat) (by omega)
    have hll : (a % n).toNat < l.length := by have := h.reads.1; simp [ints] at this; omega
    have hw := h.wf _ (List.getElem_mem hll)
    rw [ints_get l _ hll] at hu
    obtain ⟨x, hx⟩ : ∃ x, x = l[(a % n).toNat] := ⟨_, rfl⟩
    rw [← hx] at hu hw
    injection hu with hu
    subst hu
    clear hx
    have hc1 : (w.setCell ⟨p, 1, none⟩ (.int .i64 (a + 1))).cell? (ad.add (a % n).toNat) = some (.int .i64 x) := by
      rw [World.cell?_setCell_other _ _ _ _ (fun e => by have := congrArg Addr.block e; rw [block_of_add] at this; exact ht this.symm)]
      exact hc
    clear hc ht
    go_enter Tryz.func13, Tryz.ntmps13
    go_wp2_with fail
    go_quiet (fail)
    go_wp2_with fail
    go_quiet (fail)
    go_wp2_with fail
    refine (below_any _ _ _ (by omega)).mono ?_
    rintro e w' ⟨rfl, rfl⟩
    go_wp2_with fail
    refine (below_any _ _ _ hm).mono ?_
    rintro e w' ⟨rfl, rfl⟩
    go_wp2_with fail
    go_ret
    exact ⟨_, a + 1, rfl, belowF_range _ m, by omega, by omega, (h.set _ (by omega)).drewN _, (Keeps.setCell (Keeps.refl (· = p) w) (fun _ => rfl) _).drewN _⟩

set_option maxHeartbeats 400000 in
theorem range_any (w : World) (p : Nat) (A : Option Addr) (n c : Nat) (l : List Int) (a lo hi : Int) (h : Str w p A n c l a) (ha : a ≤ 1000000000)
    (h1 : -1000000000000 ≤ lo) (h2 : lo ≤ hi) (h3 : hi ≤ 1000000000000) :
    Calls Tryz.prog 18 #[.pointer (some ⟨p, 0, none⟩), .int .i64 lo, .int .i64 hi] w (StrPost w p A n c l a 1 fun v => lo ≤ v ∧ v ≤ hi) := by
  go_enter Tryz.func18, Tryz.ntmps18
  go_wp2_with fail
  refine (next_any w p A n c l a _ h ha (by omega)).mono ?_
  rintro e w' ⟨v, a', rfl, ⟨r1, r2, r3⟩, g1, g2, hs, hk⟩
  have r4 := r2 (by omega)
  clear r2 r3
  go_wp2_with fail
  go_ret
  exact ⟨_, a', rfl, ⟨by omega, by omega⟩, g1, g2, hs, hk⟩

set_option maxHeartbeats 400000 in
theorem flip_any (w : World) (p : Nat) (A : Option Addr) (n c : Nat) (l : List Int) (a m : Int) (h : Str w p A n c l a) (ha : a ≤ 1000000000) (hm : -9223372036854775808 ≤ m ∧ m ≤ 9223372036854775807) :
    Calls Tryz.prog 20 #[.pointer (some ⟨p, 0, none⟩), .int .i64 m] w fun e w' => ∃ b a', e = .returned (.bool b) ∧ a ≤ a' ∧ a' ≤ a + 1 ∧ Str w' p A n c l a' ∧ Keeps (· = p) w w' := by
  go_enter Tryz.func20, Tryz.ntmps20
  go_wp2_with fail
  refine (next_any w p A n c l a _ h ha hm).mono ?_
  rintro e w' ⟨v, a', rfl, ⟨r1, r2, r3⟩, g1, g2, hs, hk⟩
  clear r2 r3
  go_wp2_with fail
  go_ret
  exact ⟨_, a', rfl, g1, g2, hs, hk⟩

set_option maxHeartbeats 400000 in
theorem pick_any (w : World) (p : Nat) (A : Option Addr) (n c : Nat) (l : List Int) (a : Int) (h : Str w p A n c l a) (ha : a ≤ 1000000000)
    (C : Addr) (k cap : Nat) (xs : List Int) (T : Nat → Prop) (hx : Reads w T 1 (some C) k (ints xs)) (hT : ¬ T p) (hk0 : 0 < k) (hk1 : k ≤ 1000000) :
    Calls Tryz.prog 19 #[.pointer (some ⟨p, 0, none⟩), .slice (some C) k cap] w (StrPost w p A n c l a 1 fun v => v ∈ xs) := by
  go_enter Tryz.func19, Tryz.ntmps19
  go_wp2_with fail
  refine (next_any w p A n c l a _ h ha (by omega)).mono ?_
  rintro e w' ⟨v, a', rfl, ⟨r1, r2, r3⟩, g1, g2, hs, hk⟩
  have r4 := r2 (by omega)
  clear r2 r3
  have hx' := hx.keeps hk (fun i hi => by rintro rfl; exact hT hi)
  obtain ⟨v, rfl⟩ := Int.eq_ofNat_of_zero_le r1
  obtain ⟨ad, u, he, _, _, hu, hc⟩ := hx'.at_ (k := v) (by omega)
  injection he with he
  subst he
  have hv : v < xs.length := by have := hx.1; simp [ints] at this; omega
  rw [ints_get xs _ hv] at hu
  have hmem := List.getElem_mem hv
  injection hu with hu
  rw [← hu] at hc
  obtain ⟨y, hy⟩ : ∃ y, y = xs[v] := ⟨_, rfl⟩
  rw [← hy] at hc hmem
  clear hy hu
  go_wp2_with fail
  go_ret
  exact ⟨_, a', rfl, hmem, g1, g2, hs, hk⟩

end Go.Proofs.YtmlfgokbcafbkaaGreatDoor

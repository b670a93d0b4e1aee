/- models.single: the walk. models.Gather: the walk. The law's word on shards: h10kept. slices.Clone at bytes and at slices of bytes, slices.Concat at slices of bytes. -/
import Derived.Test.YtmlfgokbcafbkaaGreatDoorTk19
import Derived.Maps.OwnOps
import Derived.Maps.RangeWalk
import Derived.BigQuiet
import Derived.Test.YtmlfgokbcafbkaaGreatDoorTk17
import Derived.Lib.AppendZerosOnto
import Derived.Lib.SliceRun
import Derived.Deep.AppendSrc
namespace Go.Proofs.YtmlfgokbcafbkaaGreatDoor
open Go.RowKit

theorem wpList_put_mapB {w : World} {b : Nat} {m : List (Int × Value)} {ops : Array Oper} {rest : List Oper} {o : Oper} {a : Act} {Q : Exit → Act → World → Prop} (h : MapB w b m) (hgd : o.guard = none) (mo x v : Operand) (hop : o.op = Op.mapUpdate 77 mo x v)
    (hm : a.eval mo = .map (some b)) (k : Int) (hk : (Lit.int .i64 k).wf = true) (u : Value) (hx : a.eval x = .int .i64 k) (hv : a.eval v = u) (hn : m.lookup k = none) (hl : m.length < 1000000)
    (hK : ∀ w', MapB w' b (m ++ [(k, u)]) → w.grownBy w' (some b) → wpList Tryz.prog ops Q rest (a.put o.dst undef) w') : wpList Tryz.prog ops Q (o :: rest) a w := by
  refine wpList_plain hgd fun K' hK' => ?_
  obtain ⟨w', hrun, r1, r2⟩ := h.put k hk u hn hl
  unfold Oper.wp
  simp [execOp, hop, hm, hx, hv, hrun, Result.andThen]
  exact hK' _ _ (hK w' r1 r2)
theorem MapB.drewN {w : World} {b : Nat} {m : List (Int × Value)} (h : MapB w b m) (n : Nat) : MapB (w.drewN n) b m := h
theorem MapB.drew {w : World} {b : Nat} {m : List (Int × Value)} (h : MapB w b m) : MapB w.drew b m := h
theorem Found.keeps_ {w w' : World} {T : Nat → Prop} {row : Option Nat} {b : List Int} {k : Nat} {idx : List Nat} {ms : List (Int × Value)} (h : Found w T b k idx ms) (hg : w.grownBy w' row) (hs : ∀ i, T i → row ≠ some i) : Found w' T b k idx ms :=
  ⟨h.1, fun j hj => let ⟨v, h1, h2⟩ := h.2 j hj; ⟨v, h1, h2.grown hg (fun g e ht => hs g ht e)⟩⟩
/-- what single hands back where all is well -/
def SingleOk (w w' : World) (T : Nat → Prop) (b : List Int) (k : Nat) (idx : List Nat) (e : Ending) : Prop :=
  ∃ g ms, e = .returned (.tuple #[.map (some g), .int .i64 0]) ∧ MapB w' g ms ∧ Found w' T b k idx ms ∧ w.heap.size ≤ g
theorem quiet_sum {P : Program} {f : FuncId} {args : Array Value} {w : World} {q n : Nat} {v : Value}
    (h : Calls P f args (w.drewN (q + n)) fun e w' => e = .returned v ∧ ∃ k, w' = (w.drewN (q + n)).drewN k) : Calls P f args (w.drewN (q + n)) fun e w'' => e = .returned v ∧ ∃ m, w'' = w.drewN (q + m) :=
  h.mono fun _ _ ⟨he, k, hk⟩ => ⟨he, n + k, by rw [hk, World.drewN_drewN, Nat.add_assoc]⟩
/-- the identity in a shard -/
theorem Slb.mid {w : World} {T : Nat → Prop} {sa : Addr} {n : Nat} {xs r : List Int} {a0 a1 a2 a3 x4 x5 q0 q1 q2 q3 : Int} {c : Nat} (hr : Reads w T 1 (some sa) n (bytes xs)) (hn : 10 ≤ n) (hc : n ≤ c) (e : xs = a0 :: a1 :: a2 :: a3 :: x4 :: x5 :: q0 :: q1 :: q2 :: q3 :: r) :
    Reads w T 1 (some { block := sa.block, off := sa.off + 6 }) 4 (bytes [q0, q1, q2, q3]) := by
  have h1 := hr.cut (k := 6) (cap := c) (by omega) hc
  rw [if_neg (by omega), Option.map_some] at h1
  have h2 := h1.take (k := 4) (by omega)
  have h3 : ((bytes xs).drop (6 * 1)).take (4 * 1) = bytes [q0, q1, q2, q3] := by rw [e]; rfl
  rw [h3] at h2
  exact h2
set_option maxRecDepth 100000 in
set_option maxHeartbeats 2000000 in
theorem single_any (w : World) (T0 T : Nat → Prop) (ad : Addr) (n c : Nat) (vs : List Value) (ls : List (List Int)) (b : List Int) (k : Nat) (idx : List Nat) (code : Int)
    (hv : Reads w T0 1 (some ad) n vs) (hs : Shs w T vs ls) (hT : ∀ g, T g → g < w.heap.size) (hn0 : 1 ≤ n) (hn : n ≤ 1000) (hb : isBytes b) (hbl : b.length ≤ 800000) (hk0 : 1 ≤ k) (hk : k ≤ 64)
    (hm : idx.length ≤ n) (htk : ls.take idx.length = idx.map (shardF b k)) (hnd : idx.Nodup) (hik : ∀ i ∈ idx, i < k)
    (ht : (code = 0 ∧ idx.length = n) ∨ (code = 6 ∧ idx.length < n ∧ ∃ i ∈ idx, ls[idx.length]? = some (shardF b k i)) ∨ (code = 12 ∧ idx.length < n ∧ ∃ s, ls[idx.length]? = some s ∧ 12 ≤ s.length ∧ s.length ≤ 900000 ∧ isBytes s ∧ ¬ intactM s)) :
    Calls Tryz.prog 40 #[.slice (some ad) n c] w fun e w' => Below w.heap.size w w' ∧ (code = 0 → SingleOk w w' T b k idx e) ∧ (code ≠ 0 → e = .returned (.tuple #[.map none, .int .i64 code])) := by
  have hmm := @run_makeMap Tryz.prog
  obtain ⟨m, hm'⟩ : ∃ m, m = idx.length := ⟨_, rfl⟩
  rw [← hm'] at hm htk ht
  have hvold := hv.old
  have HV := Lib.hid hvold
  have HS := Lib.hid hs
  have HT := Lib.hid hT
  have HB := Lib.hid hb
  have HTK := Lib.hid htk
  have HND := Lib.hid hnd
  have HIK := Lib.hid hik
  have HTL := Lib.hid ht
  have HM := Lib.hid hm'
  have HLN : Hid (ls.length = n) := by
    have h1 := hs.1
    have h2 := hv.1
    show ls.length = n
    omega
  have hpos : 0 < n := by omega
  clear hv hvold hs hT hb htk hnd hik ht hm'
  have hn0b : ((n : Int) == 0) = false := by simp; omega
  go_enter Tryz.func40, Tryz.ntmps40
  go_wp2_with fail
  have hmap := MapB.new w
  have hb1 : Below w.heap.size w (w.alloc (.map #[] 0)) := (Below.refl _ _).alloc (Nat.le_refl _) _
  obtain ⟨g, hg⟩ : ∃ g, g = w.heap.size := ⟨_, rfl⟩
  rw [← hg] at hmap
  rw [← hg]
  have HMP := Lib.hid hmap
  have HB1 := Lib.hid hb1
  have HG := Lib.hid hg
  clear hmap hb1 hg hmm
  go_loopw [15] (fun i wr => ∃ (j : Nat) (ms : List (Int × Value)), j ≤ m ∧ i = .int .i64 j ∧ Below w.heap.size w wr ∧ MapB wr g ms ∧ Found wr T b k (idx.take j) ms) (fun i _ => m - (intOf i).toNat)
  case atStart => exact ⟨0, [], by omega, rfl, HB1.out, HMP.out, ⟨by simp, fun j hj => absurd hj (by simp)⟩⟩
  clear HB1 HMP
  obtain ⟨j, ms, hj, rfl, hbel, hmap, hfound⟩ := hrel
  by_cases hlt : j < m
  · have hjn : j < n := by omega
    have hjl : j < ls.length := by rw [HLN.out]; exact hjn
    have hji : j < idx.length := by rw [← HM.out]; exact hlt
    obtain ⟨i, hi⟩ : ∃ i, i = idx[j] := ⟨_, rfl⟩
    have hlj : ls[j] = shardF b k i := by
      have h1 : (ls.take m)[j]? = (idx.map (shardF b k))[j]? := by rw [HTK.out]
      rw [List.getElem?_take, if_pos hlt, List.getElem?_eq_getElem hjl, List.getElem?_map, List.getElem?_eq_getElem hji] at h1
      rw [hi]
      exact Option.some.inj h1
    have hik : i < k := by rw [hi]; exact HIK.out _ (List.getElem_mem hji)
    obtain ⟨sv, hsv, hslb⟩ := HS.out.2 j hjl
    rw [hlj] at hslb
    obtain ⟨a0, a1, a2, a3, hparts⟩ := shardF_parts b k i
    have hslb' := hslb.keeps (Keeps.of_below hbel (fun g => w.heap.size ≤ g)) (fun g h h2 => by have := HT.out g h; omega)
    obtain ⟨sa, sc, rfl, hsz, hsT, hc1, hc2, hrd, d4, d5, d10, d11⟩ := hslb'.at12 hparts
    obtain ⟨ad', u, hade, hadz, -, hu, hcell⟩ := HV.out.at_ hjn
    injection hade with hade
    subst hade
    rw [hsv] at hu
    injection hu with hu
    subst hu
    have hc0 : wr.cell? (ad.add j) = some (.slice (some sa) (12 + (partF b k i).length) sc) := (hbel.cell (p := ad.add j) (by rw [block_of_add]; exact hadz)).trans hcell
    -- the first shard
    have hjl0 : 0 < ls.length := by omega
    have hji0 : 0 < idx.length := by omega
    obtain ⟨i0, hi0⟩ : ∃ i, i = idx[0] := ⟨_, rfl⟩
    have hl0 : ls[0] = shardF b k i0 := by
      have h1 : (ls.take m)[0]? = (idx.map (shardF b k))[0]? := by rw [HTK.out]
      rw [List.getElem?_take, if_pos (by omega), List.getElem?_eq_getElem hjl0, List.getElem?_map, List.getElem?_eq_getElem hji0] at h1
      rw [hi0]
      exact Option.some.inj h1
    obtain ⟨fv, hfv, hflb⟩ := HS.out.2 0 hjl0
    rw [hl0] at hflb
    obtain ⟨b0, b1, b2, b3, hpart0⟩ := shardF_parts b k i0
    have hflb' := hflb.keeps (Keeps.of_below hbel (fun g => w.heap.size ≤ g)) (fun g h h2 => by have := HT.out g h; omega)
    obtain ⟨fa, fc, rfl, hfz, hfT, fc1, fc2, frd, -, -, -, f11⟩ := hflb'.at12 hpart0
    obtain ⟨ad', u, hade, -, -, hu, hcell0⟩ := HV.out.at_ (k := 0) hpos
    injection hade with hade
    subst hade
    rw [hfv] at hu
    injection hu with hu
    subst hu
    have hc00 : wr.cell? ad = some (.slice (some fa) (12 + (partF b k i0).length) fc) := by
      have := (hbel.cell (p := ad.add 0) (by rw [block_of_add]; exact hadz)).trans hcell0
      rwa [show ad.add 0 = ad by simp [Addr.add]] at this
    have hmidS := Slb.mid (c := sc) hrd (by omega) hc1 hparts
    have hmidF := Slb.mid (c := fc) frd (by omega) fc1 hpart0
    have heqq := fun q n => quiet_sum (eqBytes_any (wr.drewN (q + n)) T T _ _ 4 4 (sc - 6) (fc - 6) _ _ (hmidS.drewN (q + n)) (hmidF.drewN (q + n)) (by omega))
    simp only [decide_true] at heqq
    have HEQ := Lib.hid heqq
    have hsby : isBytes (shardF b k i) := shardF_bytes HB.out k i (by omega) (by omega)
    have hple := partF_le b k i
    have hini := intact_any wr T (some sa) sc (12 + (partF b k i).length) (shardF b k i) hrd (by omega) (by omega) hc1 hsby
    rw [shardF_intact] at hini
    have HIN := Lib.hid hini
    -- the numbers
    have hnot : i ∉ idx.take j := by
      intro hmem
      obtain ⟨q, hq, e⟩ := List.mem_iff_getElem.1 hmem
      have hqj : q < j := by simp at hq; omega
      rw [List.getElem_take] at e
      have := (List.getElem_inj (h₀ := by omega) (h₁ := hji) HND.out).1 (e.trans hi)
      omega
    have hlook := hmap.look (i : Int) (WalkArith.wf_i64 (by omega))
    rw [hfound.none_ hnot] at hlook
    simp only [Option.getD_none, Option.isSome_none] at hlook
    have hcutS := hrd.cut (k := 12) (cap := sc) (by omega) hc1
    have hdrop : (bytes (shardF b k i)).drop (12 * 1) = bytes (partF b k i) := by rw [hparts]; rfl
    rw [hdrop, show 12 + (partF b k i).length - 12 = (partF b k i).length by omega] at hcutS
    have HCS := Lib.hid hcutS
    have HMAP := Lib.hid hmap
    have HFD := Lib.hid hfound
    have HBL := Lib.hid hbel
    have HNOT := Lib.hid hnot
    have htake : idx.take (j + 1) = idx.take j ++ [i] := by rw [List.take_succ_eq_append_getElem hji, ← hi]
    have HTJ := Lib.hid htake
    have HPL : Hid ((partF b k i).length = (partF b k i).length) := Lib.hid rfl
    generalize (partF b k i0).length = P0 at *
    obtain ⟨P, hP⟩ : ∃ P, P = (partF b k i).length := ⟨_, rfl⟩
    rw [← hP] at hc0 hcell hc1 HIN HCS hple
    have HP := Lib.hid hP
    obtain ⟨L, hL⟩ : ∃ L, L = 12 + P := ⟨_, rfl⟩
    rw [← hL] at hc0 hc1 HIN
    have l12 : 12 ≤ L := by omega
    have l10 : 10 < L := by omega
    have l11 : 11 < L := by omega
    have HL := Lib.hid hL
    clear hL heqq HPL hP hcutS hdrop htake hnot hini hsby hmidS hmidF hcell hcell0 hflb hflb' frd hpart0 hl0 hfv hfz hfT hi0 hjl0 hji0 hlj hi hparts hslb hslb' hsv hrd hmap hfound hbel hadz hjl hji hsT
    have k1 : (1 : Int) ≤ k := by omega
    have k64 : (k : Int) ≤ 64 := by omega
    have ik : (i : Int) < k := by omega
    have hkk : ((k : Int) != (k : Int)) = false := by simp
    go_wp2_with fail
    refine HIN.out.mono ?_
    rintro e w' ⟨rfl, q, rfl⟩
    go_upto_region 14 with (fail)
    have hd1 : decide ((k : Int) < 1) = false := by simp; omega
    have hd2 : decide ((64 : Int) < k) = false := by simp; omega
    have hd3 : decide ((k : Int) ≤ i) = false := by simp; omega
    go_quiet (fail)
    go_upto_region 16 with (fail)
    rw [World.drewN_drewN]
    generalize q + nq = q2
    have hs6 : ¬ sc = 6 := by omega
    have hf6 : ¬ fc = 6 := by omega
    have hs10 : 10 ≤ sc := by omega
    have hf10 : 10 ≤ fc := by omega
    go_quiet ((go_at_call 58; exact HEQ.out _ _))
    go_upto_region 20 with (fail)
    rw [World.drewN_drewN]
    generalize q2 + nq = q3
    have hms : ms.length < 1000000 := by have := HFD.out.1; simp at this; omega
    have hwf : (Lit.int .i64 (i : Int)).wf = true := WalkArith.wf_i64 (by omega)
    have hnl := HFD.out.none_ HNOT.out
    have HNL := Lib.hid hnl
    obtain ⟨wx, hwx⟩ : ∃ x, x = wr.drewN q3 := ⟨_, rfl⟩
    have d10x : wx.cell? { block := sa.block, off := sa.off + 10 } = some (.int .u8 (i : Int)) := by rw [hwx]; exact d10
    have hbx : Below w.heap.size w wx.drew := by rw [hwx]; exact (((Keeps.of_below HBL.out (fun _ => False)).drewN q3).drew).to_below
    have hmx : MapB wx.drew g ms := by rw [hwx]; exact (HMAP.out.drewN q3).drew
    have hfx : Found wx.drew T b k (idx.take j) ms := by rw [hwx]; exact HFD.out
    have hcx := HCS.out
    have hcx' : Reads wx.drew T 1 (if sc = 12 then some sa else Option.map (fun x => x.add (12 * 1)) (some sa)) P (bytes (partF b k i)) := by rw [hwx]; exact hcx
    rw [← hwx]
    have HMP := Lib.hid hmx
    have HBX := Lib.hid hbx
    have HFX := Lib.hid hfx
    clear hd1 hd2 hd3 hs6 hf6 hs10 hf10 HEQ hnl HIN hkk hlook f11 hc00 d10 d4 d5 d11 hc0 hwx hbx hmx hfx hcx HCS HMAP HFD HBL
    by_cases hs12 : sc = 12
    · rw [if_pos hs12] at hcx'
      have HCX := Lib.hid hcx'
      clear hcx'
      subst hs12
      obtain rfl : L = 12 := by omega
      have hwi : IntKind.i64.wrap (i : Int) = (i : Int) := IntWalk.i64_in _ ⟨by omega, by omega⟩
      go_still_tail 7, (by kernel_rfl)
      change wpList _ _ _ _ _ wx.drew
      refine wpList_put_mapB HMP.out rfl _ _ _ rfl rfl _ hwf (.slice (some sa) 0 0) rfl rfl HNL.out hms ?_
      intro w9 hm9 hg9
      go_frame
      have HM9 := Lib.hid hm9
      have HG9 := Lib.hid hg9
      clear hm9 hg9
      go_wp2_with fail
      go_roundw
      case rel =>
        have hp0 : P = 0 := by have := HL.out; omega
        refine ⟨j + 1, _, by omega, by go_num, ?_, HM9.out, ?_⟩
        · exact ((Keeps.of_below HBX.out (fun _ => False)).grown HG9.out (fun q e h => by injection e with e; have := HG.out; omega)).to_below
        · rw [HTJ.out]
          have hf9 : Found w9 T b k (idx.take j) ms := HFX.out.keeps_ HG9.out (fun q hq e => by injection e with e; have := HT.out q hq; have := HG.out; omega)
          refine hf9.snoc ⟨some sa, 0, ?_, ?_, ?_, Nat.zero_le _⟩
          · rw [← HP.out, hp0]
          · rw [← HP.out]; exact HCX.out.grown HG9.out (fun q e hq => by injection e with e; have := HT.out q hq; have := HG.out; omega)
          · rw [← HP.out, hp0]; exact Nat.le_refl _
      case measure => simp [intOf]; omega
    · rw [if_neg hs12, Option.map_some, Nat.mul_one] at hcx'
      have HCX := Lib.hid hcx'
      have l10' : (10 : Int) < L := by omega
      have l12' : (12 : Int) ≤ L := by omega
      have hs12' : 12 < sc := by omega
      clear hcx'
      have hwi : IntKind.i64.wrap (i : Int) = (i : Int) := IntWalk.i64_in _ ⟨by omega, by omega⟩
      go_still_tail 7, (by kernel_rfl)
      change wpList _ _ _ _ _ wx.drew
      refine wpList_put_mapB HMP.out rfl _ _ _ rfl rfl _ hwf (.slice (some { block := sa.block, off := sa.off + 12 }) (L - 12) (sc - 12)) rfl rfl HNL.out hms ?_
      intro w9 hm9 hg9
      go_frame
      have HM9 := Lib.hid hm9
      have HG9 := Lib.hid hg9
      clear hm9 hg9
      go_wp2_with fail
      go_roundw
      case rel =>
        have hp0 : L - 12 = P := by have := HL.out; omega
        refine ⟨j + 1, _, by omega, by go_num, ?_, HM9.out, ?_⟩
        · exact ((Keeps.of_below HBX.out (fun _ => False)).grown HG9.out (fun q e h => by injection e with e; have := HG.out; omega)).to_below
        · rw [HTJ.out]
          have hf9 : Found w9 T b k (idx.take j) ms := HFX.out.keeps_ HG9.out (fun q hq e => by injection e with e; have := HT.out q hq; have := HG.out; omega)
          refine hf9.snoc (i := i) ⟨some { block := sa.block, off := sa.off + 12 }, sc - 12, ?_, ?_, ?_, ?_⟩
          · rw [hp0, HP.out]
          · rw [← HP.out]; exact HCX.out.grown HG9.out (fun q e hq => by injection e with e; have := HT.out q hq; have := HG.out; omega)
          · rw [← HP.out]; omega
          · omega
      case measure => simp [intOf]; omega
  · obtain rfl : j = m := by omega
    rcases HTL.out with ⟨hcode, hjn⟩ | ⟨hcode, hjn, i, himem, hls⟩ | ⟨hcode, hjn, s, hls, hs12, hs9, hsb, hbad⟩
    · have HCODE := Lib.hid hcode
      clear hcode
      have HMAP := Lib.hid hmap
      have hfull : idx.take j = idx := by rw [HM.out, List.take_length]
      rw [hfull] at hfound
      have HFD := Lib.hid hfound
      have HBL := Lib.hid hbel
      clear hmap hfound hbel hfull
      subst hjn
      go_wp2_with fail
      go_ret2
      exact ⟨HBL.out, fun _ => ⟨g, ms, rfl, HMAP.out, HFD.out, by rw [HG.out]; exact Nat.le_refl _⟩, fun h => absurd HCODE.out h⟩
    · have HCODE := Lib.hid hcode
      clear hcode
      have hjl : j < ls.length := by rw [HLN.out]; exact hjn
      have hlj : ls[j] = shardF b k i := by
        rw [List.getElem?_eq_getElem hjl] at hls
        exact Option.some.inj hls
      have hik : i < k := HIK.out _ himem
      have hj0 : 0 < j := by
        have h1 := List.length_pos_of_mem himem
        have h2 := HM.out
        omega
      obtain ⟨sv, hsv, hslb⟩ := HS.out.2 j hjl
      rw [hlj] at hslb
      obtain ⟨a0, a1, a2, a3, hparts⟩ := shardF_parts b k i
      have hslb' := hslb.keeps (Keeps.of_below hbel (fun g => w.heap.size ≤ g)) (fun g h h2 => by have := HT.out g h; omega)
      obtain ⟨sa, sc, rfl, hsz, hsT, hc1, hc2, hrd, d4, d5, d10, d11⟩ := hslb'.at12 hparts
      obtain ⟨ad', u, hade, hadz, -, hu, hcell⟩ := HV.out.at_ hjn
      injection hade with hade
      subst hade
      rw [hsv] at hu
      injection hu with hu
      subst hu
      have hc0 : wr.cell? (ad.add j) = some (.slice (some sa) (12 + (partF b k i).length) sc) := (hbel.cell (p := ad.add j) (by rw [block_of_add]; exact hadz)).trans hcell
      -- the first shard
      have hjl0 : 0 < ls.length := by omega
      have hji0 : 0 < idx.length := List.length_pos_of_mem himem
      obtain ⟨i0, hi0⟩ : ∃ i, i = idx[0] := ⟨_, rfl⟩
      have hl0 : ls[0] = shardF b k i0 := by
        have h1 : (ls.take j)[0]? = (idx.map (shardF b k))[0]? := by rw [HTK.out]
        rw [List.getElem?_take, if_pos hj0, List.getElem?_eq_getElem hjl0, List.getElem?_map, List.getElem?_eq_getElem hji0] at h1
        rw [hi0]
        exact Option.some.inj h1
      obtain ⟨fv, hfv, hflb⟩ := HS.out.2 0 hjl0
      rw [hl0] at hflb
      obtain ⟨b0, b1, b2, b3, hpart0⟩ := shardF_parts b k i0
      have hflb' := hflb.keeps (Keeps.of_below hbel (fun g => w.heap.size ≤ g)) (fun g h h2 => by have := HT.out g h; omega)
      obtain ⟨fa, fc, rfl, hfz, hfT, fc1, fc2, frd, -, -, -, f11⟩ := hflb'.at12 hpart0
      obtain ⟨ad', u, hade, -, -, hu, hcell0⟩ := HV.out.at_ (k := 0) hpos
      injection hade with hade
      subst hade
      rw [hfv] at hu
      injection hu with hu
      subst hu
      have hc00 : wr.cell? ad = some (.slice (some fa) (12 + (partF b k i0).length) fc) := by
        have := (hbel.cell (p := ad.add 0) (by rw [block_of_add]; exact hadz)).trans hcell0
        rwa [show ad.add 0 = ad by simp [Addr.add]] at this
      have hmidS := Slb.mid (c := sc) hrd (by omega) hc1 hparts
      have hmidF := Slb.mid (c := fc) frd (by omega) fc1 hpart0
      have heqq := fun q n => quiet_sum (eqBytes_any (wr.drewN (q + n)) T T _ _ 4 4 (sc - 6) (fc - 6) _ _ (hmidS.drewN (q + n)) (hmidF.drewN (q + n)) (by omega))
      simp only [decide_true] at heqq
      have HEQ := Lib.hid heqq
      have hsby : isBytes (shardF b k i) := shardF_bytes HB.out k i (by omega) (by omega)
      have hple := partF_le b k i
      have hini := intact_any wr T (some sa) sc (12 + (partF b k i).length) (shardF b k i) hrd (by omega) (by omega) hc1 hsby
      rw [shardF_intact] at hini
      have HIN := Lib.hid hini
      -- the numbers
      have hlook := hmap.look (i : Int) (WalkArith.wf_i64 (by omega))
      rw [HM.out, List.take_length] at hfound
      obtain ⟨fv2, hfv2, -⟩ := hfound.some_ himem
      rw [hfv2] at hlook
      simp only [Option.getD_some, Option.isSome_some] at hlook
      have hcutS := hrd.cut (k := 12) (cap := sc) (by omega) hc1
      have hdrop : (bytes (shardF b k i)).drop (12 * 1) = bytes (partF b k i) := by rw [hparts]; rfl
      rw [hdrop, show 12 + (partF b k i).length - 12 = (partF b k i).length by omega] at hcutS
      have HBL := Lib.hid hbel
      have HPL : Hid ((partF b k i).length = (partF b k i).length) := Lib.hid rfl
      generalize (partF b k i0).length = P0 at *
      obtain ⟨P, hP⟩ : ∃ P, P = (partF b k i).length := ⟨_, rfl⟩
      rw [← hP] at hc0 hcell hc1 HIN hple
      have HP := Lib.hid hP
      obtain ⟨L, hL⟩ : ∃ L, L = 12 + P := ⟨_, rfl⟩
      rw [← hL] at hc0 hc1 HIN
      have l12 : 12 ≤ L := by omega
      have l10 : 10 < L := by omega
      have l11 : 11 < L := by omega
      have HL := Lib.hid hL
      clear hL heqq HPL hP hcutS hdrop hini hsby hmidS hmidF hcell hcell0 hflb hflb' frd hpart0 hl0 hfv hfz hfT hi0 hjl0 hji0 hlj hparts hslb hslb' hsv hrd hmap hfound hbel hadz hjl hsT hfv2
      have k1 : (1 : Int) ≤ k := by omega
      have k64 : (k : Int) ≤ 64 := by omega
      have ik : (i : Int) < k := by omega
      have hkk : ((k : Int) != (k : Int)) = false := by simp
      go_wp2_with fail
      refine HIN.out.mono ?_
      rintro e w' ⟨rfl, q, rfl⟩
      go_upto_region 14 with (fail)
      have hd1 : decide ((k : Int) < 1) = false := by simp; omega
      have hd2 : decide ((64 : Int) < k) = false := by simp; omega
      have hd3 : decide ((k : Int) ≤ i) = false := by simp; omega
      go_quiet (fail)
      go_upto_region 16 with (fail)
      rw [World.drewN_drewN]
      generalize q + nq = q2
      have hs6 : ¬ sc = 6 := by omega
      have hf6 : ¬ fc = 6 := by omega
      have hs10 : 10 ≤ sc := by omega
      have hf10 : 10 ≤ fc := by omega
      go_quiet ((go_at_call 58; exact HEQ.out _ _))

      go_wp2_with fail
      go_ret2
      refine ⟨(((Keeps.of_below HBL.out (fun _ => False)).drewN q2).drewN nq).to_below, fun h => ?_, fun _ => by rw [HCODE.out]; rfl⟩
      have h6 := HCODE.out
      rw [h] at h6
      cases h6
    · have HCODE := Lib.hid hcode
      clear hcode
      have hjl : j < ls.length := by rw [HLN.out]; exact hjn
      have hlj : ls[j] = s := by
        rw [List.getElem?_eq_getElem hjl] at hls
        exact Option.some.inj hls
      obtain ⟨sv, hsv, hslb⟩ := HS.out.2 j hjl
      rw [hlj] at hslb
      have hslb' := hslb.keeps (Keeps.of_below hbel (fun g => w.heap.size ≤ g)) (fun g h h2 => by have := HT.out g h; omega)
      obtain ⟨sA, sc, rfl, hrd, hc1, hc2⟩ := hslb'
      obtain ⟨sa, rfl, hsz, hsT, hcs⟩ := hrd.2 (by omega)
      obtain ⟨x, hx⟩ : ∃ x, x = s[10] := ⟨_, rfl⟩
      have hx1 := hsb _ (List.getElem_mem (show 10 < s.length by omega))
      rw [← hx] at hx1
      obtain ⟨x0, x255⟩ := hx1
      have d10 : wr.cell? { block := sa.block, off := sa.off + 10 } = some (.int .u8 x) := by
        have := hcs 10 (.int .u8 x) (by rw [bytes_get s 10 (by omega), hx])
        exact this
      obtain ⟨ad', u, hade, hadz, -, hu, hcell⟩ := HV.out.at_ hjn
      injection hade with hade
      subst hade
      rw [hsv] at hu
      injection hu with hu
      subst hu
      have hc0 : wr.cell? (ad.add j) = some (.slice (some sa) s.length sc) := (hbel.cell (p := ad.add j) (by rw [block_of_add]; exact hadz)).trans hcell
      have hini := intact_any wr T (some sa) sc s.length s hrd (by omega) (by omega) hc1 hsb
      have hf : (leF (s.take 4) == codeF (s.drop 4)) = false := by
        unfold intactM at hbad
        simpa using hbad
      rw [hf] at hini
      have HIN := Lib.hid hini
      have hlook := hmap.look x (WalkArith.wf_i64 (by omega))
      generalize (ms.lookup x).getD (.slice none 0 0) = y1 at hlook
      generalize (ms.lookup x).isSome = y2 at hlook
      have HBL := Lib.hid hbel
      obtain ⟨L, hL⟩ : ∃ L, L = s.length := ⟨_, rfl⟩
      rw [← hL] at hc0 HIN hc1 hs12
      have l10 : 10 < L := by omega
      clear hini hf hx hcs hrd hsv hslb hls hlj hjl hs9 hsb hbad hL hcell hadz hmap hfound hbel hsT
      go_wp2_with fail
      refine HIN.out.mono ?_
      rintro e w' ⟨rfl, q, rfl⟩
      go_wp2_with fail
      go_ret2
      refine ⟨((Keeps.of_below HBL.out (fun _ => False)).drewN q).to_below, fun h => ?_, fun _ => by rw [HCODE.out]; rfl⟩
      have h6 := HCODE.out
      rw [h] at h6
      cases h6
end Go.Proofs.YtmlfgokbcafbkaaGreatDoor

namespace Go.Proofs.YtmlfgokbcafbkaaGreatDoor
open Go.RowKit

/-- what Gather hands back where all is well -/
def GatherOk (w w' : World) (M : Model) (e : Ending) : Prop :=
  ∃ v4 v5 v6 v7 v8 v9 v10, e = .returned (.tuple #[.agg #[.int .i64 M.kind, .int .i64 M.vocab, .int .i64 M.width, .int .i64 M.top, v4, v5, v6, v7, v8, v9, v10], .int .i64 0]) ∧ MSl w' (fun g => w.heap.size ≤ g) M v4 v5 v6 v7 v8 v9 v10
def GatherNo (code : Int) (e : Ending) : Prop := e = .returned (.tuple #[.agg #[.int .i64 0, .int .i64 0, .int .i64 0, .int .i64 0, .slice none 0 0, .slice none 0 0, .slice none 0 0, .slice none 0 0, .slice none 0 0, .slice none 0 0, .slice none 0 0], .int .i64 code])
theorem partsTo_succ (mb : List Int) (k i : Nat) : bytes (mb.take (beforeF mb.length k i)) ++ bytes (partF mb k i) = bytes (mb.take (beforeF mb.length k (i + 1))) := by
  rw [← parts_join, ← parts_join, List.range_succ, List.flatMap_append, ← bytes_append]
  simp
set_option maxRecDepth 100000 in
set_option maxHeartbeats 2000000 in
theorem gather_any (w : World) (T0 T : Nat → Prop) (ad : Addr) (n c : Nat) (vs : List Value) (ls : List (List Int)) (M : Model) (k : Nat) (idx : List Nat) (code : Int)
    (hv : Reads w T0 1 (some ad) n vs) (hs : Shs w T vs ls) (hT : ∀ g, T g → g < w.heap.size) (hn0 : 1 ≤ n) (hn : n ≤ 1000) (hM : M.Ok) (hk0 : 1 ≤ k) (hk : k ≤ 64)
    (hm : idx.length ≤ n) (htk : ls.take idx.length = idx.map (shardF (modelBytes M) k)) (hnd : idx.Nodup) (hik : ∀ i ∈ idx, i < k)
    (ht : (code = 0 ∧ idx.length = n) ∨ (code = 6 ∧ idx.length < n ∧ ∃ i ∈ idx, ls[idx.length]? = some (shardF (modelBytes M) k i)) ∨ (code = 12 ∧ idx.length < n ∧ ∃ s, ls[idx.length]? = some s ∧ 12 ≤ s.length ∧ s.length ≤ 900000 ∧ isBytes s ∧ ¬ intactM s)) :
    Calls Tryz.prog 16 #[.slice (some ad) n c] w fun e w' => Below w.heap.size w w' ∧ (code = 0 → (∀ i, i < k → i ∈ idx) → GatherOk w w' M e) ∧ (code = 0 → (∃ i, i < k ∧ i ∉ idx) → GatherNo 13 e) ∧ (code ≠ 0 → GatherNo code e) := by
  have hi27 : (Tryz.prog.info? 27).map (·.size) = some 11 := by kernel_rfl
  obtain ⟨i0, hi, hz0, hz1, hz2⟩ := info_parts u8_info
  have hln := modelBytes_length M hM
  have HSG := Lib.hid (fun o => single_any (w.alloc o) T0 T ad n c vs ls (modelBytes M) k idx code (hv.alloc o) (hs.alloc o) (fun g hg => by have := hT g hg; simp; omega) hn0 hn (modelBytes_bytes M) hln hk0 hk hm htk hnd hik ht)
  have HV := Lib.hid hv.old
  have HS := Lib.hid hs
  have HT := Lib.hid hT
  have HTK := Lib.hid htk
  have HTL := Lib.hid ht
  have HIK := Lib.hid hik
  have HMO := Lib.hid hM
  clear hv hs hT hM htk hnd hik ht
  go_enter Tryz.func16, Tryz.ntmps16
  go_wp2_with fail
  refine (HSG.out _).mono ?_
  rintro e w1 ⟨hb1, hok, hno⟩
  have kr := (Blk.new w 27 #[.int .i64 0, .int .i64 0, .int .i64 0, .int .i64 0, .slice none 0 0, .slice none 0 0, .slice none 0 0, .slice none 0 0, .slice none 0 0, .slice none 0 0, .slice none 0 0]).below hb1 (by simp)
  have hb01 := ((Below.refl w.heap.size w).alloc (Nat.le_refl _) (.cells #[.int .i64 0, .int .i64 0, .int .i64 0, .int .i64 0, .slice none 0 0, .slice none 0 0, .slice none 0 0, .slice none 0 0, .slice none 0 0, .slice none 0 0, .slice none 0 0] 27)).trans (hb1.mono (by simp))
  have KR := Lib.hid kr
  have HB1 := Lib.hid hb01
  obtain ⟨r, hr⟩ : ∃ r, r = w.heap.size := ⟨_, rfl⟩
  rw [← hr] at KR
  rw [← hr]
  have HRE := Lib.hid hr
  clear kr hb1 hb01 HSG hr
  by_cases hcode : code = 0
  · have hok1 := hok hcode
    clear hok hno
    obtain ⟨g, ms, rfl, hmap, hfound, hgz⟩ := hok1
    have hfull : idx.length = n := by
      rcases HTL.out with h | h | h
      · exact h.2
      · have := h.1; omega
      · have := h.1; omega
    have hji0 : 0 < idx.length := by omega
    have hjl0 : 0 < ls.length := by
      have h1 := congrArg List.length HTK.out
      rw [List.length_take, List.length_map] at h1
      omega
    obtain ⟨ix, hix⟩ : ∃ i, i = idx[0] := ⟨_, rfl⟩
    have hl0 : ls[0] = shardF (modelBytes M) k ix := by
      have h1 : (ls.take idx.length)[0]? = (idx.map (shardF (modelBytes M) k))[0]? := by rw [HTK.out]
      rw [List.getElem?_take, if_pos hji0, List.getElem?_eq_getElem hjl0, List.getElem?_map, List.getElem?_eq_getElem hji0] at h1
      rw [hix]
      exact Option.some.inj h1
    obtain ⟨fv, hfv, hflb⟩ := HS.out.2 0 hjl0
    rw [hl0] at hflb
    obtain ⟨p0, p1, p2, p3, hpart0⟩ := shardF_parts (modelBytes M) k ix
    have hkb1 : Keeps (fun g => w.heap.size ≤ g) w w1 := Keeps.of_below HB1.out _
    have hflb' := hflb.keeps hkb1 (fun g h h2 => by have := HT.out g h; omega)
    obtain ⟨fa, fc, rfl, hfz, hfT, fc1, fc2, frd, -, -, -, f11⟩ := hflb'.at12 hpart0
    obtain ⟨ad', u, hade, hadz, -, hu, hcell0⟩ := HV.out.at_ (k := 0) (by omega)
    injection hade with hade
    subst hade
    rw [hfv] at hu
    injection hu with hu
    subst hu
    have hc00 : w1.cell? ad = some (.slice (some fa) (12 + (partF (modelBytes M) k ix).length) fc) := by
      have := (HB1.out.cell (p := ad.add 0) (by rw [block_of_add]; exact hadz)).trans hcell0
      rwa [show ad.add 0 = ad by simp [Addr.add]] at this
    have hcutF := frd.cut (k := 6) (cap := fc) (by omega) fc1
    rw [if_neg (by omega), Option.map_some, Nat.mul_one, ← bytes_drop', show fa.add 6 = { block := fa.block, off := fa.off + 6 } from rfl] at hcutF
    have hid6 : leF (((shardF (modelBytes M) k ix).drop 6).take 4) = codeF (modelBytes M) := by
      have h1 : ((shardF (modelBytes M) k ix).drop 6).take 4 = lowF (codeF (modelBytes M)) 4 := by rw [hpart0, low4]; rfl
      rw [h1]
      exact leF_lowF4 _ (codeF_in _)
    have hsix : isBytes ((shardF (modelBytes M) k ix).drop 6) := fun x hx => by
      have hixk := HIK.out _ (List.getElem_mem hji0)
      rw [← hix] at hixk
      exact shardF_bytes (modelBytes_bytes M) k ix (by omega) (by omega) x (List.mem_of_mem_drop hx)
    obtain ⟨F, hF⟩ : ∃ F, F = 12 + (partF (modelBytes M) k ix).length := ⟨_, rfl⟩
    rw [← hF] at hc00 fc1 hcutF
    have hf11 : 11 < F := by omega
    have HCF := Lib.hid hcutF
    have HID6 := Lib.hid hid6
    have HSIX := Lib.hid hsix
    have hgz1 := hmap.lt
    have HMAP := Lib.hid hmap
    have HFD := Lib.hid hfound
    have hk1 : (1 : Int) ≤ k := by omega
    have hpos : 0 < n := by omega
    have hbys := modelBytes_bytes M
    have hmbp := modelBytes_pos M
    obtain ⟨mb, hmb⟩ : ∃ m, m = modelBytes M := ⟨_, rfl⟩
    have HMB := Lib.hid hmb
    rw [← hmb] at HID6 HSIX HCF HFD hln hmbp hbys
    obtain ⟨N, hN⟩ : ∃ N, N = mb.length := ⟨_, rfl⟩
    rw [← hN] at hln hmbp
    have HNN := Lib.hid hN
    have HBYS := Lib.hid hbys
    clear hmap hfound hcutF hid6 hsix hF hcell0 hadz hflb hflb' hfv frd hpart0 hl0 hix hjl0 hji0 hkb1 hfT hmb hN hbys
    go_wp2_with fail
    go_loopw [6, 25] (fun bv i wr => ∃ j : Nat, j ≤ k ∧ i = .int .i64 j ∧ Hid (∀ q, q < j → q ∈ idx) ∧ Own wr (fun g => w1.heap.size ≤ g) 5 1 bv (beforeF N k j) (bytes (mb.take (beforeF N k j))) ∧ Keeps (fun _ => False) w1 wr) (fun _ i _ => k - (intOf i).toNat)
    case atStart => exact ⟨0, by omega, rfl, fun q h => absurd h (by omega), by
      have h0 : beforeF N k 0 = 0 := by simp [beforeF]
      rw [h0]; exact Own.nil_ _ _ _ _, Keeps.refl _ _⟩
    obtain ⟨j, hj, rfl, HQ, hown, hkp⟩ := hrel
    have hwz := hkp.size
    by_cases hlt : j < k
    · by_cases hin : j ∈ idx
      · obtain ⟨v, hlk, hv⟩ := HFD.out.some_ hin
        have hmapr := HMAP.out.keep (hkp.block g hgz1 id)
        have hlook := hmapr.look (j : Int) (WalkArith.wf_i64 (by omega))
        rw [hlk] at hlook
        simp only [Option.getD_some, Option.isSome_some] at hlook
        obtain ⟨pA, pc, rfl, hpr, -, -⟩ := hv.keeps hkp (fun i _ h => h)
        have hsz : (partF mb k j).length = sizeF N k j := by rw [HNN.out]; exact partF_length mb k j hk0 hlt
        rw [hsz] at hpr hlook hlk
        have hbs := before_succ N k j
        have hble := before_le N k (j + 1) hk0 (by omega)
        have hps := partsTo_succ mb k j
        rw [← HNN.out] at hps
        obtain ⟨B0, hB0⟩ : ∃ x, x = beforeF N k j := ⟨_, rfl⟩
        obtain ⟨s, hs⟩ : ∃ x, x = sizeF N k j := ⟨_, rfl⟩
        rw [← hB0, ← hs] at hbs
        rw [hbs] at hble
        rw [← hB0] at hown hps
        rw [← hs] at hpr hlook
        have HBS := Lib.hid hbs
        have HPS := Lib.hid hps
        have HOWN := Lib.hid hown
        have HPR := Lib.hid hpr
        have HKP := Lib.hid hkp
        have HB00 := Lib.hid hB0
        clear hbs hps hown hpr hkp hB0 hs hsz hlk hmapr hv
        go_wp2_with (at_builtin; go_must (refine wpList_append_any _ rfl _ _ 34 rfl 5 i0 _ 1 1 Tryz.underlying34 hi hz0 hz1 hz2 rfl (by omega) u6 _ _ rfl HOWN.out _ s pc _ rfl HPR.out (bytes_one _) (by unfold maxLen; omega) (by omega) ?_); intro v' w3 happ)
        obtain ⟨o3, b3⟩ := appBelow happ (B := w1.heap.size) hwz (fun g hg => HOWN.out.2 g hg)
        go_roundw
        case rel => exact ⟨j + 1, by omega, by go_num, fun q hq => by
          by_cases e : q = j
          · rw [e]; exact hin
          · exact HQ q (by omega), by rw [HBS.out, ← HBS.out, ← HPS.out, HBS.out]; exact o3, HKP.out.below b3 (fun i hi h => by omega)⟩
        case measure => simp [intOf]; omega
      · have hmapr := HMAP.out.keep (hkp.block g hgz1 id)
        have hlook := hmapr.look (j : Int) (WalkArith.wf_i64 (by omega))
        rw [HFD.out.none_ hin] at hlook
        simp only [Option.getD_none, Option.isSome_none] at hlook
        have hkr := hkp.blk KR.out id
        have HKR := Lib.hid hkr
        have HKP := Lib.hid hkp
        have e0 : wr.cell? ⟨r, 0, none⟩ = some (.int .i64 0) := hkr.cell 0
        have f0 := hkr.frozen 0
        have e1 : wr.cell? ⟨r, 1, none⟩ = some (.int .i64 0) := hkr.cell 1
        have f1 := hkr.frozen 1
        have e2 : wr.cell? ⟨r, 2, none⟩ = some (.int .i64 0) := hkr.cell 2
        have f2 := hkr.frozen 2
        have e3 : wr.cell? ⟨r, 3, none⟩ = some (.int .i64 0) := hkr.cell 3
        have f3 := hkr.frozen 3
        have e4 : wr.cell? ⟨r, 4, none⟩ = some (.slice none 0 0) := hkr.cell 4
        have f4 := hkr.frozen 4
        have e5 : wr.cell? ⟨r, 5, none⟩ = some (.slice none 0 0) := hkr.cell 5
        have f5 := hkr.frozen 5
        have e6 : wr.cell? ⟨r, 6, none⟩ = some (.slice none 0 0) := hkr.cell 6
        have f6 := hkr.frozen 6
        have e7 : wr.cell? ⟨r, 7, none⟩ = some (.slice none 0 0) := hkr.cell 7
        have f7 := hkr.frozen 7
        have e8 : wr.cell? ⟨r, 8, none⟩ = some (.slice none 0 0) := hkr.cell 8
        have f8 := hkr.frozen 8
        have e9 : wr.cell? ⟨r, 9, none⟩ = some (.slice none 0 0) := hkr.cell 9
        have f9 := hkr.frozen 9
        have e10 : wr.cell? ⟨r, 10, none⟩ = some (.slice none 0 0) := hkr.cell 10
        have f10 := hkr.frozen 10
        clear hkr hkp hown hmapr
        go_wp2_with fail
        refine bodyPost_ret (v := .tuple #[.agg #[.int .i64 0, .int .i64 0, .int .i64 0, .int .i64 0, .slice none 0 0, .slice none 0 0, .slice none 0 0, .slice none 0 0, .slice none 0 0, .slice none 0 0, .slice none 0 0], .int .i64 13]) ?_ ?_ ?_
        · exact res_row_tmp (p := 2) (u := 3) (ty := 27) (fn := Tryz.f16) rfl _ _ r 27 _ _ rfl (zeroCells_blk HKR.out) Tryz.underlying27 rfl hi27
        · rfl
        refine ⟨((((Keeps.of_below HB1.out (fun _ => False)).tr HKP.out)).trans (zeroCells_keeps wr r) (fun i hi h => by have := HRE.out; omega)).to_below, fun _ h => absurd (h j hlt) hin, fun _ _ => rfl, fun h => absurd hcode h⟩
    · obtain rfl : j = k := by omega
      have hfull2 : beforeF N j j = N := before_full N j hk0
      rw [hfull2, HNN.out, List.take_length, ← HNN.out] at hown
      have HOWN := Lib.hid hown
      obtain ⟨A, cap, rfl, hcap1, hcap2⟩ := hown.shape
      have hrd := hown.reads
      have hc1 := fun q c' => code_any (wr.drewN q) _ A c' mb (by rw [← HNN.out]; exact hrd.drewN q) (by rw [← HNN.out]; omega) HBYS.out
      rw [← HNN.out] at hc1
      have HC1 := Lib.hid hc1
      have hrf := HCF.out.keeps hkp (fun i _ h => h)
      have hc2 := fun q => read4_any (wr.drewN q) T _ (fc - 6) (F - 6) _ (hrf.drewN q) (by omega) HSIX.out
      rw [HID6.out] at hc2
      have HC2 := Lib.hid hc2
      have hc00' : wr.cell? ad = some (.slice (some fa) F fc) := (World.cell?_of_block (hkp.block ad.block (by
        rcases Nat.lt_or_ge ad.block w1.heap.size with h | h
        · exact h
        · have : w1.heap[ad.block]? = none := by simp; omega
          rw [World.cell?, this] at hc00; simp at hc00) id)).trans hc00
      have hself : (codeF mb != codeF mb) = false := by simp
      have hf6 : ¬ fc = 6 := by omega
      have hF6 : 6 < fc := by omega
      have hF12 : 12 ≤ F := by omega
      have HKP := Lib.hid hkp
      have HRD := Lib.hid hrd
      generalize codeF mb = cf at *
      clear hown hrd hc1 hc2 hrf hkp hfull2
      go_upto_region 13 with (fail)
      go_quiet (first
        | (go_at_call 25; with_reducible exact quiet_left (HC1.out _ _))
        | (go_at_call 41; with_reducible exact quiet_more (HC2.out _)))
      have hro := HRD.out.old
      rw [HMB.out] at hro
      have HFB := Lib.hid (fromBytes_any (wr.drewN nq) _ A N cap M (hro.drewN nq) (by omega) (by omega) (fun g hg => hg) HMO.out)
      have HKR := Lib.hid ((HKP.out.blk KR.out id).drewN nq)
      have HKP2 := Lib.hid (HKP.out.drewN nq)
      clear hro HC1 HC2 HKP HRD
      go_wp2_with fail
      refine HFB.out.mono ?_
      rintro e w5 ⟨v4, v5, v6, v7, v8, v9, v10, rfl, hm5, hb5⟩
      have HONE := Lib.hid hm5.ones
      have HM5 := Lib.hid hm5
      have HKR5 := Lib.hid (HKR.out.below hb5 HKR.out.lt)
      have HKP5 := Lib.hid (HKP2.out.fresh hb5)
      have hwz5 : w.heap.size < wr.heap.size := by
        have h1 := HRE.out
        have h2 := KR.out.lt
        omega
      clear hm5 hb5 HKR HKP2 HFB
      go_wp2_with (first
        | (refine wpList_store_blk rfl 27 _ _ rfl r _ rfl rfl 27 _ HKR5.out hi27 rfl HONE.out ?_; intro w8 q8 k8))
      refine bodyPost_ret (v := .tuple #[.agg (cellsTo M.kind M.vocab M.width M.top [v4, v5, v6, v7, v8, v9, v10] 7), .int .i64 0]) ?_ ?_ ?_
      · exact res_row_tmp (p := 2) (u := 3) (ty := 27) (fn := Tryz.f16) rfl _ _ r 27 _ _ rfl q8 Tryz.underlying27 rfl hi27
      · rfl
      have hrr := HRE.out
      have hall : ∀ i, i < j → i ∈ idx := HQ
      have hm8 := (HM5.out.keeps k8 (fun i hi e => by have hi' : wr.heap.size ≤ i := hi; omega)).more (T' := fun g => w.heap.size ≤ g) (fun g _ h => by have h' : wr.heap.size ≤ g := h; omega)
      refine ⟨((((Keeps.of_below HB1.out (fun _ => False)).tr HKP5.out)).trans k8 (fun i hi h => by omega)).to_below, fun _ _ => ⟨v4, v5, v6, v7, v8, v9, v10, rfl, hm8⟩, fun _ h => ?_, fun h => absurd hcode h⟩
      obtain ⟨q, h1, h2⟩ := h
      exact absurd (hall q h1) h2
  · have he := hno hcode
    subst he
    have hcb : (code != 0) = true := by simpa using hcode
    have e0 : w1.cell? ⟨r, 0, none⟩ = some (.int .i64 0) := KR.out.cell 0
    have f0 := KR.out.frozen 0
    have e1 : w1.cell? ⟨r, 1, none⟩ = some (.int .i64 0) := KR.out.cell 1
    have f1 := KR.out.frozen 1
    have e2 : w1.cell? ⟨r, 2, none⟩ = some (.int .i64 0) := KR.out.cell 2
    have f2 := KR.out.frozen 2
    have e3 : w1.cell? ⟨r, 3, none⟩ = some (.int .i64 0) := KR.out.cell 3
    have f3 := KR.out.frozen 3
    have e4 : w1.cell? ⟨r, 4, none⟩ = some (.slice none 0 0) := KR.out.cell 4
    have f4 := KR.out.frozen 4
    have e5 : w1.cell? ⟨r, 5, none⟩ = some (.slice none 0 0) := KR.out.cell 5
    have f5 := KR.out.frozen 5
    have e6 : w1.cell? ⟨r, 6, none⟩ = some (.slice none 0 0) := KR.out.cell 6
    have f6 := KR.out.frozen 6
    have e7 : w1.cell? ⟨r, 7, none⟩ = some (.slice none 0 0) := KR.out.cell 7
    have f7 := KR.out.frozen 7
    have e8 : w1.cell? ⟨r, 8, none⟩ = some (.slice none 0 0) := KR.out.cell 8
    have f8 := KR.out.frozen 8
    have e9 : w1.cell? ⟨r, 9, none⟩ = some (.slice none 0 0) := KR.out.cell 9
    have f9 := KR.out.frozen 9
    have e10 : w1.cell? ⟨r, 10, none⟩ = some (.slice none 0 0) := KR.out.cell 10
    have f10 := KR.out.frozen 10
    clear hok hno
    go_wp2_with fail
    refine bodyPost_ret (v := .tuple #[.agg #[.int .i64 0, .int .i64 0, .int .i64 0, .int .i64 0, .slice none 0 0, .slice none 0 0, .slice none 0 0, .slice none 0 0, .slice none 0 0, .slice none 0 0, .slice none 0 0], .int .i64 code]) ?_ ?_ ?_
    · exact res_row_tmp (p := 2) (u := 3) (ty := 27) (fn := Tryz.f16) rfl _ _ r 27 _ _ rfl (zeroCells_blk KR.out) Tryz.underlying27 rfl hi27
    · rfl
    exact ⟨((Keeps.of_below HB1.out (fun _ => False)).trans (zeroCells_keeps w1 r) (fun i hi h => by have := HRE.out; omega)).to_below, fun h => absurd h hcode, fun h => absurd h hcode, fun _ => rfl⟩
end Go.Proofs.YtmlfgokbcafbkaaGreatDoor

namespace Go.Proofs.YtmlfgokbcafbkaaGreatDoor
open Go.RowKit

set_option maxRecDepth 100000 in
set_option maxHeartbeats 2000000 in
theorem kept_ok (w : World) (T : Nat → Prop) (M : Model) (v4 v5 v6 v7 v8 v9 v10 : Value) (h : MSl w T M v4 v5 v6 v7 v8 v9 v10) (hM : M.Ok) (A : Option Addr) (n c : Nat)
    (hG : ∀ o, Calls Tryz.prog 16 #[.slice A n c] (w.alloc o) fun e w' => Below (w.alloc o).heap.size (w.alloc o) w' ∧ GatherOk (w.alloc o) w' M e) :
    Calls Tryz.prog 12 #[.agg #[.int .i64 M.kind, .int .i64 M.vocab, .int .i64 M.width, .int .i64 M.top, v4, v5, v6, v7, v8, v9, v10], .slice A n c, .int .i64 0] w fun e w' => e = .returned (.bool true) ∧ Below w.heap.size w w' := by
  have hi27 : (Tryz.prog.info? 27).map (·.size) = some 11 := by kernel_rfl
  have HG := Lib.hid hG
  have HMS := Lib.hid h.old
  have HMO := Lib.hid hM
  have HONE0 := Lib.hid h.ones
  clear h hM hG
  go_enter Tryz.func12, Tryz.ntmps12
  go_wp2_with fail
  refine (HG.out _).mono ?_
  rintro e w5 ⟨hb, u4, u5, u6, u7, u8, u9, u10, rfl, hm⟩
  have KA := Lib.hid ((Blk.new w 27 #[.int .i64 M.kind, .int .i64 M.vocab, .int .i64 M.width, .int .i64 M.top, v4, v5, v6, v7, v8, v9, v10]).below hb (by simp))
  have HB := Lib.hid (((Below.refl w.heap.size w).alloc (Nat.le_refl _) (.cells #[.int .i64 M.kind, .int .i64 M.vocab, .int .i64 M.width, .int .i64 M.top, v4, v5, v6, v7, v8, v9, v10] 27)).trans (hb.mono (by simp)))
  have HM0 := Lib.hid ((HMS.out.alloc (.cells #[.int .i64 M.kind, .int .i64 M.vocab, .int .i64 M.width, .int .i64 M.top, v4, v5, v6, v7, v8, v9, v10] 27)).fresh hb)
  have hm5 := hm.more (T' := fun g => w.heap.size ≤ g ∧ g < w5.heap.size) (fun b hb ht => ⟨by simp at ht; omega, hb⟩)
  have hwz := hb.size
  obtain ⟨A4, N4, c4, rfl⟩ := hm.cuts.lit
  obtain ⟨A5, N5, c5, rfl⟩ := hm.embed.lit
  obtain ⟨A6, N6, c6, rfl⟩ := hm.place.lit
  obtain ⟨A7, N7, c7, rfl⟩ := hm.mix.lit
  obtain ⟨A8, N8, c8, rfl⟩ := hm.out.lit
  obtain ⟨A9, N9, c9, rfl⟩ := hm.soft.lit
  obtain ⟨A10, N10, c10, rfl⟩ := hm.odds.lit
  have HM := Lib.hid hm5
  clear hm hm5 hb
  go_upto_region 2 with (fail)
  have KB := Lib.hid (Blk.new w5 27 #[.int .i64 M.kind, .int .i64 M.vocab, .int .i64 M.width, .int .i64 M.top, .slice A4 N4 c4, .slice A5 N5 c5, .slice A6 N6 c6, .slice A7 N7 c7, .slice A8 N8 c8, .slice A9 N9 c9, .slice A10 N10 c10])
  have KA6 := Lib.hid (KA.out.alloc (.cells #[.int .i64 M.kind, .int .i64 M.vocab, .int .i64 M.width, .int .i64 M.top, .slice A4 N4 c4, .slice A5 N5 c5, .slice A6 N6 c6, .slice A7 N7 c7, .slice A8 N8 c8, .slice A9 N9 c9, .slice A10 N10 c10] 27))
  have HM6 := Lib.hid (HM.out.alloc (.cells #[.int .i64 M.kind, .int .i64 M.vocab, .int .i64 M.width, .int .i64 M.top, .slice A4 N4 c4, .slice A5 N5 c5, .slice A6 N6 c6, .slice A7 N7 c7, .slice A8 N8 c8, .slice A9 N9 c9, .slice A10 N10 c10] 27))
  have HM06 := Lib.hid (HM0.out.alloc (.cells #[.int .i64 M.kind, .int .i64 M.vocab, .int .i64 M.width, .int .i64 M.top, .slice A4 N4 c4, .slice A5 N5 c5, .slice A6 N6 c6, .slice A7 N7 c7, .slice A8 N8 c8, .slice A9 N9 c9, .slice A10 N10 c10] 27))
  have HB6 := Lib.hid ((Keeps.of_below HB.out (fun _ => False)).alloc (.cells #[.int .i64 M.kind, .int .i64 M.vocab, .int .i64 M.width, .int .i64 M.top, .slice A4 N4 c4, .slice A5 N5 c5, .slice A6 N6 c6, .slice A7 N7 c7, .slice A8 N8 c8, .slice A9 N9 c9, .slice A10 N10 c10] 27))
  generalize w5.alloc (.cells #[.int .i64 M.kind, .int .i64 M.vocab, .int .i64 M.width, .int .i64 M.top, .slice A4 N4 c4, .slice A5 N5 c5, .slice A6 N6 c6, .slice A7 N7 c7, .slice A8 N8 c8, .slice A9 N9 c9, .slice A10 N10 c10] 27) = w6 at *
  obtain ⟨a, ha⟩ : ∃ a, a = w.heap.size := ⟨_, rfl⟩
  obtain ⟨b, hb⟩ : ∃ b, b = w5.heap.size := ⟨_, rfl⟩
  rw [← ha] at KA6
  rw [← hb] at KB
  rw [← ha, ← hb]
  clear KA HB HM HM0 ha hb
  have a0' : w6.cell? ⟨a, 0, none⟩ = some (.int .i64 M.kind) := KA6.out.cell 0
  have a1' : w6.cell? ⟨a, 1, none⟩ = some (.int .i64 M.vocab) := KA6.out.cell 1
  have a2' : w6.cell? ⟨a, 2, none⟩ = some (.int .i64 M.width) := KA6.out.cell 2
  have a3' : w6.cell? ⟨a, 3, none⟩ = some (.int .i64 M.top) := KA6.out.cell 3
  have a4' : w6.cell? ⟨a, 4, none⟩ = some (v4) := KA6.out.cell 4
  have a5' : w6.cell? ⟨a, 5, none⟩ = some (v5) := KA6.out.cell 5
  have a6' : w6.cell? ⟨a, 6, none⟩ = some (v6) := KA6.out.cell 6
  have a7' : w6.cell? ⟨a, 7, none⟩ = some (v7) := KA6.out.cell 7
  have a8' : w6.cell? ⟨a, 8, none⟩ = some (v8) := KA6.out.cell 8
  have a9' : w6.cell? ⟨a, 9, none⟩ = some (v9) := KA6.out.cell 9
  have a10' : w6.cell? ⟨a, 10, none⟩ = some (v10) := KA6.out.cell 10
  have b0' : w6.cell? ⟨b, 0, none⟩ = some (.int .i64 M.kind) := KB.out.cell 0
  have b1' : w6.cell? ⟨b, 1, none⟩ = some (.int .i64 M.vocab) := KB.out.cell 1
  have b2' : w6.cell? ⟨b, 2, none⟩ = some (.int .i64 M.width) := KB.out.cell 2
  have b3' : w6.cell? ⟨b, 3, none⟩ = some (.int .i64 M.top) := KB.out.cell 3
  have b4' : w6.cell? ⟨b, 4, none⟩ = some (.slice A4 N4 c4) := KB.out.cell 4
  have b5' : w6.cell? ⟨b, 5, none⟩ = some (.slice A5 N5 c5) := KB.out.cell 5
  have b6' : w6.cell? ⟨b, 6, none⟩ = some (.slice A6 N6 c6) := KB.out.cell 6
  have b7' : w6.cell? ⟨b, 7, none⟩ = some (.slice A7 N7 c7) := KB.out.cell 7
  have b8' : w6.cell? ⟨b, 8, none⟩ = some (.slice A8 N8 c8) := KB.out.cell 8
  have b9' : w6.cell? ⟨b, 9, none⟩ = some (.slice A9 N9 c9) := KB.out.cell 9
  have b10' : w6.cell? ⟨b, 10, none⟩ = some (.slice A10 N10 c10) := KB.out.cell 10
  go_wp2_with fail
  clear a0' a1' a2' a3' a4' a5' a6' a7' a8' a9' a10' b0' b1' b2' b3' b4' b5' b6' b7' b8' b9' b10'
  refine (equal_model w6 _ _ M _ _ _ _ _ _ _ _ _ _ _ _ _ _ HM06.out HM6.out HMO.out).mono ?_
  rintro e w7 ⟨rfl, hb7⟩
  have HB7 := Lib.hid (HB6.out.fresh hb7)
  clear hb7
  go_wp2_with fail
  go_ret
  exact ⟨rfl, HB7.out.to_below⟩

set_option maxRecDepth 100000 in
set_option maxHeartbeats 2000000 in
theorem kept_no (w : World) (M : Model) (v4 v5 v6 v7 v8 v9 v10 : Value) (A : Option Addr) (n c : Nat) (code : Int) (h0 : code ≠ 0)
    (hG : ∀ o, Calls Tryz.prog 16 #[.slice A n c] (w.alloc o) fun e w' => Below (w.alloc o).heap.size (w.alloc o) w' ∧ GatherNo code e) :
    Calls Tryz.prog 12 #[.agg #[.int .i64 M.kind, .int .i64 M.vocab, .int .i64 M.width, .int .i64 M.top, v4, v5, v6, v7, v8, v9, v10], .slice A n c, .int .i64 code] w fun e w' => e = .returned (.bool true) ∧ Below w.heap.size w w' := by
  have HG := Lib.hid hG
  have hc0 : (code == 0) = false := by simpa using h0
  have hc1 : (code != 0) = true := by simpa using h0
  have hcc : (code == code) = true := by simp
  clear hG
  go_enter Tryz.func12, Tryz.ntmps12
  go_wp2_with fail
  refine (HG.out _).mono ?_
  rintro e w5 ⟨hb, rfl⟩
  have HB := Lib.hid (((Below.refl w.heap.size w).alloc (Nat.le_refl _) (.cells #[.int .i64 M.kind, .int .i64 M.vocab, .int .i64 M.width, .int .i64 M.top, v4, v5, v6, v7, v8, v9, v10] 27)).trans (hb.mono (by simp)))
  clear hb
  go_wp2_with fail
  go_ret
  exact ⟨rfl, ((Keeps.of_below HB.out (fun _ => False)).alloc _).to_below⟩

set_option maxRecDepth 100000 in
theorem single_none (w : World) (A : Option Addr) (c : Nat) : Calls Tryz.prog 40 #[.slice A 0 c] w fun e w' => e = .returned (.tuple #[.map none, .int .i64 13]) ∧ w' = w := by
  go_enter Tryz.func40, Tryz.ntmps40
  go_wp2_with fail
  go_ret2
  exact ⟨rfl, rfl⟩
set_option maxRecDepth 100000 in
set_option maxHeartbeats 1000000 in
theorem gather_none (w : World) (A : Option Addr) (c : Nat) : Calls Tryz.prog 16 #[.slice A 0 c] w fun e w' => Below w.heap.size w w' ∧ GatherNo 13 e := by
  have hi27 : (Tryz.prog.info? 27).map (·.size) = some 11 := by kernel_rfl
  go_enter Tryz.func16, Tryz.ntmps16
  go_wp2_with fail
  refine (single_none _ A c).mono ?_
  rintro e w1 ⟨rfl, rfl⟩
  have kr := Blk.new w 27 #[.int .i64 0, .int .i64 0, .int .i64 0, .int .i64 0, .slice none 0 0, .slice none 0 0, .slice none 0 0, .slice none 0 0, .slice none 0 0, .slice none 0 0, .slice none 0 0]
  have hb := (Below.refl w.heap.size w).alloc (Nat.le_refl _) (.cells #[.int .i64 0, .int .i64 0, .int .i64 0, .int .i64 0, .slice none 0 0, .slice none 0 0, .slice none 0 0, .slice none 0 0, .slice none 0 0, .slice none 0 0, .slice none 0 0] 27)
  generalize w.alloc (.cells #[.int .i64 0, .int .i64 0, .int .i64 0, .int .i64 0, .slice none 0 0, .slice none 0 0, .slice none 0 0, .slice none 0 0, .slice none 0 0, .slice none 0 0, .slice none 0 0] 27) = w1 at *
  obtain ⟨r, hr⟩ : ∃ r, r = w.heap.size := ⟨_, rfl⟩
  rw [← hr] at kr
  rw [← hr]
  have HRE := Lib.hid hr
  have KR := Lib.hid kr
  have HB := Lib.hid hb
  have e0 : w1.cell? ⟨r, 0, none⟩ = some (.int .i64 0) := kr.cell 0
  have f0 := kr.frozen 0
  have e1 : w1.cell? ⟨r, 1, none⟩ = some (.int .i64 0) := kr.cell 1
  have f1 := kr.frozen 1
  have e2 : w1.cell? ⟨r, 2, none⟩ = some (.int .i64 0) := kr.cell 2
  have f2 := kr.frozen 2
  have e3 : w1.cell? ⟨r, 3, none⟩ = some (.int .i64 0) := kr.cell 3
  have f3 := kr.frozen 3
  have e4 : w1.cell? ⟨r, 4, none⟩ = some (.slice none 0 0) := kr.cell 4
  have f4 := kr.frozen 4
  have e5 : w1.cell? ⟨r, 5, none⟩ = some (.slice none 0 0) := kr.cell 5
  have f5 := kr.frozen 5
  have e6 : w1.cell? ⟨r, 6, none⟩ = some (.slice none 0 0) := kr.cell 6
  have f6 := kr.frozen 6
  have e7 : w1.cell? ⟨r, 7, none⟩ = some (.slice none 0 0) := kr.cell 7
  have f7 := kr.frozen 7
  have e8 : w1.cell? ⟨r, 8, none⟩ = some (.slice none 0 0) := kr.cell 8
  have f8 := kr.frozen 8
  have e9 : w1.cell? ⟨r, 9, none⟩ = some (.slice none 0 0) := kr.cell 9
  have f9 := kr.frozen 9
  have e10 : w1.cell? ⟨r, 10, none⟩ = some (.slice none 0 0) := kr.cell 10
  have f10 := kr.frozen 10
  clear kr hb hr
  go_wp2_with fail
  refine bodyPost_ret (v := .tuple #[.agg #[.int .i64 0, .int .i64 0, .int .i64 0, .int .i64 0, .slice none 0 0, .slice none 0 0, .slice none 0 0, .slice none 0 0, .slice none 0 0, .slice none 0 0, .slice none 0 0], .int .i64 13]) ?_ ?_ ?_
  · exact res_row_tmp (p := 2) (u := 3) (ty := 27) (fn := Tryz.f16) rfl _ _ r 27 _ _ rfl (zeroCells_blk KR.out) Tryz.underlying27 rfl hi27
  · rfl
  exact ⟨((Keeps.of_below HB.out (fun _ => False)).trans (zeroCells_keeps w1 r) (fun i hi h => by have := HRE.out; omega)).to_below, rfl⟩
end Go.Proofs.YtmlfgokbcafbkaaGreatDoor

namespace Go.Proofs.YtmlfgokbcafbkaaGreatDoor
open Go.RowKit

set_option maxHeartbeats 400000 in
theorem cloneB_any (w : World) (T : Nat → Prop) (A : Option Addr) (n c : Nat) (xs : List Value) (hr : Reads w T 1 A n xs) (h1 : ∀ u ∈ xs, u.oneCell' = true) (hn : n ≤ 1000000000000) (hA : A = none → n = 0 ∧ c = 0) :
    Calls Tryz.prog 17 #[.slice A n c] w (RetFresh w 5 1 n xs) := by
  obtain ⟨i0, hi, hz0, hz1, hz2⟩ := info_parts u8_info
  rcases A with _ | ad
  · obtain ⟨rfl, rfl⟩ := hA rfl
    have hx : xs = [] := List.eq_nil_of_length_eq_zero (by simpa using hr.1)
    subst hx
    have he := fun W : World => Lib.run_eql_slice_nil (P := Tryz.prog) W 34 5 none 0 0 0 0 Tryz.underlying34
    go_enter Tryz.func17, Tryz.ntmps17
    go_wp2_with fail
    go_ret
    exact ⟨_, rfl, Own.nil_ _ _ _ _, Below.refl _ _⟩
  · have he := fun W : World => Lib.run_eql_slice_nil (P := Tryz.prog) W 34 5 (some ad) n c 0 0 Tryz.underlying34
    go_enter Tryz.func17, Tryz.ntmps17
    go_wp2_with (at_builtin; refine wpList_append_any _ rfl _ _ 34 rfl 5 i0 _ 1 1 Tryz.underlying34 hi hz0 hz1 hz2 rfl (by omega) (.slice (some ⟨w.heap.size, 0, none⟩) 0 0) 0 [] rfl (own_empty w (fun g => w.heap.size ≤ g) _ _ (Nat.le_refl _)) _ n c xs rfl (hr.alloc _) h1 (by unfold maxLen; omega) (by omega) ?_; intro v1 w1 happ)
    go_ret
    refine ⟨_, rfl, ?_, ?_⟩
    · have h := happ.1
      simp only [Nat.zero_add, List.nil_append] at h
      exact h.more fun g _ hg => by rcases hg with hg | hg; exact hg; simp at hg; omega
    · refine below_of_app (by go_grown) happ (by simp) (fun g hg => ?_)
      simp [Value.ownBlock] at hg
      omega

set_option maxHeartbeats 400000 in
theorem cloneBs_any (w : World) (T : Nat → Prop) (A : Option Addr) (n c : Nat) (xs : List Value) (hr : Reads w T 1 A n xs) (h1 : ∀ u ∈ xs, u.oneCell' = true) (hn : n ≤ 1000000000) (hA : A = none → n = 0 ∧ c = 0) :
    Calls Tryz.prog 15 #[.slice A n c] w (RetFresh w 34 1 n xs) := by
  obtain ⟨i0, hi, hz0, hz1, hz2⟩ := info_parts slices_info
  rcases A with _ | ad
  · obtain ⟨rfl, rfl⟩ := hA rfl
    have hx : xs = [] := List.eq_nil_of_length_eq_zero (by simpa using hr.1)
    subst hx
    have he := fun W : World => Lib.run_eql_slice_nil (P := Tryz.prog) W 30 34 none 0 0 0 0 Tryz.underlying30
    go_enter Tryz.func15, Tryz.ntmps15
    go_wp2_with fail
    go_ret
    exact ⟨_, rfl, Own.nil_ _ _ _ _, Below.refl _ _⟩
  · have he := fun W : World => Lib.run_eql_slice_nil (P := Tryz.prog) W 30 34 (some ad) n c 0 0 Tryz.underlying30
    go_enter Tryz.func15, Tryz.ntmps15
    go_wp2_with (at_builtin; refine wpList_append_any _ rfl _ _ 30 rfl 34 i0 _ 1 24 Tryz.underlying30 hi hz0 hz1 hz2 rfl (by omega) (.slice (some ⟨w.heap.size, 0, none⟩) 0 0) 0 [] rfl (own_empty w (fun g => w.heap.size ≤ g) _ _ (Nat.le_refl _)) _ n c xs rfl (hr.alloc _) h1 (by unfold maxLen; omega) (by omega) ?_; intro v1 w1 happ)
    go_ret
    refine ⟨_, rfl, ?_, ?_⟩
    · have h := happ.1
      simp only [Nat.zero_add, List.nil_append] at h
      exact h.more fun g _ hg => by rcases hg with hg | hg; exact hg; simp at hg; omega
    · refine below_of_app (by go_grown) happ (by simp) (fun g hg => ?_)
      simp [Value.ownBlock] at hg
      omega

theorem wpList_append_zeros24 {P : Program} (w : World) {ops : Array Oper} {rest : List Oper} {o : Oper} {a : Act} {Q : Exit → Act → World → Prop} (hgd : o.guard = none) (s x : Operand) (t tn e : TypeId)
    (ho : o.op = .call { callee := .builtin .append, args := #[s, x], argTypes := #[t, tn] }) (i : TypeInfo) (z : Value) (kn : IntKind) (ht : P.underlying t = some (.slice e)) (htn : P.underlying tn = some (.int kn)) (hi : P.info? e = some i) (hz : i.zero = some z)
    (hz1 : i.size = 1) (hzs : z.cells.size = 1) (hz2 : i.bytes ≤ 24) (n : Nat) (hn : n ≤ 65536) (h0 : 0 < n) (hs : a.eval s = .slice none 0 0) (hx : a.eval x = .int .i64 n)
    (h : ∀ cap w', n ≤ cap → Own w' (fun g => w.heap.size ≤ g) e 1 (.slice (some ⟨w.heap.size, 0, none⟩) 0 cap) 0 [] → Below w.heap.size w w' → wpList P ops Q rest (a.put o.dst (.slice (some ⟨w.heap.size, 0, none⟩) n cap)) w') : wpList P ops Q (o :: rest) a w := by
  refine wpList_plain hgd fun K hK => ?_
  have hb : n * i.bytes ≤ 65536 * 24 := Nat.mul_le_mul hn hz2
  have hrun := Lib.run_append_grow_zeros (P := P) w t tn o.type e i z .i64 kn ht htn hi hz none 0 0 [] (by simp [Builtin.firstCells]) n h0 (by omega) (by omega) (by omega) (by omega)
      (by unfold Builtin.nextslicecap; rw [if_pos (by omega)]; simp only [Nat.zero_add]; omega)
  unfold Oper.wp execOp
  simp only [ho, resolve, invoke, builtin, Sem.run_bind, Sem.run_pure, Result.andThen_ok, List.map_toArray, List.map_cons, List.map_nil, hs, hx, hrun]
  refine hK _ _ ?_
  have hge := grownCap_ge w (0 + n) 0 e
  have hle := grownCap_le_maxLen w (0 + n) 0 e (by unfold maxLen; omega)
  rw [Nat.zero_add] at hge hle ⊢
  refine h _ _ hge ?_ ⟨rfl, rfl, rfl, by simp, fun k hk => Below.heap_alloc _ _ _ hk⟩
  refine ⟨⟨by simp, .inr ⟨w.heap.size, _, _, rfl, Nat.zero_le _, heap_alloc_new w.drew _, Nat.zero_le _, hle, ?_, by simp⟩⟩, fun g hg => by simp [Value.ownBlock] at hg; omega⟩
  simp only [Array.size_append, List.size_toArray, List.length_nil, size_zeroCells]
  rw [hzs]
  omega

set_option maxRecDepth 100000 in
set_option maxHeartbeats 400000 in
/-- Grow of nil: a new row of no element. -/
theorem growBs_nil (w : World) (n : Nat) (hn : n ≤ 65536) :
    Calls Tryz.prog 39 #[.slice none 0 0, .int .i64 n] w (RetFresh w 34 1 0 []) := by
  obtain ⟨i0, hi, hz0, hz1, hz2⟩ := info_parts slices_info
  by_cases h0 : n = 0
  · subst h0
    go_enter Tryz.func39, Tryz.ntmps39
    go_wp2_with fail
    go_ret
    exact ⟨_, rfl, Own.nil_ _ _ _ _, Below.refl _ _⟩
  · go_enter Tryz.func39, Tryz.ntmps39
    go_wp2_with (at_builtin; refine wpList_append_zeros24 w rfl _ _ 30 3 34 rfl i0 _ .i64 Tryz.underlying30 Tryz.underlying3 hi hz0 hz1 rfl (by omega) n hn (by omega) rfl rfl ?_; intro cap w1 hcap hown hb)
    go_ret
    exact ⟨_, rfl, hown, hb⟩

/-- a slice that reads as these values -/
def SlV (w : World) (T : Nat → Prop) (v : Value) (xs : List Value) : Prop := ∃ A c, v = .slice A xs.length c ∧ Reads w T 1 A xs.length xs ∧ xs.length ≤ c ∧ c ≤ maxLen
def RowsV (w : World) (T : Nat → Prop) (vs : List Value) (ls : List (List Value)) : Prop := vs.length = ls.length ∧ ∀ i (h : i < ls.length), ∃ v, vs[i]? = some v ∧ SlV w T v ls[i]
def totalV (ls : List (List Value)) : Nat := (ls.map List.length).sum
theorem totalV_take (ls : List (List Value)) (k : Nat) (h : k < ls.length) : totalV (ls.take (k + 1)) = totalV (ls.take k) + ls[k].length := by
  unfold totalV
  rw [List.take_succ_eq_append_getElem h, List.map_append, List.sum_append]
  rfl
theorem totalV_take_le (ls : List (List Value)) (k : Nat) : totalV (ls.take k) ≤ totalV ls := by
  have h : totalV ls = totalV (ls.take k) + totalV (ls.drop k) := by
    unfold totalV
    rw [← List.sum_append, ← List.map_append, List.take_append_drop]
  omega
theorem flatten_takeV (ls : List (List Value)) (k : Nat) (h : k < ls.length) : (ls.take (k + 1)).flatten = (ls.take k).flatten ++ ls[k] := by
  rw [List.take_succ_eq_append_getElem h, List.flatten_append]
  congr 1
  exact List.append_nil _
set_option maxRecDepth 100000 in
set_option maxHeartbeats 400000 in
theorem concatBs_any (w : World) (T T' : Nat → Prop) (A : Option Addr) (n c : Nat) (vs : List Value) (ls : List (List Value)) (hr : Reads w T 1 A n vs) (hrows : RowsV w T' vs ls) (h1 : ∀ l ∈ ls, ∀ u ∈ l, u.oneCell' = true) (hn : n ≤ 65536) (ht : totalV ls ≤ 65536) :
    Calls Tryz.prog 14 #[.slice A n c] w (RetFresh w 34 1 (totalV ls) ls.flatten) := by
  obtain ⟨i0, hi, hz0, hz1, hz2⟩ := info_parts slices_info
  have hlen : ls.length = n := by have := hr.1; have := hrows.1; omega
  go_enter Tryz.func14, Tryz.ntmps14
  go_wp2_with fail
  go_loop [3, 11] (fun s i => ∃ k : Nat, k ≤ n ∧ i = .int .i64 k ∧ s = .int .i64 (totalV (ls.take k))) (fun _ i => n - (intOf i).toNat)
  case atStart => exact ⟨0, Nat.zero_le _, rfl, rfl⟩
  case round =>
    obtain ⟨k, hk, rfl, rfl⟩ := hrel
    have hle := totalV_take_le ls k
    by_cases hlt : k < n
    · obtain ⟨ad, u, rfl, _, _, hu, hc⟩ := hr.at_ hlt
      obtain ⟨v, hv, B, d, rfl, _, hd, hd2⟩ := hrows.2 k (by omega)
      rw [hv] at hu
      injection hu with hu
      subst hu
      have hs := totalV_take ls k (by omega)
      have hle2 := totalV_take_le ls (k + 1)
      have HS := Lib.hid hs
      clear hs hv
      have hl2 : totalV (ls.take k) + ls[k].length ≤ 65536 := by rw [← HS.out]; omega
      go_wp2_with fail
      go_round
      case rel => exact ⟨k + 1, by omega, by go_num, by rw [HS.out]; go_num⟩
      case measure => simp [intOf]; omega
    · obtain rfl : k = n := by omega
      have he : totalV (ls.take k) = totalV ls := by rw [List.take_of_length_le (by omega)]
      rw [he]
      clear he hle
      go_wp2_with fail
      refine (growBs_nil _ _ ht).mono ?_
      rintro e w1 ⟨v, rfl, hown, hb⟩
      go_wp2_with fail
      go_loopw [6, 27] (fun v i wr => ∃ j : Nat, j ≤ k ∧ i = .int .i64 j ∧ Own wr (fun g => w.heap.size ≤ g) 34 1 v (totalV (ls.take j)) (ls.take j).flatten ∧ Below w.heap.size w wr) (fun _ i _ => k - (intOf i).toNat)
      case atStart => exact ⟨0, Nat.zero_le _, rfl, hown, hb⟩
      case round =>
        obtain ⟨j, hj, rfl, hown, hb⟩ := hrel
        have hle := totalV_take_le ls j
        by_cases hlt : j < k
        · obtain ⟨ad, u, rfl, _, _, hu, hc⟩ := (hr.fresh hb).at_ hlt
          obtain ⟨v, hv, B, d, rfl, hrd, hd, hd2⟩ := hrows.2 j (by omega)
          rw [hv] at hu
          injection hu with hu
          subst hu
          have hs := totalV_take ls j (by omega)
          have hle2 := totalV_take_le ls (j + 1)
          have hl2 : totalV (ls.take j) + ls[j].length ≤ 65536 := by rw [← hs]; omega
          have HS := Lib.hid hs
          have HF := Lib.hid (flatten_takeV ls j (by omega))
          clear hs hv
          go_wp2_with (at_builtin; refine wpList_append_any _ rfl _ _ 30 rfl 34 i0 _ 1 24 Tryz.underlying30 hi hz0 hz1 hz2 rfl (by omega) _ _ _ rfl hown _ _ _ _ rfl (hrd.fresh hb) (h1 _ (List.getElem_mem (show j < ls.length by omega))) (by unfold maxLen; omega) (by omega) ?_; intro v1 w2 happ)
          go_roundw
          case rel =>
            refine ⟨j + 1, by omega, by go_num, ?_, ?_⟩
            · rw [HS.out, HF.out]
              exact happ.1.more fun g _ hg => by rcases hg with hg | hg; exact hg; have := hb.size; omega
            · exact below_of_app hb happ hb.size (fun g hg => hown.2 g hg)
          case measure => simp [intOf]; omega
        · obtain rfl : j = k := by omega
          go_wp2_with fail
          go_ret
          rw [List.take_of_length_le (by omega)] at hown
          exact ⟨_, rfl, hown, hb⟩
end Go.Proofs.YtmlfgokbcafbkaaGreatDoor

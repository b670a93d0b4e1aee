/- models.Open of a file that Write has written, and of one that is broken. num.Share. Slices of bytes, many of them in a row; the shards of a model, in plain words. models.Shards: one round. -/
import Derived.Test.YtmlfgokbcafbkaaGreatDoorTk16
import Derived.Test.YtmlfgokbcafbkaaGreatDoorTk10
namespace Go.Proofs.YtmlfgokbcafbkaaGreatDoor
open Go.RowKit

theorem res_row_tmp2 {P : Program} {fn : Func} {p u x : Tmp} {ty : TypeId} (h : fn.results = #[.cell p ty, .tmp u, .tmp x]) (tmps : Array Value) (w : World) (g : Nat) (t : TypeId) (cs : Array Value) (d : TypeDesc)
    (hp : tmps.getD p undef = .pointer (some ⟨g, 0, none⟩)) (hg : Blk w g t cs)
    (hu : P.underlying ty = some d) (hd : (match d with | .struct _ | .array _ _ => true | _ => false) = true) (hi : (P.info? ty).map (·.size) = some cs.size) :
    (results fn tmps).run P w = .ok (.tuple #[.agg cs, tmps.getD u undef, tmps.getD x undef]) w := by
  have hp' : tmps[p]?.getD undef = .pointer (some ⟨g, 0, none⟩) := by simpa using hp
  simp [results, h, hp', asAddr, Result.andThen, run_loadVar_row w g t ty cs (0, 0) d hg hu hd hi]
def zeroCells (w : World) (g : Nat) : World := (((((((((((w.setCell ⟨g, 0, none⟩ (.int .i64 0)).setCell ⟨g, 1, none⟩ (.int .i64 0)).setCell ⟨g, 2, none⟩ (.int .i64 0)).setCell ⟨g, 3, none⟩ (.int .i64 0)).setCell ⟨g, 4, none⟩ (.slice none 0 0)).setCell ⟨g, 5, none⟩ (.slice none 0 0)).setCell ⟨g, 6, none⟩ (.slice none 0 0)).setCell ⟨g, 7, none⟩ (.slice none 0 0)).setCell ⟨g, 8, none⟩ (.slice none 0 0)).setCell ⟨g, 9, none⟩ (.slice none 0 0)).setCell ⟨g, 10, none⟩ (.slice none 0 0))
theorem zeroCells_blk {w : World} {g : Nat} (h : Blk w g 27 #[.int .i64 0, .int .i64 0, .int .i64 0, .int .i64 0, .slice none 0 0, .slice none 0 0, .slice none 0 0, .slice none 0 0, .slice none 0 0, .slice none 0 0, .slice none 0 0]) : Blk (zeroCells w g) g 27 #[.int .i64 0, .int .i64 0, .int .i64 0, .int .i64 0, .slice none 0 0, .slice none 0 0, .slice none 0 0, .slice none 0 0, .slice none 0 0, .slice none 0 0, .slice none 0 0] := blk11' w g 27 _ _ _ _ _ _ _ _ _ _ _ _ _ _ _ _ _ _ _ _ _ _ h
theorem zeroCells_keeps (w : World) (g : Nat) : Keeps (· = g) w (zeroCells w g) := keeps11' w g (.int .i64 0) (.int .i64 0) (.int .i64 0) (.int .i64 0) (.slice none 0 0) (.slice none 0 0) (.slice none 0 0) (.slice none 0 0) (.slice none 0 0) (.slice none 0 0) (.slice none 0 0)
theorem fileM_parts (M : Model) : ∃ a b c d, fileM M = a :: b :: c :: d :: 119 :: 109 :: 2 :: modelBytes M := by
  unfold fileM sealM
  rw [low4]
  exact ⟨_, _, _, _, rfl⟩
theorem fileM_drop (M : Model) : (fileM M).drop 7 = modelBytes M := by
  obtain ⟨a, b, c, d, e⟩ := fileM_parts M
  rw [e]; rfl
theorem numF_pos (n : Int) : 1 ≤ (numF n).length := by
  show 1 ≤ (varF (9 + 1) (zigF n)).length
  by_cases h : zigF n < 128
  · rw [varF_last _ _ h]; simp
  · rw [varF_more _ _ h]; simp
theorem modelBytes_pos (M : Model) : 1 ≤ (modelBytes M).length := by
  have e : modelBytes M = numF M.kind ++ ([(M.vocab : Int), M.width, M.top].flatMap numF ++ M.ls.flatMap listF) := by
    unfold modelBytes Model.ns
    rw [List.flatMap_cons, List.append_assoc]
  rw [e, List.length_append]
  have := numF_pos M.kind
  omega
set_option maxRecDepth 100000 in
set_option maxHeartbeats 1000000 in
theorem open_bad (w : World) (T : Nat → Prop) (A : Option Addr) (c n : Nat) (xs : List Int) (hr : Reads w T 1 A n (bytes xs)) (hn : 7 ≤ n) (hn2 : n ≤ 1000000) (hc : n ≤ c) (hx : isBytes xs) (hi : ¬ intactM xs) :
    Calls Tryz.prog 10 #[.slice A n c] w fun e w' => e = .returned (.tuple #[.agg #[.int .i64 0, .int .i64 0, .int .i64 0, .int .i64 0, .slice none 0 0, .slice none 0 0, .slice none 0 0, .slice none 0 0, .slice none 0 0, .slice none 0 0, .slice none 0 0], .int .i64 0, .int .i64 12]) ∧ Below w.heap.size w w' := by
  have hf : (leF (xs.take 4) == codeF (xs.drop 4)) = false := by
    unfold intactM at hi
    simpa using hi
  have HI := Lib.hid (fun o => intact_any (w.alloc o) T A c n xs (hr.alloc o) (by omega) hn2 hc hx)
  rw [hf] at HI
  have hi27 : (Tryz.prog.info? 27).map (·.size) = some 11 := by kernel_rfl
  clear hf hi hr hx
  go_enter Tryz.func10, Tryz.ntmps10
  go_wp2_with fail
  refine (HI.out _).mono ?_
  rintro e w1 ⟨rfl, k, hw1⟩
  have kr : Blk w1 w.heap.size 27 #[.int .i64 0, .int .i64 0, .int .i64 0, .int .i64 0, .slice none 0 0, .slice none 0 0, .slice none 0 0, .slice none 0 0, .slice none 0 0, .slice none 0 0, .slice none 0 0] := by rw [hw1]; exact (Blk.new w 27 _).drewN k
  have hb : Below w.heap.size w w1 := by rw [hw1]; exact (((Keeps.refl (fun _ => False) w).alloc _).drewN k).to_below
  have KR := Lib.hid kr
  have HB := Lib.hid hb
  have e0 : w1.cell? ⟨w.heap.size, 0, none⟩ = some (.int .i64 0) := kr.cell 0
  have f0 := kr.frozen 0
  have e1 : w1.cell? ⟨w.heap.size, 1, none⟩ = some (.int .i64 0) := kr.cell 1
  have f1 := kr.frozen 1
  have e2 : w1.cell? ⟨w.heap.size, 2, none⟩ = some (.int .i64 0) := kr.cell 2
  have f2 := kr.frozen 2
  have e3 : w1.cell? ⟨w.heap.size, 3, none⟩ = some (.int .i64 0) := kr.cell 3
  have f3 := kr.frozen 3
  have e4 : w1.cell? ⟨w.heap.size, 4, none⟩ = some (.slice none 0 0) := kr.cell 4
  have f4 := kr.frozen 4
  have e5 : w1.cell? ⟨w.heap.size, 5, none⟩ = some (.slice none 0 0) := kr.cell 5
  have f5 := kr.frozen 5
  have e6 : w1.cell? ⟨w.heap.size, 6, none⟩ = some (.slice none 0 0) := kr.cell 6
  have f6 := kr.frozen 6
  have e7 : w1.cell? ⟨w.heap.size, 7, none⟩ = some (.slice none 0 0) := kr.cell 7
  have f7 := kr.frozen 7
  have e8 : w1.cell? ⟨w.heap.size, 8, none⟩ = some (.slice none 0 0) := kr.cell 8
  have f8 := kr.frozen 8
  have e9 : w1.cell? ⟨w.heap.size, 9, none⟩ = some (.slice none 0 0) := kr.cell 9
  have f9 := kr.frozen 9
  have e10 : w1.cell? ⟨w.heap.size, 10, none⟩ = some (.slice none 0 0) := kr.cell 10
  have f10 := kr.frozen 10
  clear kr hb hw1
  go_wp2_with fail
  refine bodyPost_ret (v := .tuple #[.agg #[.int .i64 0, .int .i64 0, .int .i64 0, .int .i64 0, .slice none 0 0, .slice none 0 0, .slice none 0 0, .slice none 0 0, .slice none 0 0, .slice none 0 0, .slice none 0 0], .int .i64 0, .int .i64 12]) ?_ ?_ ?_
  · exact res_row_tmp2 (p := 2) (u := 3) (x := 4) (ty := 27) (fn := Tryz.f10) rfl _ _ w.heap.size 27 _ _ rfl (zeroCells_blk KR.out) Tryz.underlying27 rfl hi27
  · rfl
  exact ⟨rfl, ((Keeps.of_below HB.out (fun _ => False)).trans (zeroCells_keeps w1 w.heap.size) (fun i hi h => by omega)).to_below⟩

set_option maxRecDepth 100000 in
set_option maxHeartbeats 1000000 in
theorem open_good (w : World) (T : Nat → Prop) (A : Option Addr) (c n : Nat) (M : Model) (hr : Reads w T 1 A n (bytes (fileM M))) (hc : n ≤ c) (hc2 : c ≤ maxLen) (hM : M.Ok) :
    Calls Tryz.prog 10 #[.slice A n c] w fun e w' => ∃ v4 v5 v6 v7 v8 v9 v10, e = .returned (.tuple #[.agg #[.int .i64 M.kind, .int .i64 M.vocab, .int .i64 M.width, .int .i64 M.top, v4, v5, v6, v7, v8, v9, v10], .int .i64 2, .int .i64 0]) ∧ MSl w' (fun g => w.heap.size ≤ g) M v4 v5 v6 v7 v8 v9 v10 ∧ Below w.heap.size w w' := by
  have hl : (fileM M).length = n := by have := hr.1; rw [bytes_length] at this; omega
  have hn7 : n = 7 + (modelBytes M).length := by rw [← hl]; exact fileM_length M
  have hp := modelBytes_pos M
  have hq := modelBytes_length M hM
  obtain ⟨p0, p1, p2, p3, hparts⟩ := fileM_parts M
  have hf : (leF ((fileM M).take 4) == codeF ((fileM M).drop 4)) = true := by
    have h1 : intactM (fileM M) := sealM_intact _
    unfold intactM at h1
    simpa using h1
  have hr' := hr.old
  have hi1 := fun o => intact_any (w.alloc o) T A c n (fileM M) (hr.alloc o) (by omega) (by omega) hc (fileM_bytes M)
  rw [hf] at hi1
  have HI := Lib.hid hi1
  obtain ⟨ad, rfl, hbz, hTb, hcell⟩ := hr'.2 (by omega)
  rw [hparts] at hcell
  have hcut := hr'.cut (k := 7) (cap := c) (by omega) hc
  rw [if_neg (by omega), Nat.mul_one, ← bytes_drop', fileM_drop, Option.map_some, show ad.add 7 = { block := ad.block, off := ad.off + 7 } from rfl] at hcut
  have d4 : w.cell? { block := ad.block, off := ad.off + 4 } = some (.int .u8 119) := hcell 4 _ rfl
  have d5 : w.cell? { block := ad.block, off := ad.off + 5 } = some (.int .u8 109) := hcell 5 _ rfl
  have d6 : w.cell? { block := ad.block, off := ad.off + 6 } = some (.int .u8 2) := hcell 6 _ rfl
  have hi27 : (Tryz.prog.info? 27).map (·.size) = some 11 := by kernel_rfl
  have h7n : 7 < n := by omega
  have h7c : 7 < c := by omega
  have HD4 := Lib.hid d4
  have HD5 := Lib.hid d5
  have HD6 := Lib.hid d6
  have HCUT := Lib.hid hcut
  have HMO := Lib.hid hM
  have hn1 : n ≤ 1000000 := by omega
  clear hr hr' hi1 hcell hcut d4 d5 d6 hparts hf hn7 hp hq hl hM hTb
  go_enter Tryz.func10, Tryz.ntmps10
  go_wp2_with fail
  refine (HI.out _).mono ?_
  rintro e w1 ⟨rfl, k, hw1⟩
  have kr : Blk w1 w.heap.size 27 #[.int .i64 0, .int .i64 0, .int .i64 0, .int .i64 0, .slice none 0 0, .slice none 0 0, .slice none 0 0, .slice none 0 0, .slice none 0 0, .slice none 0 0, .slice none 0 0] := by rw [hw1]; exact (Blk.new w 27 _).drewN k
  have hb : Below w.heap.size w w1 := by rw [hw1]; exact (((Keeps.refl (fun _ => False) w).alloc _).drewN k).to_below
  have d4 := (hb.cell (p := { block := ad.block, off := ad.off + 4 }) hbz).trans HD4.out
  have d5 := (hb.cell (p := { block := ad.block, off := ad.off + 5 }) hbz).trans HD5.out
  have d6 := (hb.cell (p := { block := ad.block, off := ad.off + 6 }) hbz).trans HD6.out
  have HPA := Lib.hid (parse_any w1 _ _ _ (c - 7) M (HCUT.out.fresh hb) (by omega) (by omega) (fun g (hg : g < w.heap.size) => Nat.lt_of_lt_of_le hg hb.size) HMO.out)
  have KR := Lib.hid kr
  have HB := Lib.hid hb
  clear kr hb hw1 HI HD4 HD5 HD6 HCUT
  go_wp2_with fail
  refine HPA.out.mono ?_
  rintro e w5 ⟨v4, v5, v6, v7, v8, v9, v10, rfl, hm, hb⟩
  obtain ⟨A4, N4, c4, rfl⟩ := hm.cuts.lit
  obtain ⟨A5, N5, c5, rfl⟩ := hm.embed.lit
  obtain ⟨A6, N6, c6, rfl⟩ := hm.place.lit
  obtain ⟨A7, N7, c7, rfl⟩ := hm.mix.lit
  obtain ⟨A8, N8, c8, rfl⟩ := hm.out.lit
  obtain ⟨A9, N9, c9, rfl⟩ := hm.soft.lit
  obtain ⟨A10, N10, c10, rfl⟩ := hm.odds.lit
  have HONE := Lib.hid hm.ones
  have HM := Lib.hid (hm.more (T' := fun g => w1.heap.size ≤ g ∧ g < w5.heap.size) (fun b hb ht => ⟨ht, hb⟩))
  have HB5 := Lib.hid ((Keeps.of_below HB.out (fun _ => False)).fresh hb)
  have HKR := Lib.hid (KR.out.below hb KR.out.lt)
  have hwz := HB.out.size
  have hw5z := hb.size
  have hrz := KR.out.lt
  clear hm hb d4 d5 d6 KR HB
  go_upto_region 11 with (fail)
  have q6 := Blk.new w5 27 #[.int .i64 M.kind, .int .i64 M.vocab, .int .i64 M.width, .int .i64 M.top, .slice A4 N4 c4, .slice A5 N5 c5, .slice A6 N6 c6, .slice A7 N7 c7, .slice A8 N8 c8, .slice A9 N9 c9, .slice A10 N10 c10]
  have k56 : Keeps (fun _ => False) w5 (w5.alloc (.cells #[.int .i64 M.kind, .int .i64 M.vocab, .int .i64 M.width, .int .i64 M.top, .slice A4 N4 c4, .slice A5 N5 c5, .slice A6 N6 c6, .slice A7 N7 c7, .slice A8 N8 c8, .slice A9 N9 c9, .slice A10 N10 c10] 27)) := (Keeps.refl (fun _ => False) w5).alloc _
  generalize (w5.alloc (.cells #[.int .i64 M.kind, .int .i64 M.vocab, .int .i64 M.width, .int .i64 M.top, .slice A4 N4 c4, .slice A5 N5 c5, .slice A6 N6 c6, .slice A7 N7 c7, .slice A8 N8 c8, .slice A9 N9 c9, .slice A10 N10 c10] 27)) = w6 at *
  have hz6 : w5.heap.size < w6.heap.size := q6.lt
  have hm6 := HM.out.keeps k56 (fun i _ h => h)
  have HCK := Lib.hid (checked_any w6 _ M _ _ _ _ _ _ _ hm6 HMO.out)
  have HM6 := Lib.hid hm6
  have HKR6 := Lib.hid (k56.blk HKR.out (fun h => h))
  have HB6 := Lib.hid (HB5.out.tr k56)
  have HQ6 := Lib.hid q6
  obtain ⟨m, hm⟩ : ∃ m, m = w5.heap.size := ⟨_, rfl⟩
  rw [← hm] at HQ6 HM6
  rw [← hm]
  have hmz : w.heap.size < m := by omega
  have hmz1 : w1.heap.size ≤ m := by omega
  clear q6 k56 hm6 hm HM HKR HB5
  go_upto_region 15 with (fail)
  go_wp2_with (first
    | (refine wpList_load_blk rfl 27 _ rfl m rfl 27 _ _ HQ6.out Tryz.underlying27 rfl hi27 ?_))
  refine HCK.out.mono ?_
  rintro e w7 ⟨rfl, hb7⟩
  have HKR7 := Lib.hid (HKR6.out.below hb7 HKR6.out.lt)
  have HB7 := Lib.hid (HB6.out.fresh hb7)
  have HM7 := Lib.hid (HM6.out.fresh hb7)
  have HQ7 := Lib.hid (HQ6.out.below hb7 HQ6.out.lt)
  clear hb7 HKR6 HB6 HM6 HQ6 HCK
  go_upto_region 18 with (first
    | (refine wpList_store_blk rfl 27 _ _ rfl m _ rfl rfl 27 _ HQ7.out hi27 rfl HONE.out ?_; intro w8 q8 k8))
  have HKR8 := Lib.hid (k8.blk HKR7.out (by omega))
  have HM8 := Lib.hid (HM7.out.keeps k8 (fun i hi e => by omega))
  have HB8 := Lib.hid (HB7.out.trans k8 (fun i hi h => by omega))
  have HQ8 := Lib.hid q8
  clear HKR7 HM7 HB7 HQ7 q8 k8
  go_wp2_with (first
    | (refine wpList_load_blk rfl 27 _ rfl m rfl 27 _ _ HQ8.out Tryz.underlying27 rfl hi27 ?_)
    | (refine wpList_store_blk rfl 27 _ _ rfl w.heap.size _ rfl rfl 27 _ HKR8.out hi27 rfl HONE.out ?_; intro w9 q9 k9))
  refine bodyPost_ret (v := .tuple #[.agg #[.int .i64 M.kind, .int .i64 M.vocab, .int .i64 M.width, .int .i64 M.top, .slice A4 N4 c4, .slice A5 N5 c5, .slice A6 N6 c6, .slice A7 N7 c7, .slice A8 N8 c8, .slice A9 N9 c9, .slice A10 N10 c10], .int .i64 2, .int .i64 0]) ?_ ?_ ?_
  · exact res_row_tmp2 (p := 2) (u := 3) (x := 4) (ty := 27) (fn := Tryz.f10) rfl _ _ w.heap.size 27 _ _ rfl q9 Tryz.underlying27 rfl hi27
  · rfl
  exact ⟨_, _, _, _, _, _, _, rfl, (HM8.out.keeps k9 (fun i hi e => by omega)).more (fun g _ h => by omega), (HB8.out.trans k9 (fun i hi h => by omega)).to_below⟩
end Go.Proofs.YtmlfgokbcafbkaaGreatDoor

namespace Go.Proofs.YtmlfgokbcafbkaaGreatDoor
open Go.RowKit

def szI (n k : Nat) (i : Nat) : Int := (sizeF n k i : Nat)
def szTo (n k m j : Nat) : List Int := ((List.range j).map (szI n k)) ++ List.replicate (m - j) 0
theorem szTo_length (n k m j : Nat) (h : j ≤ m) : (szTo n k m j).length = m := by simp [szTo]; omega
theorem szTo_step (n k m j : Nat) (h : j < m) : (szTo n k m j).set j (szI n k j) = szTo n k m (j + 1) := by
  have e : m - j = (m - (j + 1)) + 1 := by omega
  unfold szTo
  rw [e, List.replicate_succ, List.set_append_right _ _ (by simp)]
  simp [List.range_succ]
theorem szTo_full (n k m : Nat) : szTo n k m m = (List.range m).map (szI n k) := by simp [szTo]

set_option maxRecDepth 100000 in
set_option maxHeartbeats 1000000 in
theorem share_any (w : World) (n k : Nat) (hn : n ≤ 1000000) (hk0 : 1 ≤ k) (hk : k ≤ 64) :
    Calls Tryz.prog 26 #[.int .i64 n, .int .i64 k] w fun e w' => ∃ v, e = .returned (.tuple #[v, .int .i64 0]) ∧ Own w' (fun g => w.heap.size ≤ g) 3 1 v k (ints ((List.range k).map (szI n k))) ∧ Below w.heap.size w w' := by
  go_enter Tryz.func26, Tryz.ntmps26
  go_wp2_with (at_make; refine wpList_make_ints _ rfl _ _ rfl _ _ k rfl rfl rfl rfl (by omega) ?_; intro w1 hown hb1 hz1)
  have hk0' : Keeps (fun _ => False) w w1 := Keeps.of_below hb1 _
  clear hb1
  go_loopw [26] (fun i wr => ∃ j : Nat, j ≤ k ∧ i = .int .i64 j ∧ Own wr (fun g => g = w.heap.size) 3 1 (.slice (some ⟨w.heap.size, 0, none⟩) k k) k (ints (szTo n k k j)) ∧ Below w.heap.size w wr) (fun i _ => k - (intOf i).toNat)
  case atStart => exact ⟨0, by omega, rfl, by simpa [szTo] using hown, hk0'.to_below⟩
  clear hown hk0' hz1
  obtain ⟨j, hj, rfl, ho, hb⟩ := hrel
  by_cases hlt : j < k
  · have hf := ho.unfrozen j
    have hc := ho.get j hlt
    rw [ints_get _ j (by rw [szTo_length _ _ _ _ hj]; exact hlt)] at hc
    have hst := szTo_step n k k j hlt
    have hdv : n / k ≤ n := Nat.div_le_self n k
    have hdi : (n : Int) / (k : Int) = ((n / k : Nat) : Int) := (Int.natCast_ediv n k).symm
    have hq12 : wrap64 ((n : Int) / (k : Int)) = ((n / k : Nat) : Int) ∧ wrap64 (((n / k : Nat) : Int) + 1) = ((n / k : Nat) : Int) + 1 := by
      rw [hdi]
      generalize n / k = D at *
      exact ⟨IntWalk.wrap64_in _ ⟨by omega, by omega⟩, IntWalk.wrap64_in _ ⟨by omega, by omega⟩⟩
    obtain ⟨hq1, hq2⟩ := hq12
    clear hdi hdv
    have hfr : w.heap.size ≤ w.heap.size := Nat.le_refl _
    have HHO := Lib.hid ho
    have HB := Lib.hid hb
    have HST := Lib.hid hst
    have HQ1 := Lib.hid hq1
    have HQ2 := Lib.hid hq2
    by_cases hm : j < n % k
    · have hm1 : (j : Int) < (n : Int) % (k : Int) := by rw [← Int.natCast_emod]; omega
      have hsz : szI n k j = ((n / k : Nat) : Int) + 1 := by unfold szI sizeF; rw [if_pos hm]; omega
      have HSZ := Lib.hid hsz
      clear ho hb hst hq1 hq2 hsz hm
      go_wp2_with fail
      rw [HQ1.out, HQ2.out]
      go_roundw
      case rel => exact ⟨j + 1, by omega, by go_num, by
        have := (HHO.out.set j hlt (.int .i64 ((n / k : Nat) : Int))).set j hlt (.int .i64 (((n / k : Nat) : Int) + 1))
        rw [List.set_set, ← HSZ.out] at this
        rw [← HST.out, ← HSZ.out]
        simpa [ints, List.map_set] using this, (HB.out.setCell hfr _).setCell hfr _⟩
      case measure => simp [intOf]; omega
    · have hm1 : (n : Int) % (k : Int) ≤ (j : Int) := by rw [← Int.natCast_emod]; omega
      have hsz : szI n k j = ((n / k : Nat) : Int) := by unfold szI sizeF; rw [if_neg hm]; omega
      have HSZ := Lib.hid hsz
      clear ho hb hst hq1 hq2 hsz hm
      go_wp2_with fail
      rw [HQ1.out]
      go_roundw
      case rel => exact ⟨j + 1, by omega, by go_num, by
        have := HHO.out.set j hlt (.int .i64 ((n / k : Nat) : Int))
        rw [← HSZ.out] at this
        rw [← HST.out, ← HSZ.out]
        simpa [ints, List.map_set] using this, HB.out.setCell hfr _⟩
      case measure => simp [intOf]; omega
  · obtain rfl : j = k := by omega
    rw [szTo_full] at ho
    go_wp2_with fail
    go_ret2
    exact ⟨_, rfl, ho.more (fun g _ e => by subst e; exact Nat.le_refl _), hb⟩
end Go.Proofs.YtmlfgokbcafbkaaGreatDoor

namespace Go.Proofs.YtmlfgokbcafbkaaGreatDoor
open Go.RowKit

/-- The value v is a slice of bytes that reads as xs. -/
def Slb (w : World) (T : Nat → Prop) (v : Value) (xs : List Int) : Prop :=
  ∃ A c, v = .slice A xs.length c ∧ Reads w T 1 A xs.length (bytes xs) ∧ xs.length ≤ c ∧ c ≤ maxLen
/-- The values are slices of bytes that read as the lists. -/
def Shs (w : World) (T : Nat → Prop) (vs : List Value) (ls : List (List Int)) : Prop :=
  vs.length = ls.length ∧ ∀ i (h : i < ls.length), ∃ v, vs[i]? = some v ∧ Slb w T v ls[i]
section
variable {w w' : World} {T T' S : Nat → Prop} {v : Value} {xs : List Int} {vs : List Value} {ls : List (List Int)}
theorem Slb.keeps (h : Slb w T v xs) (hk : Keeps S w w') (hs : ∀ i, T i → ¬ S i) : Slb w' T v xs := by
  obtain ⟨A, c, h1, h2, h3⟩ := h
  exact ⟨A, c, h1, h2.keeps hk hs, h3⟩
theorem Slb.fresh (h : Slb w T v xs) (hk : Below w.heap.size w w') : Slb w' T v xs := by
  obtain ⟨A, c, h1, h2, h3⟩ := h
  exact ⟨A, c, h1, h2.fresh hk, h3⟩
theorem Slb.alloc (h : Slb w T v xs) (o : Obj) : Slb (w.alloc o) T v xs := by
  obtain ⟨A, c, h1, h2, h3⟩ := h
  exact ⟨A, c, h1, h2.alloc o, h3⟩
theorem Slb.more (h : Slb w T v xs) (hT : ∀ b, b < w.heap.size → T b → T' b) : Slb w T' v xs := by
  obtain ⟨A, c, h1, h2, h3⟩ := h
  exact ⟨A, c, h1, h2.more hT, h3⟩
theorem Slb.grown (h : Slb w T v xs) {row : Option Nat} (hg : w.grownBy w' row) (hr : ∀ g, row = some g → ¬ T g) : Slb w' T v xs := by
  obtain ⟨A, c, h1, h2, h3⟩ := h
  exact ⟨A, c, h1, h2.grown hg hr, h3⟩
theorem Slb.setCell (h : Slb w T v xs) {p : Addr} (hp : ¬ T p.block) (u : Value) : Slb (w.setCell p u) T v xs := by
  obtain ⟨A, c, h1, h2, h3⟩ := h
  exact ⟨A, c, h1, h2.setCell hp u, h3⟩
theorem Slb.drewN (h : Slb w T v xs) (k : Nat) : Slb (w.drewN k) T v xs := h
theorem Slb.one (h : Slb w T v xs) : v.oneCell' = true := by
  obtain ⟨A, c, rfl, _⟩ := h
  rfl
theorem Slb.of_own {e : TypeId} {n : Nat} (h : Own w T e 1 v n (bytes xs)) : Slb w T v xs := by
  obtain ⟨A, cap, rfl, h1, h2⟩ := h.shape
  have hn : n = xs.length := by have := h.length; rw [bytes_length] at this; omega
  subst hn
  exact ⟨A, cap, rfl, h.reads, h1, h2⟩
theorem Shs.map_ (h : Shs w T vs ls) (f : ∀ {v xs}, Slb w T v xs → Slb w' T' v xs) : Shs w' T' vs ls :=
  ⟨h.1, fun i hi => let ⟨v, h1, h2⟩ := h.2 i hi; ⟨v, h1, f h2⟩⟩
theorem Shs.keeps (h : Shs w T vs ls) (hk : Keeps S w w') (hs : ∀ i, T i → ¬ S i) : Shs w' T vs ls := h.map_ fun h => h.keeps hk hs
theorem Shs.fresh (h : Shs w T vs ls) (hk : Below w.heap.size w w') : Shs w' T vs ls := h.map_ fun h => h.fresh hk
theorem Shs.alloc (h : Shs w T vs ls) (o : Obj) : Shs (w.alloc o) T vs ls := h.map_ fun h => h.alloc o
theorem Shs.more (h : Shs w T vs ls) (hT : ∀ b, b < w.heap.size → T b → T' b) : Shs w T' vs ls := h.map_ fun h => h.more hT
theorem Shs.grown (h : Shs w T vs ls) {row : Option Nat} (hg : w.grownBy w' row) (hr : ∀ g, row = some g → ¬ T g) : Shs w' T vs ls := h.map_ fun h => h.grown hg hr
theorem Shs.nil_ (w : World) (T : Nat → Prop) : Shs w T [] [] := ⟨rfl, fun i h => absurd h (by simp)⟩
theorem Shs.snoc (h : Shs w T vs ls) (hv : Slb w T v xs) : Shs w T (vs ++ [v]) (ls ++ [xs]) := by
  refine ⟨by simp [h.1], fun i hi => ?_⟩
  by_cases hlt : i < ls.length
  · obtain ⟨u, h1, h2⟩ := h.2 i hlt
    exact ⟨u, by rw [List.getElem?_append_left (by rw [h.1]; exact hlt)]; exact h1, by rw [List.getElem_append_left hlt]; exact h2⟩
  · have he : i = ls.length := by simp at hi; omega
    subst he
    exact ⟨v, by rw [List.getElem?_append_right (by rw [h.1]; exact Nat.le_refl _)]; simp [h.1], by simp; exact hv⟩
theorem Shs.one (h : Shs w T vs ls) : ∀ u ∈ vs, u.oneCell' = true := by
  intro u hu
  obtain ⟨i, hi, rfl⟩ := List.mem_iff_getElem.1 hu
  obtain ⟨v', h1, h2⟩ := h.2 i (by rw [← h.1]; exact hi)
  rw [List.getElem?_eq_getElem hi] at h1
  injection h1 with h1
  rw [h1]; exact h2.one
end
/-- one slice more, appended to a row whose block holds none of them -/
theorem Shs.push {W w' : World} {B e size n : Nat} {v v' s : Value} {vs ys : List Value} {ls : List (List Int)} {xs : List Int} {o : Obj}
    (hr : Shs W (fun g => B ≤ g ∧ v.ownBlock ≠ some g) vs ls) (hs : Slb W (fun g => B ≤ g ∧ v.ownBlock ≠ some g) s xs) (happ : Appended (W.alloc o) w' (fun g => B ≤ g) e size v v' n ys) :
    Shs w' (fun g => B ≤ g ∧ v'.ownBlock ≠ some g) (vs ++ [s]) (ls ++ [xs]) := by
  have key := ((hr.snoc hs).more (T' := fun g => (B ≤ g ∧ v.ownBlock ≠ some g) ∧ g < W.heap.size) (fun g hg h => ⟨h, hg⟩))
  refine ((key.alloc o).grown happ.2.1 (fun g e h => h.1.2 e)).more (fun g _ h => ⟨h.1.1, fun e => ?_⟩)
  rcases happ.2.2 with h2 | h2
  · rw [h2] at e; exact h.1.2 e
  · rw [h2] at e
    injection e with e
    have := h.2
    simp at e
    omega

/-! ### the shards of bytes -/
theorem splits_get (ss : List Nat) : ∀ (b : List Int) (i : Nat) (h : i < ss.length), (splits ss b)[i]? = some ((b.drop (ss.take i).sum).take ss[i]) := by
  induction ss with
  | nil => intro b i h; simp at h
  | cons s ss ih =>
    intro b i h
    cases i with
    | zero => simp [splits]
    | succ i =>
      simp only [List.length_cons] at h
      show (splits ss (b.drop s))[i]? = _
      rw [ih _ i (by omega), List.take_succ_cons, List.sum_cons, List.drop_drop]
      rfl
def beforeF (n k i : Nat) : Nat := i * (n / k) + min i (n % k)
theorem before_succ (n k i : Nat) : beforeF n k (i + 1) = beforeF n k i + sizeF n k i := by
  unfold beforeF sizeF
  rw [Nat.succ_mul]
  split <;> omega
theorem before_full (n k : Nat) (hk : 1 ≤ k) : beforeF n k k = n := by
  unfold beforeF
  rw [Nat.min_eq_right (Nat.le_of_lt (Nat.mod_lt _ hk))]
  exact Nat.div_add_mod n k
theorem before_mono (n k i j : Nat) (h : i ≤ j) : beforeF n k i ≤ beforeF n k j := by
  unfold beforeF
  have := Nat.mul_le_mul_right (n / k) h
  omega
theorem before_le (n k i : Nat) (hk : 1 ≤ k) (h : i ≤ k) : beforeF n k i ≤ n := by
  have := before_mono n k i k h
  rw [before_full n k hk] at this
  exact this
/-- part i of bytes that are divided into k -/
def partF (b : List Int) (k i : Nat) : List Int := (b.drop (beforeF b.length k i)).take (sizeF b.length k i)
theorem partF_length (b : List Int) (k i : Nat) (hk : 1 ≤ k) (h : i < k) : (partF b k i).length = sizeF b.length k i := by
  unfold partF
  rw [List.length_take, List.length_drop]
  have h1 := before_le b.length k (i + 1) hk (by omega)
  rw [before_succ] at h1
  omega
theorem parts_join (b : List Int) (k : Nat) : ∀ i, ((List.range i).flatMap (partF b k)) = b.take (beforeF b.length k i) := by
  intro i
  induction i with
  | zero => simp [beforeF]
  | succ i ih =>
    rw [List.range_succ, List.flatMap_append, ih, before_succ, List.take_add]
    simp [partF]
theorem parts_all (b : List Int) (k : Nat) (hk : 1 ≤ k) : ((List.range k).flatMap (partF b k)) = b := by
  rw [parts_join, before_full _ _ hk, List.take_length]
def shardF (b : List Int) (k i : Nat) : List Int := shardM (codeF b) k i (partF b k i)
def shardsF (b : List Int) (k : Nat) : List (List Int) := (List.range k).map (shardF b k)
end Go.Proofs.YtmlfgokbcafbkaaGreatDoor

namespace Go.Proofs.YtmlfgokbcafbkaaGreatDoor
open Go.RowKit

theorem Own.below_ {w w' : World} {T : Nat → Prop} {e size n g cap B : Nat} {xs : List Value} (h : Own w T e size (.slice (some ⟨g, 0, none⟩) n cap) n xs) (hb : Below B w w') (hg : g < B) : Own w' T e size (.slice (some ⟨g, 0, none⟩) n cap) n xs := by
  refine ⟨⟨h.1.1, ?_⟩, h.2⟩
  rcases h.1.2 with h2 | ⟨g', cap', cur, hv, hg', hh, r⟩
  · exact .inl h2
  · have e : g = g' := by
      injection hv with hv
      injection hv with hv
      injection hv
    subst e
    exact .inr ⟨g, cap', cur, hv, hg', by rw [hb.block g hg]; exact hh, r⟩
theorem lit_reads (w : World) (t : TypeId) (xs : List Value) (n : Nat) (hn : n = xs.length) : Reads (w.alloc (.cells xs.toArray t)) (· = w.heap.size) 1 (some ⟨w.heap.size, 0, none⟩) n xs := by
  refine ⟨by simp [hn], fun _ => ⟨_, rfl, by simp, rfl, fun j u hu => ?_⟩⟩
  have h : Blk (w.alloc (.cells xs.toArray t)) w.heap.size t xs.toArray := Blk.new w t _
  rw [Addr.add_lit, h.cell]
  simpa using hu
theorem slices_info : (Tryz.prog.info? 34).map (fun i => (i.zero, i.size, i.bytes)) = some (some (.slice none 0 0), 1, 24) := by kernel_rfl
theorem shardF_eq (b : List Int) (k i : Nat) : shardF b k i = sealM ((([119, 115] ++ lowF (codeF b) 4) ++ [(i : Int), (k : Int)]) ++ partF b k i) := rfl
theorem u8_in (n : Int) (h0 : 0 ≤ n) (h1 : n ≤ 255) : IntKind.u8.wrap n = n := wraps_u8 n h0 (by omega)
set_option maxRecDepth 100000 in
set_option maxHeartbeats 1000000 in
theorem shards_any (w : World) (T : Nat → Prop) (M : Model) (v4 v5 v6 v7 v8 v9 v10 : Value) (h : MSl w T M v4 v5 v6 v7 v8 v9 v10) (hM : M.Ok) (k : Nat) (hk0 : 1 ≤ k) (hk : k ≤ 64) :
    Calls Tryz.prog 6 #[.agg #[.int .i64 M.kind, .int .i64 M.vocab, .int .i64 M.width, .int .i64 M.top, v4, v5, v6, v7, v8, v9, v10], .int .i64 k] w fun e w' => ∃ v vs, e = .returned (.tuple #[v, .int .i64 0]) ∧ Own w' (fun g => w.heap.size ≤ g) 34 1 v k vs ∧ Shs w' (fun g => w.heap.size ≤ g ∧ v.ownBlock ≠ some g) vs (shardsF (modelBytes M) k) ∧ Below w.heap.size w w' := by
  obtain ⟨i0, hi, hz0, hz1, hz2⟩ := info_parts u8_info
  obtain ⟨j0, hj0, yz0, yz1, yz2⟩ := info_parts slices_info
  have hi27 : (Tryz.prog.info? 27).map (·.size) = some 11 := by kernel_rfl
  have HMS := Lib.hid h.old
  have HMO := Lib.hid hM
  have hln := modelBytes_length M hM
  have hlp := modelBytes_pos M
  clear h hM
  go_enter Tryz.func6, Tryz.ntmps6
  go_upto_region 1 with (fail)
  have kb := Blk.new w 27 #[.int .i64 M.kind, .int .i64 M.vocab, .int .i64 M.width, .int .i64 M.top, v4, v5, v6, v7, v8, v9, v10]
  have hb0 := (Below.refl w.heap.size w).alloc (Nat.le_refl _) (.cells #[.int .i64 M.kind, .int .i64 M.vocab, .int .i64 M.width, .int .i64 M.top, v4, v5, v6, v7, v8, v9, v10] 27)
  generalize (w.alloc (.cells #[.int .i64 M.kind, .int .i64 M.vocab, .int .i64 M.width, .int .i64 M.top, v4, v5, v6, v7, v8, v9, v10] 27)) = W at *
  obtain ⟨b, hb⟩ : ∃ g, g = w.heap.size := ⟨_, rfl⟩
  rw [← hb] at kb
  rw [← hb]
  have HC := Lib.hid (MSl.checkedOk W (HMS.out.fresh hb0) HMO.out)
  have KB := Lib.hid kb
  have HB0 := Lib.hid hb0
  have HB := Lib.hid hb
  clear kb hb0 hb
  go_wp2_with (first
    | (refine wpList_load_blk rfl 27 _ rfl b rfl 27 _ _ KB.out Tryz.underlying27 rfl hi27 ?_))
  refine HC.out.mono ?_
  rintro e w1 ⟨rfl, hb1⟩
  have HB1 := Lib.hid ((Keeps.of_below HB0.out (fun _ => False)).fresh hb1)
  have KB1 := Lib.hid (KB.out.below hb1 KB.out.lt)
  have HM1 := Lib.hid ((HMS.out.fresh HB0.out).fresh hb1)
  clear hb1 HC KB
  go_wp2_with fail
  refine (within_yes _ _ _ _ (by omega) (by omega)).mono ?_
  rintro e w' ⟨rfl, rfl⟩
  go_wp2_with (first
    | (refine wpList_load_blk rfl 27 _ rfl b rfl 27 _ _ KB1.out Tryz.underlying27 rfl hi27 ?_))
  refine (bytesOf_any _ _ M _ _ _ _ _ _ _ HM1.out HMO.out).mono ?_
  rintro e w3 ⟨v, rfl, ho, hb⟩
  obtain ⟨A, cap, rfl, hc1, hc2⟩ := ho.shape
  obtain ⟨ad, rfl, -⟩ := ho.reads.2 (by omega)
  have hx := modelBytes_bytes M
  have HSF : Hid (∀ i, (shardF (modelBytes M) k i) = sealM ((([119, 115] ++ lowF (codeF (modelBytes M)) 4) ++ [(i : Int), (k : Int)]) ++ partF (modelBytes M) k i)) := Lib.hid (fun i => rfl)
  obtain ⟨mb, hmb⟩ : ∃ m, m = modelBytes M := ⟨_, rfl⟩
  rw [← hmb] at ho hc1 hln hlp hx HSF
  rw [← hmb]
  have HR := Lib.hid ho.reads
  have HO := Lib.hid ho
  have HB3 := Lib.hid (HB1.out.fresh hb)
  have HX := Lib.hid hx
  have HCODE := Lib.hid (code_any w3 _ _ cap mb ho.reads (by omega) hx)
  obtain ⟨y1, y2⟩ := codeF_in mb
  obtain ⟨cf, hcf⟩ : ∃ c, c = codeF mb := ⟨_, rfl⟩
  rw [← hcf] at HCODE HSF y1 y2
  obtain ⟨N, hN⟩ : ∃ N, N = mb.length := ⟨_, rfl⟩
  rw [← hN] at HCODE HR HO hc1 hln hlp ⊢
  have hwz1 := HB1.out.size
  have HNN := Lib.hid hN
  have HSH := Lib.hid (share_any w3 N k (by omega) hk0 hk)
  have HMB := Lib.hid hmb
  clear ho hb hx hmb KB1 HM1 hcf HB1 hN
  go_wp2_with fail
  refine HCODE.out.mono ?_
  rintro e w' ⟨rfl, rfl⟩
  go_wp2_with fail
  refine HSH.out.mono ?_
  rintro e w4 ⟨sv, rfl, hso, hb4⟩
  obtain ⟨sg, sc, rfl, -, -, hsg, hsw⟩ := hso.form (by omega)
  have HSO := Lib.hid hso
  have HB4 := Lib.hid (HB3.out.fresh hb4)
  have hr4 := (HR.out.fresh hb4).more (T' := fun g => g < w4.heap.size) (fun g hg _ => hg)
  have HR4 := Lib.hid hr4
  have hz4 := hb4.size
  have hz3 := HB3.out.size
  have hr0 : Reads w4 (fun g => g < w4.heap.size) 1 (some ad) N (bytes (mb.drop (beforeF N k 0))) := by
    rw [show beforeF N k 0 = 0 by simp [beforeF], List.drop_zero]; exact hr4
  have HR0 := Lib.hid hr0
  have hb00 : N = N - beforeF N k 0 := by simp [beforeF]
  have HB00 := Lib.hid hb00
  clear hso hb4 hr4 hr0 hb00 HO HR HB3 HSH HCODE
  go_wp2_with fail
  go_loopw [7, 11, 36] (fun bv ov i wr => ∃ (j : Nat) (B : Addr) (m c : Nat) (vs : List Value), j ≤ k ∧ i = .int .i64 j ∧ bv = .slice (some B) m c ∧ Hid (m = N - beforeF N k j) ∧ m ≤ c ∧ c ≤ maxLen ∧ Reads wr (fun g => g < w4.heap.size) 1 (some B) m (bytes (mb.drop (beforeF N k j))) ∧ Own wr (fun g => w4.heap.size ≤ g) 34 1 ov j vs ∧ Shs wr (fun g => w4.heap.size ≤ g ∧ ov.ownBlock ≠ some g) vs ((List.range j).map (shardF mb k)) ∧ Below w4.heap.size w4 wr) (fun _ _ i _ => k - (intOf i).toNat)
  case atStart => exact ⟨0, ad, N, cap, [], by omega, rfl, rfl, HB00.out, by omega, by omega, HR0.out, Own.nil_ _ _ _ _, Shs.nil_ _ _, Below.refl _ _⟩
  clear HR0 HB00 HR4
  obtain ⟨j, B, m, c, vs, hj, rfl, rfl, HMM, hmc, hcm, hrd, hov, hshs, hbel⟩ := hrel
  by_cases hlt : j < k
  · have hso5 := HSO.out.below_ hbel hsg
    have hsz := hso5.get j hlt
    rw [ints_get _ j (by simp; exact hlt)] at hsz
    simp only [List.getElem_map, List.getElem_range] at hsz
    unfold szI at hsz
    obtain ⟨s, hs⟩ : ∃ s, s = sizeF N k j := ⟨_, rfl⟩
    rw [← hs] at hsz
    have hsm : s ≤ m := by
      have h1 := before_le N k (j + 1) hk0 (by omega)
      have h2 := HMM.out
      rw [before_succ] at h1
      omega
    have HSS := Lib.hid hs
    have HRD := Lib.hid hrd
    have HOV := Lib.hid hov
    have HSHS := Lib.hid hshs
    have HBEL := Lib.hid hbel
    have hwz := hbel.size
    have hm1 : m ≤ N := by have := HMM.out; omega
    clear hs hrd hov hshs hbel hso5
    go_wp2_with fail
    refine (number4_any _ cf y1 y2).mono ?_
    rintro e w5 ⟨v5', rfl, ho5, hb5⟩
    obtain ⟨A5, c5, rfl, -, -⟩ := ho5.shape
    have hl0 : Own (wr.alloc (.cells #[.int .u8 119, .int .u8 115] 5)) (fun g => wr.heap.size ≤ g) 5 1 (.slice (some ⟨wr.heap.size, 0, none⟩) 2 2) 2 (bytes [119, 115]) := own_lit wr _ 5 (bytes [119, 115]) 2 (by decide) rfl (Nat.le_refl _)
    have HL0 := Lib.hid (hl0.fresh hb5)
    have HR5 := Lib.hid ho5.reads
    have HB5 := Lib.hid (((Keeps.refl (fun _ => False) wr).alloc (.cells #[.int .u8 119, .int .u8 115] 5)).fresh hb5)
    clear hl0 ho5 hb5
    go_upto_region 14 with (at_builtin; go_must (refine wpList_append_any _ rfl _ _ 34 rfl 5 i0 _ 1 1 Tryz.underlying34 hi hz0 hz1 hz2 rfl (by omega) _ _ _ rfl HL0.out _ 4 c5 _ rfl HR5.out (bytes_one _) (by unfold maxLen; omega) (by omega) ?_); intro v6 w6 happ6)
    obtain ⟨o6, b6⟩ := appBelow happ6 (B := wr.heap.size) HB5.out.size (fun g hg => HL0.out.2 g hg)
    have HB6 := Lib.hid (HB5.out.below b6 (fun i hi h => by omega))
    have HO6 := Lib.hid o6
    clear happ6 o6 b6 HB5 HR5 HL0
    have hj64 : j ≤ 63 := by omega
    have hju := u8_in j (by omega) (by omega)
    have hku := u8_in k (by omega) (by omega)
    go_upto_region 15 with (at_builtin; go_must (refine wpList_append_any _ rfl _ _ 34 rfl 5 i0 _ 1 1 Tryz.underlying34 hi hz0 hz1 hz2 rfl (by omega) v6 _ _ rfl (HO6.out.alloc _) _ 2 2 _ rfl (bytes_new _ _ [(j : Int), (k : Int)] 2 rfl) (bytes_one _) (by unfold maxLen; omega) (by omega) ?_); intro v7 w7 happ7)
    obtain ⟨o7, b7⟩ := appBelow happ7 (B := wr.heap.size) (Nat.le_trans HB6.out.size (by simp)) (fun g hg => HO6.out.2 g hg)
    have HB7 := Lib.hid ((HB6.out.alloc _).below b7 (fun i hi h => by omega))
    have HO7 := Lib.hid o7
    have hp7 := ((HRD.out.take hsm).keeps HB7.out (fun i _ h => h))
    rw [Nat.mul_one] at hp7
    have hpt : (bytes (mb.drop (beforeF N k j))).take s = bytes (partF mb k j) := by
      unfold partF
      rw [← HNN.out, ← HSS.out]
      simp [bytes, List.map_take]
    rw [hpt] at hp7
    have HP7 := Lib.hid hp7
    clear happ7 o7 b7 HB6 HO6 hju hku hp7 hpt
    go_wp2_with (at_builtin; go_must (refine wpList_append_any _ rfl _ _ 34 rfl 5 i0 _ 1 1 Tryz.underlying34 hi hz0 hz1 hz2 rfl (by omega) v7 _ _ rfl HO7.out _ s c _ rfl HP7.out (bytes_one _) (by unfold maxLen; omega) (by omega) ?_); intro v8 w8 happ8)
    obtain ⟨o8, b8⟩ := appBelow happ8 (B := wr.heap.size) HB7.out.size (fun g hg => HO7.out.2 g hg)
    obtain ⟨A8, c8, rfl, -, -⟩ := o8.shape
    have hrd8 := o8.reads
    have hbe : bytes [119, 115] ++ bytes (lowF cf 4) ++ bytes [(j : Int), (k : Int)] ++ bytes (partF mb k j) = bytes ((([119, 115] ++ lowF cf 4) ++ [(j : Int), (k : Int)]) ++ partF mb k j) := by
      simp only [bytes_append]
    have hlen : ((([119, 115] ++ lowF cf 4) ++ [(j : Int), (k : Int)]) ++ partF mb k j).length = 2 + 4 + 2 + s := by
      have h1 := partF_length mb k j hk0 hlt
      rw [← HNN.out, ← HSS.out] at h1
      simp only [List.length_append, lowF_length, h1, List.length_cons, List.length_nil]
    have hpb : isBytes (partF mb k j) := fun x hx => HX.out x (List.mem_of_mem_drop (List.mem_of_mem_take hx))
    have hby : isBytes ((([119, 115] ++ lowF cf 4) ++ [(j : Int), (k : Int)]) ++ partF mb k j) :=
      isBytes_append (isBytes_append (isBytes_append (by intro x hx; simp at hx; omega) (lowF_bytes _ _)) (by intro x hx; simp at hx; omega)) hpb
    rw [hbe] at hrd8
    have hsl := mseal_any w8 _ A8 c8 _ (by rw [hlen]; exact hrd8) (by rw [hlen]; omega) hby
    rw [hlen, ← HSF.out j] at hsl
    have HSL := Lib.hid hsl
    have HB8 := Lib.hid (HB7.out.below b8 (fun i hi h => by omega))
    clear happ8 o8 b8 hrd8 hbe hlen hpb hby hsl HB7 HO7 HP7
    refine HSL.out.mono ?_
    rintro e w9 ⟨v9', rfl, ho9, hb9⟩
    obtain ⟨A9, c9, hv9, -, -⟩ := ho9.shape
    obtain ⟨n9, hn9⟩ : ∃ n, n = 4 + (2 + 4 + 2 + s) := ⟨_, rfl⟩
    rw [← hn9] at hv9
    have HB9 := Lib.hid (HB8.out.fresh hb9)
    have hz8 := HB8.out.size
    have hsb : Slb w9 (fun g => w4.heap.size ≤ g ∧ u11.ownBlock ≠ some g) v9' (shardF mb k j) := (Slb.of_own ho9).more (fun g _ h => ⟨by omega, fun e => by have := HOV.out.lt e; omega⟩)
    have HSB := Lib.hid hsb
    have HOV9 := Lib.hid (HOV.out.keeps HB9.out (fun i _ h => h))
    have HSHS9 := Lib.hid (HSHS.out.keeps HB9.out (fun i _ h => h))
    have HRD9 := Lib.hid (HRD.out.keeps HB9.out (fun i _ h => h))
    have hz9 := HB9.out.size
    have hone : ∀ u ∈ [v9'], u.oneCell' = true := by intro u hu; simp at hu; rw [hu]; exact hsb.one
    have HONE := Lib.hid hone
    clear ho9 hb9 hsb hone HSL HB8 hsz hn9
    subst hv9
    go_upto_region 16 with (at_builtin; go_must (refine wpList_append_any _ rfl _ _ 30 rfl 34 j0 _ 1 24 Tryz.underlying30 hj0 yz0 yz1 yz2 rfl (by omega) u11 _ _ rfl (HOV9.out.alloc _) _ 1 1 _ rfl (lit_reads _ _ [.slice A9 n9 c9] 1 rfl) HONE.out (by unfold maxLen; omega) (by omega) ?_); intro v10' w10 happ10)
    obtain ⟨o10, b10⟩ := appBelow happ10 (B := w4.heap.size) (by simp; omega) (fun g hg => HOV9.out.2 g hg)
    have hshs10 := Shs.push HSHS9.out HSB.out happ10
    have hbel10 : Below w4.heap.size w4 w10 := ((((Keeps.of_below HBEL.out (fun _ => False)).tr HB9.out).alloc _).below b10 (fun i hi h => by omega)).to_below
    have hrd10 := (HRD9.out.alloc (.cells #[.slice A9 n9 c9] 34)).keep b10.size fun q _ ht => b10.cell ht
    have hcut := hrd10.cut (k := s) (cap := c) hsm hmc
    have hdr : (bytes (mb.drop (beforeF N k j))).drop (s * 1) = bytes (mb.drop (beforeF N k (j + 1))) := by
      rw [before_succ, ← HSS.out, ← bytes_drop', List.drop_drop, Nat.mul_one]
    rw [hdr, Nat.mul_one, Option.map_some] at hcut
    have HO10 := Lib.hid o10
    have HSHS10 := Lib.hid hshs10
    have HBEL10 := Lib.hid hbel10
    have hmm : m - s = N - beforeF N k (j + 1) := by rw [before_succ, ← HSS.out, HMM.out]; omega
    have HMM1 := Lib.hid hmm
    have hrange : (List.range j).map (shardF mb k) ++ [shardF mb k j] = (List.range (j + 1)).map (shardF mb k) := by rw [List.range_succ, List.map_append]; rfl
    have HRG := Lib.hid hrange
    clear o10 b10 hshs10 hbel10 hrd10 hdr hmm happ10 HOV9 HSHS9 HRD9 HSB HONE HB9 HOV HSHS HRD HBEL hrange
    by_cases hcs : c = s
    · rw [if_pos hcs] at hcut
      obtain rfl : m = c := by omega
      subst hcs
      have HCUT := Lib.hid hcut
      clear hcut
      go_wp2_with fail
      go_roundw
      case rel => exact ⟨j + 1, B, 0, 0, _, by omega, by go_num, rfl, (show 0 = N - beforeF N k (j + 1) by have := HMM1.out; omega), by omega, by omega, by simpa using HCUT.out, HO10.out, by rw [← HRG.out]; exact HSHS10.out, HBEL10.out⟩
      case measure => simp [intOf]; omega
    · rw [if_neg hcs] at hcut
      have HCUT := Lib.hid hcut
      clear hcut
      have hcs2 : s < c := by omega
      go_wp2_with fail
      go_roundw
      case rel => exact ⟨j + 1, _, m - s, c - s, _, by omega, by go_num, rfl, HMM1.out, by omega, by omega, HCUT.out, HO10.out, by rw [← HRG.out]; exact HSHS10.out, HBEL10.out⟩
      case measure => simp [intOf]; omega
  · obtain rfl : j = k := by omega
    have HOV := Lib.hid hov
    have HSHS := Lib.hid hshs
    have HBEL := Lib.hid hbel
    clear hrd hov hshs hbel
    go_wp2_with fail
    go_ret2
    unfold shardsF
    rw [← HMB.out]
    have h1 := HOV.out.more (T' := fun g => w.heap.size ≤ g) (fun g _ h => by omega)
    have h2 := HSHS.out.more (T' := fun g => w.heap.size ≤ g ∧ u11.ownBlock ≠ some g) (fun g _ h => ⟨by omega, h.2⟩)
    exact ⟨_, vs, rfl, h1, h2, (HB4.out.fresh HBEL.out).to_below⟩
end Go.Proofs.YtmlfgokbcafbkaaGreatDoor

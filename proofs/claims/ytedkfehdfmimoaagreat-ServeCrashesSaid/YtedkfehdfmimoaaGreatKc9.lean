/- bytes.Equal. -/
import Derived.Test.YtedkfehdfmimoaaGreatKc8
import Derived.Laws.BytesArg
namespace Go.Proofs.YtedkfehdfmimoaaGreat
open Go.RowKit

theorem reads_load (w : World) (T : Nat → Prop) (ad : Addr) (xs : List Int) (hr : Reads w T 1 (some ad) xs.length (bytes xs)) : (loadCells ad xs.length).run Tryz.prog w = .ok (xs.map (Value.int .u8)).toArray w := by
  have h := run_loadCells_list (P := Tryz.prog) w ad (xs.map (Value.int .u8)) (fun j v hj => by
    rcases Nat.eq_zero_or_pos xs.length with h0 | h0
    · rw [List.eq_nil_of_length_eq_zero h0] at hj; cases hj
    · obtain ⟨ad', e, -, -, hc⟩ := hr.2 h0
      injection e with e
      subst e
      exact hc j v hj)
  simpa using h
theorem reads_conv (w : World) (T : Nat → Prop) (A : Option Addr) (c : Nat) (xs : List Int) (hr : Reads w T 1 A xs.length (bytes xs)) : (convert 56 9 (.slice A xs.length c)).run Tryz.prog w = .ok (.string (strOfNums xs)) w := by
  rcases A with _ | ad
  · have h0 : xs = [] := by
      rcases Nat.eq_zero_or_pos xs.length with h0 | h0
      · exact List.eq_nil_of_length_eq_zero h0
      · obtain ⟨ad', e, -⟩ := hr.2 h0
        cases e
    subst h0
    exact run_convert_bytes_nil w 56 5 Tryz.underlying56 Tryz.underlying5 _ _ _ Tryz.underlying9
  · rw [run_convert_bytes_string w 56 9 5 _ _ c Tryz.underlying56 Tryz.underlying5 Tryz.underlying9, run_bytesToString w _ _ c xs (reads_load w T ad xs hr), foldl_push_bytes]
    simp [strOfNums, ByteArray.empty, ByteArray.emptyWithCapacity]
    rfl
theorem strOfNums_inj {xs ys : List Int} (hx : isBytes xs) (hy : isBytes ys) (h : strOfNums xs = strOfNums ys) : xs = ys := by
  have h1 : (strOfNums xs).data.toList = (strOfNums ys).data.toList := by rw [h]
  rw [strOfNums_data, strOfNums_data] at h1
  clear h
  induction xs generalizing ys with
  | nil => cases ys with
    | nil => rfl
    | cons y ys => cases h1
  | cons x xs ih => cases ys with
    | nil => cases h1
    | cons y ys =>
      simp only [List.map_cons, List.cons.injEq] at h1
      have hx0 := hx x List.mem_cons_self
      have hy0 := hy y List.mem_cons_self
      have h2 := congrArg UInt8.toNat h1.1
      simp only [UInt8.toNat_ofNat'] at h2
      have e : x = y := by omega
      rw [e, ih (fun z hz => hx z (List.mem_cons_of_mem _ hz)) (fun z hz => hy z (List.mem_cons_of_mem _ hz)) h1.2]

set_option maxRecDepth 100000 in
set_option maxHeartbeats 1000000 in
theorem bequal_any (w : World) (T T' : Nat → Prop) (A B : Option Addr) (c d : Nat) (xs ys : List Int) (hx : Reads w T 1 A xs.length (bytes xs)) (hy : Reads w T' 1 B ys.length (bytes ys))
    (hbx : isBytes xs) (hby : isBytes ys) :
    Calls Tryz.prog 50 #[.slice A xs.length c, .slice B ys.length d] w fun e w' => e = .returned (.bool (decide (xs = ys))) ∧ w = w' := by
  have h1 := reads_conv w T A c xs hx
  have h2 := reads_conv w T' B d ys hy
  have HI := Lib.hid (fun h => strOfNums_inj hbx hby h)
  clear hx hy hbx hby
  go_enter Tryz.func50, Tryz.ntmps50
  go_wp2_with fail
  go_ret
  refine ⟨?_, rfl⟩
  refine congrArg (fun b => Ending.returned (.bool b)) ?_
  by_cases e : xs = ys
  · subst e; simp
  · rw [decide_eq_false e]
    simp only [beq_eq_false_iff_ne, ne_eq]
    intro h
    refine e (HI.out (ByteArray.ext ?_))
    rw [← Array.toList_inj, ← ByteArray.toList_eq, ← ByteArray.toList_eq]
    exact h
end Go.Proofs.YtedkfehdfmimoaaGreat

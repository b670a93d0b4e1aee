/- num.Code. -/
import Derived.Test.YtmlfgokbcafbkaaGreatDoorTk6
import Derived.Laws.Closers25b
namespace Go.Proofs.YtmlfgokbcafbkaaGreatDoor
open Go.RowKit

def codeStep (r : Int) : Int := if bits .and .u32 r 1 = 1 then bits .xor .u32 (r / 2) 3988292384 else r / 2
def codeSteps : Nat → Int → Int
  | 0, r => r
  | n + 1, r => codeStep (codeSteps n r)
def codeByte (r x : Int) : Int := codeSteps 8 (bits .xor .u32 r x)
def codeTo (l : List Int) (k : Nat) : Int := (l.take k).foldl codeByte 4294967295
theorem codeTo_succ (l : List Int) (k : Nat) (h : k < l.length) : codeTo l (k + 1) = codeByte (codeTo l k) l[k] := by
  unfold codeTo
  rw [List.take_succ_eq_append_getElem h, List.foldl_append]
  rfl
def isU32 (r : Int) : Prop := 0 ≤ r ∧ r ≤ 4294967295
theorem codeStep_in (r : Int) (h : isU32 r) : isU32 (codeStep r) := by
  unfold codeStep isU32 at *
  split
  · exact ⟨bits_lo_u32 _ _ _, bits_hi_u32 _ _ _⟩
  · omega
theorem codeSteps_in (n : Nat) (r : Int) (h : isU32 r) : isU32 (codeSteps n r) := by
  induction n with
  | zero => exact h
  | succ n ih => exact codeStep_in _ ih
theorem codeByte_in (r x : Int) : isU32 (codeByte r x) := codeSteps_in 8 _ ⟨bits_lo_u32 _ _ _, bits_hi_u32 _ _ _⟩
theorem codeTo_in (l : List Int) (k : Nat) : isU32 (codeTo l k) := by
  unfold codeTo
  have key : ∀ (l : List Int) (r : Int), isU32 r → isU32 (l.foldl codeByte r) := by
    intro l
    induction l with
    | nil => exact fun r h => h
    | cons x l ih => exact fun r _ => ih _ (codeByte_in r x)
  exact key _ _ ⟨by decide, by decide⟩
def codeF (l : List Int) : Int := bits .xor .u32 IntKind.u32.max (codeTo l l.length)
theorem codeF_in (l : List Int) : isU32 (codeF l) := ⟨bits_lo_u32 _ _ _, bits_hi_u32 _ _ _⟩
def isBytes (l : List Int) : Prop := inRange 0 255 l

set_option maxRecDepth 100000 in
set_option maxHeartbeats 1000000 in
theorem code_any (w : World) (T : Nat → Prop) (A : Option Addr) (c : Nat) (xs : List Int) (hr : Reads w T 1 A xs.length (bytes xs)) (hn : xs.length ≤ 1000000000) (hx : isBytes xs) :
    Calls Tryz.prog 25 #[.slice A xs.length c] w fun e w' => e = .returned (.int .i64 (codeF xs)) ∧ w = w' := by
  obtain ⟨n, hnl⟩ : ∃ n, n = xs.length := ⟨_, rfl⟩
  have HX := Lib.hid hx
  have HN := Lib.hid hnl
  rw [← hnl] at hr hn ⊢
  clear hx hnl
  go_enter Tryz.func25, Tryz.ntmps25
  go_wp2_with fail
  go_loop [3, 8] (fun r i => ∃ k : Nat, k ≤ n ∧ r = .int .u32 (codeTo xs k) ∧ i = .int .i64 k) (fun _ i => n - (intOf i).toNat)
  case atStart => exact ⟨0, Nat.zero_le _, rfl, rfl⟩
  case round =>
    obtain ⟨k, hk, rfl, rfl⟩ := hrel
    by_cases hlt : k < n
    · obtain ⟨ad, u, rfl, _, _, hu, hc⟩ := hr.at_ hlt
      have hll : k < xs.length := by rw [← HN.out]; exact hlt
      rw [bytes_get xs _ hll] at hu
      injection hu with hu
      subst hu
      have HT := Lib.hid (codeTo_succ xs k hll)
      obtain ⟨x1, x2⟩ := HX.out _ (List.getElem_mem hll)
      obtain ⟨y1, y2⟩ := codeTo_in xs k
      generalize xs[k] = x at *
      generalize codeTo xs k = r at *
      go_wp2_with fail
      go_loop [3, 16] (fun r' i => ∃ j : Nat, j ≤ 8 ∧ r' = .int .u32 (codeSteps j (bits .xor .u32 r x)) ∧ i = .int .i64 j) (fun _ i => 8 - (intOf i).toNat)
      case atStart => exact ⟨0, Nat.zero_le _, rfl, rfl⟩
      case round =>
        obtain ⟨j, hj, rfl, rfl⟩ := hrel
        by_cases hlt2 : j < 8
        · have hs : codeSteps (j + 1) (bits .xor .u32 r x) = codeStep (codeSteps j (bits .xor .u32 r x)) := rfl
          obtain ⟨y3, y4⟩ := codeSteps_in j (bits .xor .u32 r x) ⟨bits_lo_u32 _ _ _, bits_hi_u32 _ _ _⟩
          generalize codeSteps j (bits .xor .u32 r x) = q at *
          unfold codeStep at hs
          have HS := Lib.hid hs
          clear hs
          by_cases hb : bits .and .u32 q 1 = 1
          · go_wp2_with fail
            go_round
            case rel => exact ⟨j + 1, by omega, by rw [HS.out, if_pos hb], by go_num⟩
            case measure => simp [intOf]; omega
          · go_wp2_with fail
            go_round
            case rel => exact ⟨j + 1, by omega, by rw [HS.out, if_neg hb], by go_num⟩
            case measure => simp [intOf]; omega
        · obtain rfl : j = 8 := by omega
          go_wp2_with fail
          go_round
          case rel => exact ⟨k + 1, by omega, by rw [HT.out]; rfl, by go_num⟩
          case measure => simp [intOf]; omega
    · obtain rfl : k = n := by omega
      have hin := codeTo_in xs k
      have HC : RowKit.Hid (codeF xs = bits .xor .u32 IntKind.u32.max (codeTo xs k)) := by rw [HN.out]; exact Lib.hid rfl
      generalize codeTo xs k = r at *
      obtain ⟨y1, y2⟩ := hin
      have hsg : IntKind.u32.signed = false := rfl
      go_wp2_with fail
      go_ret
      have h1 := bits_lo_u32 .xor IntKind.u32.max r
      have h2 := bits_hi_u32 .xor IntKind.u32.max r
      refine ⟨?_, rfl⟩
      rw [HC.out]
      generalize bits .xor .u32 IntKind.u32.max r = z at *
      have : wrap64 z = z := IntWalk.wrap64_in _ ⟨by omega, by omega⟩
      exact congrArg (fun z => Ending.returned (.int .i64 z)) this
end Go.Proofs.YtmlfgokbcafbkaaGreatDoor

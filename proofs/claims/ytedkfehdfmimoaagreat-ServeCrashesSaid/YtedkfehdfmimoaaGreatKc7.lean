/- num.Code. sealed, body. -/
import Derived.Test.YtedkfehdfmimoaaGreatKc6
import Derived.Laws.Closers25b
namespace Go.Proofs.YtedkfehdfmimoaaGreat
open Go.RowKit

def codeStep (r : Int) : Int := if bits .and .u32 r 1 = 1 then bits .xor .u32 (r / 2) 3988292384 else r / 2
def codeSteps : Nat → Int → Int
  | 0, r => r
  | n + 1, r => codeStep (codeSteps n r)
def codeByte (r x : Int) : Int := codeSteps 8 (bits .xor .u32 r x)
def codeTo (l : List Int) (k : Nat) : Int := (l.take k).foldl codeByte 4294967295
theorem codeTo_succ (l : List Int) (k : Nat) (h : k < l.length) : codeTo l (k + 1) = codeByte (codeTo l k) l[k] := by
  unfold codeTo
  rw [List.take_succ_eq_append_getElem h, List.foldl_append]
  rfl
def isU32 (r : Int) : Prop := 0 ≤ r ∧ r ≤ 4294967295
theorem codeStep_in (r : Int) (h : isU32 r) : isU32 (codeStep r) := by
  unfold codeStep isU32 at *
  split
  · exact ⟨bits_lo_u32 _ _ _, bits_hi_u32 _ _ _⟩
  · omega
theorem codeSteps_in (n : Nat) (r : Int) (h : isU32 r) : isU32 (codeSteps n r) := by
  induction n with
  | zero => exact h
  | succ n ih => exact codeStep_in _ ih
theorem codeByte_in (r x : Int) : isU32 (codeByte r x) := codeSteps_in 8 _ ⟨bits_lo_u32 _ _ _, bits_hi_u32 _ _ _⟩
theorem codeTo_in (l : List Int) (k : Nat) : isU32 (codeTo l k) := by
  unfold codeTo
  have key : ∀ (l : List Int) (r : Int), isU32 r → isU32 (l.foldl codeByte r) := by
    intro l
    induction l with
    | nil => exact fun r h => h
    | cons x l ih => exact fun r _ => ih _ (codeByte_in r x)
  exact key _ _ ⟨by decide, by decide⟩
def codeF (l : List Int) : Int := bits .xor .u32 IntKind.u32.max (codeTo l l.length)
theorem codeF_in (l : List Int) : isU32 (codeF l) := ⟨bits_lo_u32 _ _ _, bits_hi_u32 _ _ _⟩
def isBytes (l : List Int) : Prop := inRange 0 255 l

set_option maxRecDepth 100000 in
set_option maxHeartbeats 1000000 in
theorem code_any (w : World) (T : Nat → Prop) (A : Option Addr) (c : Nat) (xs : List Int) (hr : Reads w T 1 A xs.length (bytes xs)) (hn : xs.length ≤ 1000000000) (hx : isBytes xs) :
    Calls Tryz.prog 49 #[.slice A xs.length c] w fun e w' => e = .returned (.int .i64 (codeF xs)) ∧ w = w' := by
  obtain ⟨n, hnl⟩ : ∃ n, n = xs.length := ⟨_, rfl⟩
  have HX := Lib.hid hx
  have HN := Lib.hid hnl
  rw [← hnl] at hr hn ⊢
  clear hx hnl
  go_enter Tryz.func49, Tryz.ntmps49
  go_wp2_with fail
  go_loop [3, 8] (fun r i => ∃ k : Nat, k ≤ n ∧ r = .int .u32 (codeTo xs k) ∧ i = .int .i64 k) (fun _ i => n - (intOf i).toNat)
  case atStart => exact ⟨0, Nat.zero_le _, rfl, rfl⟩
  case round =>
    obtain ⟨k, hk, rfl, rfl⟩ := hrel
    by_cases hlt : k < n
    · obtain ⟨ad, u, rfl, _, _, hu, hc⟩ := hr.at_ hlt
      have hll : k < xs.length := by rw [← HN.out]; exact hlt
      rw [bytes_get xs _ hll] at hu
      injection hu with hu
      subst hu
      have HT := Lib.hid (codeTo_succ xs k hll)
      obtain ⟨x1, x2⟩ := HX.out _ (List.getElem_mem hll)
      obtain ⟨y1, y2⟩ := codeTo_in xs k
      generalize xs[k] = x at *
      generalize codeTo xs k = r at *
      go_wp2_with fail
      go_loop [3, 16] (fun r' i => ∃ j : Nat, j ≤ 8 ∧ r' = .int .u32 (codeSteps j (bits .xor .u32 r x)) ∧ i = .int .i64 j) (fun _ i => 8 - (intOf i).toNat)
      case atStart => exact ⟨0, Nat.zero_le _, rfl, rfl⟩
      case round =>
        obtain ⟨j, hj, rfl, rfl⟩ := hrel
        by_cases hlt2 : j < 8
        · have hs : codeSteps (j + 1) (bits .xor .u32 r x) = codeStep (codeSteps j (bits .xor .u32 r x)) := rfl
          obtain ⟨y3, y4⟩ := codeSteps_in j (bits .xor .u32 r x) ⟨bits_lo_u32 _ _ _, bits_hi_u32 _ _ _⟩
          generalize codeSteps j (bits .xor .u32 r x) = q at *
          unfold codeStep at hs
          have HS := Lib.hid hs
          clear hs
          by_cases hb : bits .and .u32 q 1 = 1
          · go_wp2_with fail
            go_round
            case rel => exact ⟨j + 1, by omega, by rw [HS.out, if_pos hb], by go_num⟩
            case measure => simp [intOf]; omega
          · go_wp2_with fail
            go_round
            case rel => exact ⟨j + 1, by omega, by rw [HS.out, if_neg hb], by go_num⟩
            case measure => simp [intOf]; omega
        · obtain rfl : j = 8 := by omega
          go_wp2_with fail
          go_round
          case rel => exact ⟨k + 1, by omega, by rw [HT.out]; rfl, by go_num⟩
          case measure => simp [intOf]; omega
    · obtain rfl : k = n := by omega
      have hin := codeTo_in xs k
      have HC : RowKit.Hid (codeF xs = bits .xor .u32 IntKind.u32.max (codeTo xs k)) := by rw [HN.out]; exact Lib.hid rfl
      generalize codeTo xs k = r at *
      obtain ⟨y1, y2⟩ := hin
      have hsg : IntKind.u32.signed = false := rfl
      go_wp2_with fail
      go_ret
      have h1 := bits_lo_u32 .xor IntKind.u32.max r
      have h2 := bits_hi_u32 .xor IntKind.u32.max r
      refine ⟨?_, rfl⟩
      rw [HC.out]
      generalize bits .xor .u32 IntKind.u32.max r = z at *
      have : wrap64 z = z := IntWalk.wrap64_in _ ⟨by omega, by omega⟩
      exact congrArg (fun z => Ending.returned (.int .i64 z)) this
end Go.Proofs.YtedkfehdfmimoaaGreat

namespace Go.Proofs.YtedkfehdfmimoaaGreat
open Go.RowKit

def sealF (l : List Int) : List Int := l ++ lowF (codeF l) 4
theorem appBelow {w w' : World} {B e size : Nat} {v v' : Value} {n : Nat} {xs : List Value} (h : Appended w w' (fun g => B ≤ g) e size v v' n xs) (hB : B ≤ w.heap.size) (hv : ∀ g, v.ownBlock = some g → B ≤ g) : Own w' (fun g => B ≤ g) e size v' n xs ∧ Below B w w' :=
  ⟨h.1.more fun g _ hg => by
    rcases hg with hg | hg
    · exact hg
    · subst hg; exact hB, below_of_app (Below.refl _ _) h hB hv⟩
theorem lowF_bytes (n : Int) (k : Nat) : isBytes (lowF n k) := by
  induction k generalizing n with
  | zero => intro x hx; simp [lowF] at hx
  | succ k ih =>
    intro x hx
    rcases List.mem_cons.1 hx with rfl | h
    · omega
    · exact ih _ x h
theorem isBytes_append {a b : List Int} (ha : isBytes a) (hb : isBytes b) : isBytes (a ++ b) := fun x hx => by
  rcases List.mem_append.1 hx with h | h
  · exact ha x h
  · exact hb x h
theorem sealF_length (l : List Int) : (sealF l).length = l.length + 4 := by simp [sealF, lowF_length]
theorem sealF_bytes {l : List Int} (h : isBytes l) : isBytes (sealF l) := isBytes_append h (lowF_bytes _ _)

set_option maxRecDepth 100000 in
set_option maxHeartbeats 1000000 in
theorem sealed_any (w : World) (B : Nat) (hB : B ≤ w.heap.size) (v : Value) (xs : List Int) (n : Nat) (h : Own w (fun g => B ≤ g) 5 1 v n (bytes xs)) (hl : xs.length = n) (hn : n ≤ 100000000) (hx : isBytes xs) :
    Calls Tryz.prog 58 #[v] w fun e w' => ∃ v', e = .returned v' ∧ Own w' (fun g => B ≤ g) 5 1 v' (n + 4) (bytes (sealF xs)) ∧ Below B w w' := by
  obtain ⟨i0, hi, hz0, hz1, hz2⟩ := info_parts u8_info
  obtain ⟨A, c, rfl, -, -⟩ := h.shape
  obtain ⟨c1, c2⟩ := codeF_in xs
  have HL := Lib.hid hl
  have HX := Lib.hid hx
  have hcode := fun w' (hr : Reads w' (fun g => B ≤ g) 1 A xs.length (bytes xs)) => code_any w' (fun g => B ≤ g) A c xs hr (by omega) hx
  rw [hl] at hcode
  have HC := Lib.hid hcode
  have HS : RowKit.Hid (sealF xs = xs ++ lowF (codeF xs) 4) := Lib.hid rfl
  clear hl hx hcode
  generalize codeF xs = C at *
  go_enter Tryz.func58, Tryz.ntmps58
  go_wp2_with (go_at_call 49; refine (HC.out _ h.reads).mono ?_; rintro e w' ⟨rfl, rfl⟩)
  refine (low_any _ C ⟨by omega, by omega⟩ 4 (by omega)).mono ?_
  rintro e w1 ⟨u, rfl, hu, hb1⟩
  obtain ⟨Au, cu, rfl, -, -⟩ := hu.shape
  have h1 := h.fresh hb1
  go_wp2_with (at_builtin; refine wpList_append_any _ rfl _ _ 56 rfl 5 i0 _ 1 1 Tryz.underlying56 hi hz0 hz1 hz2 rfl (by omega) (.slice A n c) _ _ rfl h1 _ 4 cu _ rfl hu.reads (bytes_one _) (by unfold maxLen; omega) (by omega) ?_; intro v' w' happ)
  go_ret
  obtain ⟨o1, o2⟩ := appBelow happ (Nat.le_trans hB hb1.size) (fun g hg => h1.2 g hg)
  refine ⟨_, rfl, ?_, (hb1.mono hB).trans o2⟩
  rw [HS.out, bytes_append]
  exact o1

theorem own_lit (w : World) (T : Nat → Prop) (e : TypeId) (xs : List Value) (n : Nat) (hn : n ≤ maxLen) (hl : xs.length = n) (hT : T w.heap.size) :
    Own (w.alloc (.cells xs.toArray e)) T e 1 (.slice (some ⟨w.heap.size, 0, none⟩) n n) n xs :=
  ⟨by simpa using World.ownsRow_lit (base := 0) (size := 1) (e := e) w xs.toArray n (Nat.zero_le _) hn (by simpa using hl), fun g hg => by simp [Value.ownBlock] at hg; subst hg; exact hT⟩

/-- the body of a record -/
def bodyF (kind : Int) (l : List Int) : List Int := (kind % 256) :: l.flatMap fun n => lowF n 4
def bodyTo (kind : Int) (l : List Int) (k : Nat) : List Int := (kind % 256) :: (l.take k).flatMap fun n => lowF n 4
theorem bodyTo_succ (kind : Int) (l : List Int) (k : Nat) (h : k < l.length) : bodyTo kind l (k + 1) = bodyTo kind l k ++ lowF l[k] 4 := by
  unfold bodyTo
  rw [List.take_succ_eq_append_getElem h, List.flatMap_append]
  simp
theorem bodyTo_length (kind : Int) (l : List Int) (k : Nat) (h : k ≤ l.length) : (bodyTo kind l k).length = 1 + 4 * k := by
  induction k with
  | zero => rfl
  | succ k ih => rw [bodyTo_succ _ _ _ (by omega), List.length_append, ih (by omega), lowF_length]; omega
theorem bodyTo_full (kind : Int) (l : List Int) : bodyTo kind l l.length = bodyF kind l := by simp [bodyTo, bodyF]
theorem bodyF_length (kind : Int) (l : List Int) : (bodyF kind l).length = 1 + 4 * l.length := by rw [← bodyTo_full, bodyTo_length _ _ _ (Nat.le_refl _)]
theorem bodyF_bytes (kind : Int) (l : List Int) : isBytes (bodyF kind l) := by
  intro x hx
  rcases List.mem_cons.1 hx with rfl | h
  · omega
  · obtain ⟨n, -, h⟩ := List.mem_flatMap.1 h
    exact lowF_bytes _ _ x h

set_option maxRecDepth 100000 in
set_option maxHeartbeats 1000000 in
theorem body_any (w : World) (T : Nat → Prop) (kind : Int) (hk : 0 ≤ kind ∧ kind ≤ 255) (v : Value) (l : List Int) (h : Slc w T v l) (hn : l.length ≤ 1000000) (hw : inRange (-9223372036854775808) 9223372036854775807 l) :
    Calls Tryz.prog 64 #[.int .i64 kind, v] w (RetFresh w 5 1 (1 + 4 * l.length) (bytes (bodyF kind l))) := by
  obtain ⟨i0, hi, hz0, hz1, hz2⟩ := info_parts u8_info
  obtain ⟨A, c, rfl⟩ := h.len
  obtain ⟨k1, k2⟩ := hk
  replace h := h.old
  clear T
  have HW := Lib.hid hw
  clear hw
  go_enter Tryz.func64, Tryz.ntmps64
  go_wp2_with fail
  have ho0 := own_lit w (fun g => w.heap.size ≤ g) 5 (bytes (bodyTo kind l 0)) 1 (by decide) rfl (Nat.le_refl _)
  have e0 : bytes (bodyTo kind l 0) = [.int .u8 kind] := by simp [bodyTo, bytes]; omega
  rw [e0] at ho0
  have h0 := h.alloc (.cells #[.int .u8 kind] 5)
  have b0 : Below w.heap.size w (w.alloc (.cells #[.int .u8 kind] 5)) := (Below.refl _ _).alloc (Nat.le_refl _) _
  generalize hw1 : w.alloc (.cells #[.int .u8 kind] 5) = w1 at *
  go_loopw [5, 13] (fun v i wr => ∃ k : Nat, k ≤ l.length ∧ i = .int .i64 k ∧ Own wr (fun g => w.heap.size ≤ g) 5 1 v (1 + 4 * k) (bytes (bodyTo kind l k)) ∧ Below w.heap.size w wr) (fun _ i _ => l.length - (intOf i).toNat)
  case atStart => exact ⟨0, by omega, rfl, by rw [e0]; exact ho0, b0⟩
  clear ho0 h0 b0 hw1
  obtain ⟨k, hk, rfl, ho, hb⟩ := hrel
  by_cases hlt : k < l.length
  · have hs := h.fresh hb
    obtain ⟨-, ad, rfl, hc⟩ := hs.at_ k hlt
    have hx := HW.out _ (List.getElem_mem hlt)
    have HB := Lib.hid (bodyTo_succ kind l k hlt)
    generalize l[k] = x at *
    have hwz := hb.size
    go_wp2_with fail
    refine (low_any _ x hx 4 (by omega)).mono ?_
    rintro e w2 ⟨u, rfl, hu, hb2⟩
    obtain ⟨Au, cu, rfl, -, -⟩ := hu.shape
    have ho2 := ho.fresh hb2
    go_wp2_with (at_builtin; refine wpList_append_any _ rfl _ _ 56 rfl 5 i0 _ 1 1 Tryz.underlying56 hi hz0 hz1 hz2 rfl (by omega) u5 _ _ rfl ho2 _ 4 cu _ rfl hu.reads (bytes_one _) (by unfold maxLen; omega) (by omega) ?_; intro v' w' happ)
    obtain ⟨o1, o2⟩ := appBelow happ (Nat.le_trans hwz hb2.size) (fun g hg => ho2.2 g hg)
    go_roundw
    case rel => exact ⟨k + 1, by omega, by go_num, by rw [HB.out, bytes_append, show 1 + 4 * (k + 1) = 1 + 4 * k + 4 by omega]; exact o1, (hb.trans (hb2.mono hwz)).trans o2⟩
    case measure => simp [intOf]; omega
  · obtain rfl : k = l.length := by omega
    rw [bodyTo_full] at ho
    go_wp2_with fail
    go_ret
    exact ⟨_, rfl, ho, hb⟩
end Go.Proofs.YtedkfehdfmimoaaGreat

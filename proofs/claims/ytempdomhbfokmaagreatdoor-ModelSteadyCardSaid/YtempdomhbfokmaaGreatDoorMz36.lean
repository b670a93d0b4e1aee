/- The code of bytes: one changed byte changes it. Conditions: bytes. Natural numbers by their digits to the base 1000000000, in plain words. -/
import Derived.Test.YtempdomhbfokmaaGreatDoorMz12
import Derived.Laws.BitsLemmas
import Derived.WalkKit
namespace Go.Proofs.YtempdomhbfokmaaGreatDoor
open Go.RowKit

theorem u32_wrap (n : Int) (h0 : 0 ≤ n) (h : n < 2 ^ 32) : IntKind.u32.wrap n = n := by
  have e : (2 : Int) ^ 32 = 4294967296 := rfl
  exact IntWalk.u32_in _ ⟨h0, by omega⟩
theorem xor_nat (a b : Nat) (ha : a < 4294967296) (hb : b < 4294967296) : bits .xor .u32 (a : Int) (b : Int) = ((a ^^^ b : Nat) : Int) := by
  have hx : a ^^^ b < 2 ^ 32 := Nat.xor_lt_two_pow (by omega) (by omega)
  have h1 : (BitVec.ofInt 32 (a : Int)).toNat = a := by
    rw [BitVec.ofInt_natCast, BitVec.toNat_ofNat]; exact Nat.mod_eq_of_lt (by omega)
  have h2 : (BitVec.ofInt 32 (b : Int)).toNat = b := by
    rw [BitVec.ofInt_natCast, BitVec.toNat_ofNat]; exact Nat.mod_eq_of_lt (by omega)
  show IntKind.u32.wrap ((BitVec.ofInt 32 (a : Int) ^^^ BitVec.ofInt 32 (b : Int)).toNat : Int) = _
  rw [BitVec.toNat_xor, h1, h2, IntKind.wrap_u32]
  omega
def stepN (r : Nat) : Nat := if r % 2 = 1 then (r / 2) ^^^ 3988292384 else r / 2
theorem codeStep_nat (r : Nat) (h : r < 4294967296) : codeStep (r : Int) = (stepN r : Nat) := by
  have e : bits .and .u32 (r : Int) 1 = ((r % 2 : Nat) : Int) := by
    have := (bits_nat .u32 32 (by decide) u32_wrap r 1 (by omega) (by decide)).1
    rw [Nat.and_one_is_mod] at this
    exact this
  unfold codeStep stepN
  rw [e]
  by_cases h1 : r % 2 = 1
  · rw [if_pos (by omega), if_pos h1]
    have : (r : Int) / 2 = ((r / 2 : Nat) : Int) := by omega
    rw [this]
    exact xor_nat _ 3988292384 (by omega) (by decide)
  · rw [if_neg (by omega), if_neg h1]
    omega
theorem stepN_lt (r : Nat) (h : r < 4294967296) : stepN r < 4294967296 := by
  unfold stepN
  split
  · exact Nat.xor_lt_two_pow (n := 32) (by omega) (by decide)
  · omega
theorem stepN_top (r : Nat) (h : r < 4294967296) : (stepN r).testBit 31 = decide (r % 2 = 1) := by
  have h1 : (r / 2).testBit 31 = false := Nat.testBit_lt_two_pow (by have : (2 : Nat) ^ 31 = 2147483648 := rfl; omega)
  unfold stepN
  by_cases h2 : r % 2 = 1
  · rw [if_pos h2, Nat.testBit_xor, h1, decide_eq_true h2]
    decide
  · rw [if_neg h2, h1, decide_eq_false h2]
theorem xor_cancel {a b c : Nat} (h : a ^^^ c = b ^^^ c) : a = b := by
  have := congrArg (· ^^^ c) h
  simpa [Nat.xor_assoc] using this
theorem stepN_inj {r s : Nat} (hr : r < 4294967296) (hs : s < 4294967296) (h : stepN r = stepN s) : r = s := by
  have ht := congrArg (fun z : Nat => z.testBit 31) h
  rw [stepN_top r hr, stepN_top s hs] at ht
  have h2 : r % 2 = 1 ↔ s % 2 = 1 := by simpa using ht
  unfold stepN at h
  by_cases h1 : r % 2 = 1
  · have h3 := h2.1 h1
    rw [if_pos h1, if_pos h3] at h
    have := xor_cancel h
    omega
  · have h3 : ¬ s % 2 = 1 := fun e => h1 (h2.2 e)
    rw [if_neg h1, if_neg h3] at h
    omega
def stepsN : Nat → Nat → Nat
  | 0, r => r
  | n + 1, r => stepN (stepsN n r)
theorem stepsN_lt (n r : Nat) (h : r < 4294967296) : stepsN n r < 4294967296 := by
  induction n with
  | zero => exact h
  | succ n ih => exact stepN_lt _ ih
theorem codeSteps_nat (n r : Nat) (h : r < 4294967296) : codeSteps n (r : Int) = (stepsN n r : Nat) := by
  induction n with
  | zero => rfl
  | succ n ih =>
    show codeStep (codeSteps n r) = _
    rw [ih, codeStep_nat _ (stepsN_lt n r h)]
    rfl
theorem stepsN_inj {n r s : Nat} (hr : r < 4294967296) (hs : s < 4294967296) (h : stepsN n r = stepsN n s) : r = s := by
  induction n with
  | zero => exact h
  | succ n ih => exact ih (stepN_inj (stepsN_lt n r hr) (stepsN_lt n s hs) h)
theorem codeByte_nat (r x : Nat) (hr : r < 4294967296) (hx : x < 256) : codeByte (r : Int) (x : Int) = (stepsN 8 (r ^^^ x) : Nat) := by
  unfold codeByte
  rw [xor_nat r x hr (by omega)]
  exact codeSteps_nat 8 _ (Nat.xor_lt_two_pow (n := 32) (by omega) (by have : (2:Nat)^32 = 4294967296 := rfl; omega))
theorem xor_lt (r x : Nat) (hr : r < 4294967296) (hx : x < 256) : r ^^^ x < 4294967296 := Nat.xor_lt_two_pow (n := 32) (by omega) (by have : (2:Nat)^32 = 4294967296 := rfl; omega)
theorem isU32_nat {r : Int} (h : isU32 r) : ∃ n : Nat, r = n ∧ n < 4294967296 := by
  obtain ⟨n, rfl⟩ := Int.eq_ofNat_of_zero_le h.1
  exact ⟨n, rfl, by have := h.2; omega⟩
theorem codeByte_inj {r s x : Int} (hr : isU32 r) (hs : isU32 s) (hx : 0 ≤ x ∧ x ≤ 255) (h : codeByte r x = codeByte s x) : r = s := by
  obtain ⟨a, rfl, ha⟩ := isU32_nat hr
  obtain ⟨b, rfl, hb⟩ := isU32_nat hs
  obtain ⟨y, rfl⟩ := Int.eq_ofNat_of_zero_le hx.1
  rw [codeByte_nat a y ha (by omega), codeByte_nat b y hb (by omega)] at h
  have := stepsN_inj (n := 8) (xor_lt a y ha (by omega)) (xor_lt b y hb (by omega)) (by omega)
  rw [xor_cancel this]
theorem codeByte_byte {r x y : Int} (hr : isU32 r) (hx : 0 ≤ x ∧ x ≤ 255) (hy : 0 ≤ y ∧ y ≤ 255) (h : codeByte r x = codeByte r y) : x = y := by
  obtain ⟨a, rfl, ha⟩ := isU32_nat hr
  obtain ⟨b, rfl⟩ := Int.eq_ofNat_of_zero_le hx.1
  obtain ⟨c, rfl⟩ := Int.eq_ofNat_of_zero_le hy.1
  rw [codeByte_nat a b ha (by omega), codeByte_nat a c ha (by omega)] at h
  have := stepsN_inj (n := 8) (xor_lt a b ha (by omega)) (xor_lt a c ha (by omega)) (by omega)
  rw [Nat.xor_comm a b, Nat.xor_comm a c] at this
  rw [xor_cancel this]
theorem fold_in (l : List Int) : ∀ r : Int, isU32 r → isU32 (l.foldl codeByte r) := by
  induction l with
  | nil => exact fun r h => h
  | cons x l ih => exact fun r _ => ih _ (codeByte_in r x)
theorem fold_inj (l : List Int) (hl : isBytes l) : ∀ r s : Int, isU32 r → isU32 s → l.foldl codeByte r = l.foldl codeByte s → r = s := by
  induction l with
  | nil => exact fun r s _ _ h => h
  | cons x l ih =>
    intro r s hr hs h
    exact codeByte_inj hr hs (hl x List.mem_cons_self) (ih (fun y hy => hl y (List.mem_cons_of_mem _ hy)) _ _ (codeByte_in r x) (codeByte_in s x) h)
theorem codeF_fold (l : List Int) : codeF l = bits .xor .u32 IntKind.u32.max (l.foldl codeByte 4294967295) := by
  unfold codeF codeTo
  rw [List.take_length]
/-- one changed byte changes the code -/
theorem code_changed (a b : List Int) (x y : Int) (hb : isBytes b) (hx : 0 ≤ x ∧ x ≤ 255) (hy : 0 ≤ y ∧ y ≤ 255) (hne : x ≠ y) : codeF (a ++ x :: b) ≠ codeF (a ++ y :: b) := by
  intro h
  rw [codeF_fold, codeF_fold, List.foldl_append, List.foldl_append, List.foldl_cons, List.foldl_cons] at h
  have hr : isU32 (a.foldl codeByte 4294967295) := fold_in a _ ⟨by decide, by decide⟩
  have h1 := fold_in b _ (codeByte_in (a.foldl codeByte 4294967295) x)
  have h2 := fold_in b _ (codeByte_in (a.foldl codeByte 4294967295) y)
  have key : b.foldl codeByte (codeByte (a.foldl codeByte 4294967295) x) = b.foldl codeByte (codeByte (a.foldl codeByte 4294967295) y) := by
    obtain ⟨m, e1, hm⟩ := isU32_nat h1
    obtain ⟨n, e2, hn⟩ := isU32_nat h2
    rw [e1, e2] at h ⊢
    have e3 : IntKind.u32.max = ((4294967295 : Nat) : Int) := rfl
    rw [e3, xor_nat _ m (by decide) hm, xor_nat _ n (by decide) hn, Nat.xor_comm _ m, Nat.xor_comm _ n] at h
    rw [xor_cancel (Int.ofNat.inj h)]
  exact hne (codeByte_byte hr hx hy (fold_inj b hb _ _ (codeByte_in _ _) (codeByte_in _ _) key))
end Go.Proofs.YtempdomhbfokmaaGreatDoor

namespace Go.Proofs.YtempdomhbfokmaaGreatDoor

/-- the base -/
def BB : Nat := 1000000000
theorem BB_pos : 0 < BB := by decide
/-- the value of digits, the lowest first -/
def val : List Nat → Nat
  | [] => 0
  | d :: l => d + BB * val l
def digs (l : List Nat) : Prop := ∀ d ∈ l, d < BB
/-- the digits of a number -/
def ofN (n : Nat) : List Nat := if _h : n = 0 then [] else n % BB :: ofN (n / BB)
termination_by n
decreasing_by exact Nat.div_lt_self (by omega) (by decide)
theorem ofN_zero : ofN 0 = [] := by unfold ofN; simp
theorem ofN_pos (n : Nat) (h : n ≠ 0) : ofN n = n % BB :: ofN (n / BB) := by rw [ofN]; simp [h]
theorem val_ofN (n : Nat) : val (ofN n) = n := by
  induction n using Nat.strongRecOn with
  | _ n ih =>
    by_cases h : n = 0
    · subst h; rw [ofN_zero]; rfl
    · rw [ofN_pos n h, val, ih _ (Nat.div_lt_self (by omega) (by decide))]
      exact Nat.mod_add_div n BB
theorem digs_nil : digs [] := fun _ h => by cases h
theorem digs_cons {d : Nat} {l : List Nat} : digs (d :: l) ↔ d < BB ∧ digs l := by simp [digs]
theorem digs_app {a b : List Nat} : digs (a ++ b) ↔ digs a ∧ digs b := by simp [digs, or_imp, forall_and]
theorem digs_ofN (n : Nat) : digs (ofN n) := by
  induction n using Nat.strongRecOn with
  | _ n ih =>
    by_cases h : n = 0
    · subst h; rw [ofN_zero]; exact digs_nil
    · rw [ofN_pos n h, digs_cons]
      exact ⟨Nat.mod_lt _ BB_pos, ih _ (Nat.div_lt_self (by omega) (by decide))⟩
theorem val_app (a b : List Nat) : val (a ++ b) = val a + BB ^ a.length * val b := by
  induction a with
  | nil => simp [val]
  | cons d a ih =>
    simp only [List.cons_append, val, List.length_cons, ih, Nat.pow_succ, Nat.mul_add, Nat.add_assoc]
    congr 2
    rw [← Nat.mul_assoc, Nat.mul_comm (BB ^ a.length) BB]
theorem val_snoc (a : List Nat) (d : Nat) : val (a ++ [d]) = val a + BB ^ a.length * d := by rw [val_app]; simp [val]
theorem val_lt (l : List Nat) (h : digs l) : val l < BB ^ l.length := by
  induction l with
  | nil => simp [val]
  | cons d l ih =>
    obtain ⟨h1, h2⟩ := digs_cons.1 h
    have := ih h2
    rw [val, List.length_cons, Nat.pow_succ]
    have h3 : BB * (val l + 1) ≤ BB * BB ^ l.length := Nat.mul_le_mul_left _ this
    rw [Nat.mul_add, Nat.mul_one] at h3
    rw [Nat.mul_comm (BB ^ l.length)]
    omega
theorem val_take_succ (l : List Nat) (k : Nat) (h : k < l.length) : val (l.take (k + 1)) = val (l.take k) + BB ^ k * l[k] := by
  rw [List.take_succ_eq_append_getElem h, val_snoc, List.length_take, Nat.min_eq_left (by omega)]
theorem val_split (l : List Nat) (k : Nat) (h : k ≤ l.length) : val l = val (l.take k) + BB ^ k * val (l.drop k) := by
  have := val_app (l.take k) (l.drop k)
  rwa [List.take_append_drop, List.length_take, Nat.min_eq_left h] at this
theorem val_zeros (n : Nat) : val (List.replicate n 0) = 0 := by
  induction n with
  | zero => rfl
  | succ n ih => rw [List.replicate_succ, val, ih]; rfl
theorem val_set (l : List Nat) (k d : Nat) (h : k < l.length) : val (l.set k d) + BB ^ k * l[k] = val l + BB ^ k * d := by
  induction l generalizing k with
  | nil => simp at h
  | cons x l ih =>
    cases k with
    | zero => simp [val]; omega
    | succ k =>
      have := ih k (by simpa using h)
      simp only [List.set_cons_succ, val, List.getElem_cons_succ, Nat.pow_succ]
      have e : ∀ z, BB ^ k * BB * z = BB * (BB ^ k * z) := fun z => by rw [Nat.mul_comm (BB ^ k) BB, Nat.mul_assoc]
      rw [e, e]
      have h2 := congrArg (BB * ·) this
      simp only [Nat.mul_add] at h2
      omega
theorem digs_set {l : List Nat} (h : digs l) (k : Nat) {d : Nat} (hd : d < BB) : digs (l.set k d) := by
  intro z hz
  rcases List.mem_or_eq_of_mem_set hz with h1 | h1
  · exact h z h1
  · omega
theorem digs_take {l : List Nat} (h : digs l) (k : Nat) : digs (l.take k) := fun z hz => h z (List.mem_of_mem_take hz)
theorem digs_drop {l : List Nat} (h : digs l) (k : Nat) : digs (l.drop k) := fun z hz => h z (List.mem_of_mem_drop hz)
theorem digs_get {l : List Nat} (h : digs l) (k : Nat) (hk : k < l.length) : l[k] < BB := h _ (List.getElem_mem hk)
theorem digs_zeros (n : Nat) : digs (List.replicate n 0) := by
  intro z hz
  rw [List.mem_replicate] at hz
  rw [hz.2]; exact BB_pos

/-- no zero at the end -/
def Nrm (l : List Nat) : Prop := ∀ (h : 0 < l.length), l[l.length - 1] ≠ 0
theorem last_cons (d : Nat) (l : List Nat) (h : 0 < l.length) : (d :: l)[(d :: l).length - 1]'(by simp) = l[l.length - 1]'(by omega) := by
  cases l with
  | nil => simp at h
  | cons x l => rfl
theorem nrm_ofN (n : Nat) : Nrm (ofN n) := by
  induction n using Nat.strongRecOn with
  | _ n ih =>
    by_cases h : n = 0
    · subst h; rw [ofN_zero]; intro h; simp at h
    · have hi := ih _ (Nat.div_lt_self (by omega) (show 1 < BB by decide))
      intro h1
      have e := ofN_pos n h
      by_cases h2 : n / BB = 0
      · have e2 : ofN n = [n % BB] := by rw [e, h2, ofN_zero]
        simp only [e2]
        have := Nat.mod_add_div n BB
        rw [h2] at this
        simp; omega
      · have e3 := ofN_pos _ h2
        have hl : 0 < (ofN (n / BB)).length := by rw [e3]; simp
        have := hi hl
        simp only [e]
        rw [last_cons _ _ hl]
        exact this
theorem eq_ofN (l : List Nat) (h : digs l) (hn : Nrm l) : l = ofN (val l) := by
  induction l with
  | nil => rw [val, ofN_zero]
  | cons d l ih =>
    obtain ⟨h1, h2⟩ := digs_cons.1 h
    have hn2 : Nrm l := by
      intro h3
      have := hn (by simp)
      rwa [last_cons _ _ h3] at this
    have hv : val (d :: l) ≠ 0 := by
      intro h3
      rw [val] at h3
      have hd : d = 0 := by omega
      have hl : BB * val l = 0 := by omega
      have hl : val l = 0 := by
        rcases Nat.mul_eq_zero.1 hl with h | h
        · exact absurd h (by decide)
        · exact h
      have e := ih h2 hn2
      rw [hl, ofN_zero] at e
      subst e
      exact hn (by simp) (by simpa using hd)
    rw [ofN_pos _ hv]
    have e1 : val (d :: l) % BB = d := by rw [val, Nat.add_mul_mod_self_left]; exact Nat.mod_eq_of_lt h1
    have e2 : val (d :: l) / BB = val l := by rw [val, Nat.add_mul_div_left _ _ BB_pos, Nat.div_eq_of_lt h1, Nat.zero_add]
    rw [e1, e2, ← ih h2 hn2]
theorem pow_le_val (l : List Nat) (hn : Nrm l) (h : 0 < l.length) : BB ^ (l.length - 1) ≤ val l := by
  have h1 := hn h
  have := val_split l (l.length - 1) (by omega)
  rw [List.drop_eq_getElem_cons (by omega), val] at this
  have h2 : BB ^ (l.length - 1) * 1 ≤ BB ^ (l.length - 1) * (l[l.length - 1] + BB * val (l.drop (l.length - 1 + 1))) := Nat.mul_le_mul_left _ (by omega)
  omega
theorem nrm_of_le (l : List Nat) (hd : digs l) (h : BB ^ (l.length - 1) ≤ val l) : Nrm l := by
  intro h1 h2
  have := val_split l (l.length - 1) (by omega)
  rw [List.drop_eq_getElem_cons (by omega), val, h2, List.drop_of_length_le (by omega)] at this
  have h3 := val_lt (l.take (l.length - 1)) (digs_take hd _)
  rw [List.length_take, Nat.min_eq_left (by omega)] at h3
  simp [val] at this
  omega
theorem ofN_length_le (n k : Nat) (h : n < BB ^ k) : (ofN n).length ≤ k := by
  rcases Nat.lt_or_ge k (ofN n).length with h1 | h1
  · have := pow_le_val (ofN n) (nrm_ofN n) (by omega)
    rw [val_ofN] at this
    have h2 : BB ^ k ≤ BB ^ ((ofN n).length - 1) := Nat.pow_le_pow_right BB_pos (by omega)
    omega
  · exact h1
theorem ofN_length_mono (a b : Nat) (h : a ≤ b) : (ofN a).length ≤ (ofN b).length := by
  have := val_lt _ (digs_ofN b)
  rw [val_ofN] at this
  exact ofN_length_le _ _ (by omega)
theorem ofN_length_zero (n : Nat) : (ofN n).length = 0 ↔ n = 0 := by
  constructor
  · intro h
    have := val_ofN n
    rw [List.eq_nil_of_length_eq_zero h] at this
    exact this.symm
  · rintro rfl; rw [ofN_zero]; rfl
theorem lt_pow_ofN (n : Nat) : n < BB ^ (ofN n).length := by
  have := val_lt _ (digs_ofN n)
  rwa [val_ofN] at this
theorem pow_le_ofN (n : Nat) (h : n ≠ 0) : BB ^ ((ofN n).length - 1) ≤ n := by
  have := pow_le_val (ofN n) (nrm_ofN n) (by have := ofN_length_zero n; omega)
  rwa [val_ofN] at this
/-- without the zeros at the end -/
theorem nrm_take (l : List Nat) (k : Nat) (hk : k ≤ l.length) (hz : ∀ j (h : j < l.length), k ≤ j → l[j] = 0) : val (l.take k) = val l := by
  have h1 := val_split l k hk
  have h2 : l.drop k = List.replicate (l.length - k) 0 := by
    apply List.ext_getElem
    · simp
    · intro i h1 h2
      rw [List.getElem_drop, List.getElem_replicate]
      exact hz _ (by simp at h1; omega) (by omega)
  rw [h2, val_zeros] at h1
  omega
/-- the order of two numbers is that of the first digits from above that differ -/
theorem lt_of_digit (a b : List Nat) (i : Nat) (ha : digs a) (hia : i < a.length) (hib : i < b.length) (ht : a.drop (i + 1) = b.drop (i + 1)) (h : a[i] < b[i]) : val a < val b := by
  have h1 := val_split a i (by omega)
  have h2 := val_split b i (by omega)
  rw [List.drop_eq_getElem_cons hia, val, ht] at h1
  rw [List.drop_eq_getElem_cons hib, val] at h2
  have h3 := val_lt (a.take i) (digs_take ha _)
  rw [List.length_take, Nat.min_eq_left (by omega)] at h3
  have h4 : BB ^ i * (a[i] + 1) ≤ BB ^ i * b[i] := Nat.mul_le_mul_left _ h
  rw [Nat.mul_add] at h1 h2 h4
  omega
end Go.Proofs.YtempdomhbfokmaaGreatDoor

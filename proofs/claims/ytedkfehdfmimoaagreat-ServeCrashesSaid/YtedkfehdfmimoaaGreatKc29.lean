/- What a log holds: the records of the calls, one behind the other. -/
import Derived.Test.YtedkfehdfmimoaaGreatKc28
import Derived.Test.YtedkfehdfmimoaaGreatKc8
namespace Go.Proofs.YtedkfehdfmimoaaGreat
open Go.RowKit

def recs : Nat → List Cal → List Int
  | _, [] => []
  | n, o :: l => recF n o.words ++ recs (n + 1) l
theorem recs_snoc (n : Nat) (l : List Cal) (o : Cal) : recs n (l ++ [o]) = recs n l ++ recF (n + l.length) o.words := by
  induction l generalizing n with
  | nil => simp [recs]
  | cons a l ih =>
    rw [List.cons_append]
    unfold recs
    rw [ih, List.append_assoc, List.length_cons, show n + 1 + l.length = n + (l.length + 1) by omega]
theorem recs_append (n : Nat) (l k : List Cal) : recs n (l ++ k) = recs n l ++ recs (n + l.length) k := by
  induction l generalizing n with
  | nil => simp [recs]
  | cons a l ih =>
    show recF n a.words ++ recs (n + 1) (l ++ k) = (recF n a.words ++ recs (n + 1) l) ++ _
    rw [ih, List.append_assoc, List.length_cons, show n + 1 + l.length = n + (l.length + 1) by omega]
theorem lowF_mod (n : Int) (k : Nat) (h : 0 ≤ n) (hk : n < 256 ^ k) : leF (lowF n k) = n := by
  induction k generalizing n with
  | zero =>
    have : n = 0 := by rw [Int.pow_zero] at hk; omega
    subst this; rfl
  | succ k ih =>
    rw [Int.pow_succ] at hk
    show n % 256 + 256 * leF (lowF (n / 256) k) = n
    rw [ih (n / 256) (by omega) (by omega)]
    omega
/-- the first word of a call is its kind -/
def Cal.kind : Cal → Int
  | .submit _ => 1
  | .cancel _ => 2
  | .tick => 4
def Cal.args : Cal → List Int
  | .submit r => [r.id, r.deadline, r.most, r.seed, (r.prompt.length : Int)] ++ r.prompt
  | .cancel id => [id]
  | .tick => []
theorem Cal.words_eq (o : Cal) : o.words = o.kind :: o.args := by cases o <;> rfl
def recHead (n : Nat) (o : Cal) : List Int := lowF ((1 + 4 * o.args.length : Nat) : Int) 2 ++ lowF n 4 ++ bodyF o.kind o.args
theorem recF_eq (n : Nat) (o : Cal) : recF n o.words = recHead n o ++ lowF (codeF (recHead n o)) 4 := by
  rw [o.words_eq]; rfl
theorem recHead_length (n : Nat) (o : Cal) : (recHead n o).length = 7 + 4 * o.args.length := by
  simp [recHead, lowF_length, bodyF_length]; omega
theorem recHead_bytes (n : Nat) (o : Cal) : isBytes (recHead n o) := isBytes_append (isBytes_append (lowF_bytes _ _) (lowF_bytes _ _)) (bodyF_bytes _ _)
theorem recF_length (n : Nat) (o : Cal) : (recF n o.words).length = 11 + 4 * o.args.length := by
  rw [recF_eq, List.length_append, recHead_length, lowF_length]; omega
theorem recF_bytes (n : Nat) (o : Cal) : isBytes (recF n o.words) := by
  rw [recF_eq]
  exact isBytes_append (recHead_bytes n o) (lowF_bytes _ _)
theorem recs_bytes (n : Nat) (l : List Cal) : isBytes (recs n l) := by
  induction l generalizing n with
  | nil => intro x hx; cases hx
  | cons o l ih => exact isBytes_append (recF_bytes n o) (ih _)
section
variable {n : Nat} {o : Cal} {rest xs : List Int}
theorem take_of_append (a b : List Int) (k : Nat) (h : k ≤ a.length) : (a ++ b).take k = a.take k := List.take_append_of_le_length h
theorem rec_size (hl : o.args.length ≤ 100) (y : Nat) (hy : 2 ≤ y) : leF (((recF n o.words ++ rest).take y).take 2) = ((1 + 4 * o.args.length : Nat) : Int) := by
  rw [List.take_take, Nat.min_eq_left hy, List.take_append_of_le_length (by rw [recF_length]; omega), recF_eq, List.take_append_of_le_length (by rw [recHead_length]; omega)]
  unfold recHead
  rw [List.append_assoc, List.take_append_of_le_length (by rw [lowF_length]; omega), List.take_of_length_le (by rw [lowF_length]; omega)]
  exact lowF_mod _ _ (by omega) (by have : (256 : Int) ^ 2 = 65536 := rfl; omega)
theorem rec_num (hn : n ≤ 10000) : leF (((recF n o.words ++ rest).drop 2).take 4) = (n : Int) := by
  rw [recF_eq]
  unfold recHead
  rw [List.append_assoc, List.append_assoc, List.append_assoc, List.append_assoc, List.drop_left' (lowF_length _ _), List.take_left' (lowF_length _ _)]
  exact lowF_mod _ _ (by omega) (by have : (256 : Int) ^ 4 = 4294967296 := rfl; omega)
theorem rec_sum : leF (((recF n o.words ++ rest).drop (6 + (1 + 4 * o.args.length))).take 4) = codeF (recHead n o) := by
  rw [recF_eq, List.append_assoc, List.drop_left' (by rw [recHead_length]; omega), List.take_left' (lowF_length _ _)]
  obtain ⟨h1, h2⟩ := codeF_in (recHead n o)
  exact lowF_mod _ _ h1 (by have : (256 : Int) ^ 4 = 4294967296 := rfl; omega)
theorem rec_head : (recF n o.words ++ rest).take (6 + (1 + 4 * o.args.length)) = recHead n o := by
  rw [recF_eq, List.append_assoc, List.take_left' (by rw [recHead_length]; omega)]
theorem rec_body : ((recF n o.words ++ rest).drop 6).take (1 + 4 * o.args.length) = bodyF o.kind o.args := by
  rw [recF_eq]
  unfold recHead
  rw [List.append_assoc, List.append_assoc, List.drop_left' (by simp [lowF_length]), List.take_left' (bodyF_length _ _)]
theorem rec_rest : (recF n o.words ++ rest).drop ((1 + 4 * o.args.length) + 10) = rest := List.drop_left' (by rw [recF_length]; omega)
end
theorem Cal.args_length {s : Srv} {o : Cal} (h : (s.cal o).2 = 0) : o.args.length ≤ 37 := by
  cases o with
  | submit r =>
    have h0' : (s.submit r).2 = 0 := h
    have h0 : s.accErr r = 0 := by
      unfold Srv.submit at h0'
      split at h0'
      · assumption
      · exact h0'
    obtain ⟨-, b2, -⟩ := accErr_ok h0
    show (_ ++ r.prompt).length ≤ 37
    simp
    omega
  | cancel id => show 1 ≤ 37; omega
  | tick => show 0 ≤ 37; omega
end Go.Proofs.YtedkfehdfmimoaaGreat

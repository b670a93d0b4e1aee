/- Words and lines of bytes: cutting and splitting them again. -/
import Derived.Lib.Split
import Derived.Lib.ItoaNum
import Derived.Test.YtpcejpcbkjnlkaaGreatDoorZa15
set_option linter.unusedVariables false
namespace Go.Proofs.YtpcejpcbkjnlkaaGreatDoor
open Go.Lib

theorem index_miss1 : ∀ {l : List UInt8} {c : UInt8}, c ∉ l → index l [c] = -1
  | [], _, _ => rfl
  | b :: l, c, h => by
    have h1 : ¬ c = b := fun e => h (by rw [e]; exact List.mem_cons_self)
    have ih := index_miss1 (fun e => h (List.mem_cons_of_mem b e))
    unfold index
    rw [ih]
    simp [List.isPrefixOf, h1]
theorem index_at1 : ∀ {l : List UInt8} {c : UInt8} {r : List UInt8}, c ∉ l → index (l ++ c :: r) [c] = l.length
  | [], c, r, _ => by simp [index, List.isPrefixOf]
  | b :: l, c, r, h => by
    have h1 : ¬ c = b := fun e => h (by rw [e]; exact List.mem_cons_self)
    have ih := index_at1 (r := r) (fun e => h (List.mem_cons_of_mem b e))
    have h2 : ((l.length : Int) == -1) = false := by rw [beq_eq_false_iff_ne]; omega
    rw [List.cons_append]
    unfold index
    rw [ih]
    simp [List.isPrefixOf, h1, h2]
theorem drop_at1 (l : List UInt8) (c : UInt8) (r : List UInt8) : (l ++ c :: r).drop (l.length + 1) = r := by
  rw [← List.singleton_append, ← List.append_assoc]
  exact List.drop_left' (by simp)
theorem cut_line {l r : List UInt8} (h : (10 : UInt8) ∉ l) : cut (l ++ 10 :: r) [10] = (l, r, true) := by
  unfold cut
  rw [index_at1 h, if_pos (by omega), Int.toNat_natCast]
  rw [show ([10] : List UInt8).length = 1 from rfl, drop_at1, List.take_left]
/-- words with a space ahead of each -/
def spread (ws : List (List UInt8)) : List UInt8 := ws.flatMap fun w => 32 :: w
theorem count_spread : ∀ (ws : List (List UInt8)) (w : List UInt8), (32 : UInt8) ∉ w → (∀ v ∈ ws, (32 : UInt8) ∉ v) → count (w ++ spread ws) [32] = ws.length
  | [], w, h, _ => by
    rw [show spread [] = [] from rfl, List.append_nil]
    exact count_miss (index_miss1 h)
  | v :: ws, w, h, hs => by
    rw [show spread (v :: ws) = 32 :: (v ++ spread ws) from rfl, count_hit (by simp) (index_at1 h), show ([32] : List UInt8).length = 1 from rfl, drop_at1,
      count_spread ws v (hs v List.mem_cons_self) (fun x hx => hs x (List.mem_cons_of_mem v hx)), List.length_cons]
    omega
theorem splitK_spread : ∀ (ws : List (List UInt8)) (w : List UInt8), (32 : UInt8) ∉ w → (∀ v ∈ ws, (32 : UInt8) ∉ v) → splitK [32] 0 ws.length (w ++ spread ws) = w :: ws
  | [], w, _, _ => by rw [show spread [] = [] from rfl, List.append_nil]; rfl
  | v :: ws, w, h, hs => by
    have hm : ((w.length : Int) == -1) = false := by rw [beq_eq_false_iff_ne]; omega
    rw [show spread (v :: ws) = 32 :: (v ++ spread ws) from rfl, List.length_cons]
    unfold splitK
    rw [index_at1 h, hm]
    rw [if_neg (by simp), Int.toNat_natCast, show ([32] : List UInt8).length = 1 from rfl, drop_at1, Nat.add_zero, List.take_left,
      splitK_spread ws v (hs v List.mem_cons_self) (fun x hx => hs x (List.mem_cons_of_mem v hx))]
theorem split_spread {ws : List (List UInt8)} {w : List UInt8} (h : (32 : UInt8) ∉ w) (hs : ∀ v ∈ ws, (32 : UInt8) ∉ v) : splitB ⟨#[32]⟩ 0 ws.length ⟨(w ++ spread ws).toArray⟩ = (w :: ws).map fun v => ⟨v.toArray⟩ := by
  have h1 := splitB_data ⟨#[32]⟩ 0 ws.length ⟨(w ++ spread ws).toArray⟩
  rw [show (⟨#[32]⟩ : ByteArray).data.toList = [32] from rfl, show (⟨(w ++ spread ws).toArray⟩ : ByteArray).data.toList = w ++ spread ws by simp, splitK_spread ws w h hs] at h1
  have h2 : ∀ (bs : List ByteArray) (ls : List (List UInt8)), bs.map (·.data.toList) = ls → bs = ls.map fun v => ⟨v.toArray⟩ := by
    intro bs
    induction bs with
    | nil => intro ls e; subst e; rfl
    | cons b bs ih =>
      intro ls e
      subst e
      rw [List.map_cons, List.map_cons, ← ih _ rfl]
  exact h2 _ _ h1
def letterB (k : Int) : List UInt8 := if k = 1 then [114] else if k = 2 then [118] else if k = 3 then [98] else if k = 4 then [113] else []
def nameB (k : Int) : List UInt8 :=
  if k = 4 then [97, 100, 100] else if k = 5 then [115, 117, 98] else if k = 6 then [109, 117, 108] else if k = 7 then [109, 105, 110] else if k = 8 then [109, 97, 120] else if k = 9 then [108, 101, 115, 115] else
  if k = 10 then [101, 113, 117, 97, 108] else if k = 11 then [110, 101, 103] else if k = 12 then [99, 108, 97, 109, 112] else if k = 13 then [115, 104, 105, 102, 116] else if k = 14 then [100, 105, 118] else [115, 101, 108, 101, 99, 116]
/-- the fields that an instruction uses, with their kinds -/
def fieldsF (f : Frm) (x : Ins) : List (Int × Int) := [(f.d, x.d), (f.a, x.a), (f.b, x.b), (f.c, x.c), (f.n, x.n), (f.m, x.m)].filter fun y => y.1 ≠ 0
def kindW (f : Frm) (x : Ins) : List (List UInt8) := if x.op = 18 then [if x.k = 1 then [105, 110] else [111, 117, 116]] else if f.k then [nameB x.k] else []
def ifW (x : Ins) : List (List UInt8) := if x.p = 0 then [] else [[105, 102], 114 :: itoa (x.p - 1)]
/-- the words behind the first one -/
def restW (f : Frm) (x : Ins) : List (List UInt8) := kindW f x ++ ((fieldsF f x).map fun y => letterB y.1 ++ itoa y.2) ++ ifW x
def lineB (f : Frm) (x : Ins) : List UInt8 := f.word ++ spread (restW f x)
theorem dec_mem (u : Nat) : ∀ b ∈ decDigits u, ∃ d, d < 10 ∧ b = UInt8.ofNat (48 + d) := by
  induction u using Nat.strongRecOn with
  | ind u ih =>
    intro b hb
    rw [decDigits] at hb
    by_cases h : u < 10
    · rw [dif_pos h, List.mem_singleton] at hb
      exact ⟨u, h, hb⟩
    · rw [dif_neg h, List.mem_append, List.mem_singleton] at hb
      rcases hb with hb | rfl
      · exact ih (u / 10) (by omega) b hb
      · exact ⟨u % 10, by omega, rfl⟩
theorem dec_ne (u : Nat) (c : UInt8) (hc : c.toNat < 45) : c ∉ decDigits u := fun h => by
  obtain ⟨d, hd, e⟩ := dec_mem u c h
  rw [e, UInt8.toNat_ofNat'] at hc
  omega
theorem itoa_ne (n : Int) (c : UInt8) (hc : c.toNat < 45) : c ∉ itoa n := fun h => by
  unfold itoa at h
  split at h
  · rcases List.mem_cons.1 h with rfl | h
    · exact absurd hc (by decide)
    · exact dec_ne _ c hc h
  · exact dec_ne _ c hc h
theorem letter_ne (k : Int) (c : UInt8) (hc : c.toNat < 45) : c ∉ letterB k := fun h => by
  unfold letterB at h
  split at h
  · rw [List.mem_singleton] at h; subst h; exact absurd hc (by decide)
  split at h
  · rw [List.mem_singleton] at h; subst h; exact absurd hc (by decide)
  split at h
  · rw [List.mem_singleton] at h; subst h; exact absurd hc (by decide)
  split at h
  · rw [List.mem_singleton] at h; subst h; exact absurd hc (by decide)
  · simp at h
/-- all bytes are letters -/
def letters (l : List UInt8) : Bool := l.all fun b => decide (45 ≤ b.toNat)
theorem letters_ne {l : List UInt8} (h : letters l = true) (c : UInt8) (hc : c.toNat < 45) : c ∉ l := fun hm => by
  unfold letters at h
  have := of_decide_eq_true (List.all_eq_true.1 h c hm)
  omega
theorem name_letters (k : Int) : letters (nameB k) = true := by
  unfold nameB
  repeat' split
  all_goals rfl
theorem form_letters {op k : Int} {f : Frm} (h : formF op k = some f) : letters f.word = true := by
  refine form_case (P := fun _ f => letters f.word = true) h ?_ ?_ ?_ ?_ ?_ ?_ ?_ ?_ ?_ ?_ ?_ ?_ ?_ ?_ ?_ ?_ ?_ ?_ ?_ <;> rfl
theorem rest_ne {f : Frm} {x : Ins} (c : UInt8) (hc : c.toNat < 45) : ∀ w ∈ restW f x, c ∉ w := by
  intro w hw
  unfold restW at hw
  rcases List.mem_append.1 hw with hw | hw
  · rcases List.mem_append.1 hw with hw | hw
    · unfold kindW at hw
      split at hw
      · rw [List.mem_singleton] at hw
        subst hw
        split <;> exact letters_ne rfl c hc
      split at hw
      · rw [List.mem_singleton] at hw
        subst hw
        exact letters_ne (name_letters _) c hc
      · simp at hw
    · obtain ⟨y, -, rfl⟩ := List.mem_map.1 hw
      intro hm
      rcases List.mem_append.1 hm with hm | hm
      · exact letter_ne _ c hc hm
      · exact itoa_ne _ c hc hm
  · unfold ifW at hw
    split at hw
    · simp at hw
    · rcases List.mem_cons.1 hw with rfl | hw
      · exact letters_ne rfl c hc
      · rw [List.mem_singleton] at hw
        subst hw
        intro hm
        rcases List.mem_cons.1 hm with rfl | hm
        · exact absurd hc (by decide)
        · exact itoa_ne _ c hc hm
theorem spread_mem {c : UInt8} : ∀ {ws : List (List UInt8)}, c ∈ spread ws → c = 32 ∨ ∃ w ∈ ws, c ∈ w := by
  intro ws h
  obtain ⟨w, hw, hc⟩ := List.mem_flatMap.1 h
  rcases List.mem_cons.1 hc with e | hc
  · exact Or.inl e
  · exact Or.inr ⟨w, hw, hc⟩
theorem line_ne {f : Frm} {x : Ins} (h : formF x.op x.k = some f) : (10 : UInt8) ∉ lineB f x := fun hm => by
  unfold lineB at hm
  rcases List.mem_append.1 hm with hm | hm
  · exact letters_ne (form_letters h) 10 (by decide) hm
  · rcases spread_mem hm with e | ⟨w, hw, hc⟩
    · exact absurd e (by decide)
    · exact rest_ne 10 (by decide) w hw hc
/-- the words of a line are those that it was made of -/
theorem line_split {f : Frm} {x : Ins} (h : formF x.op x.k = some f) : splitB ⟨#[32]⟩ 0 (restW f x).length ⟨(lineB f x).toArray⟩ = (f.word :: restW f x).map fun v => ⟨v.toArray⟩ :=
  split_spread (letters_ne (form_letters h) 32 (by decide)) (rest_ne 32 (by decide))
theorem line_count {f : Frm} {x : Ins} (h : formF x.op x.k = some f) : count (lineB f x) [32] = (restW f x).length :=
  count_spread _ _ (letters_ne (form_letters h) 32 (by decide)) (rest_ne 32 (by decide))
/-- the word tells the operation -/
theorem word_tells : ∀ i j : Fin 19, i ≠ j → (formF ((i.val : Int) + 1) 0).map (·.word) ≠ (formF ((j.val : Int) + 1) 0).map (·.word) := by decide
/-! ### words of a code -/
theorem decode_p {op k d a : Int} (h1 : 0 ≤ op ∧ op < 64) (h2 : 0 ≤ k ∧ k < 64) (h3 : 0 ≤ d ∧ d < 32) (h4 : 0 ≤ a ∧ a < 32) :
    0 ≤ op + 64 * k + 4096 * d + 131072 * a ∧ op + 64 * k + 4096 * d + 131072 * a ≤ 4194303 ∧ (op + 64 * k + 4096 * d + 131072 * a) % 64 = op ∧ (op + 64 * k + 4096 * d + 131072 * a) / 64 % 64 = k ∧ (op + 64 * k + 4096 * d + 131072 * a) / 4096 % 32 = d ∧ (op + 64 * k + 4096 * d + 131072 * a) / 131072 = a := by
  refine ⟨?_, ?_, ?_, ?_, ?_, ?_⟩ <;> omega
theorem decode_q {b c p : Int} (h1 : 0 ≤ b ∧ b < 32) (h2 : -1000 ≤ c ∧ c ≤ 1000) (h3 : 0 ≤ p ∧ p ≤ 16) :
    0 ≤ b + 32 * (c + 1024) + 65536 * p ∧ b + 32 * (c + 1024) + 65536 * p ≤ 2097151 ∧ (b + 32 * (c + 1024) + 65536 * p) % 32 = b ∧ (b + 32 * (c + 1024) + 65536 * p) / 32 % 2048 - 1024 = c ∧ (b + 32 * (c + 1024) + 65536 * p) / 65536 = p := by
  refine ⟨?_, ?_, ?_, ?_, ?_⟩ <;> omega
end Go.Proofs.YtpcejpcbkjnlkaaGreatDoor

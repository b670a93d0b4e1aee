/- A walk by computing: operations that look at no heap. Conditions: none. A walk by computing: parts of structs and arrays, addresses, slices, builds. Conditions: none. A walk by computing: slices of slices, structs and rows that are built, new slices and maps, len. Conditions: none. A walk by computing: structs and rows that are built, new slices and maps, len and cap. Conditions: none. -/
import Derived.Test.YtpcejpcbkjnlkaaGreatDoorZa2
import Derived.IntWalk
set_option linter.unusedVariables false
namespace Go.Proofs.YtpcejpcbkjnlkaaGreatDoor.AE
noncomputable section
open Go.RowKit

section
variable {P : Program} {ev : Operand → Option Value} {look : Heap} {c : Nat}
def pureRes (v : Value) : Res := ⟨v, [], [], 0, []⟩
/-- a plain value by the model's own term -/
def plain1 (P : Program) (f : Value → Sem Value) (v : Value) : Option Value :=
  bif plainV v then (match runP P (f v) with | some u => bif plainV u then some u else none | none => none) else none
theorem plain1_ok {f : Value → Sem Value} {v u v' : Value} {σ : Sig} (h : plain1 P f v = some u) (hc : conc σ v = some v') (w : World) : (f v').run P w = .ok u w ∧ conc σ u = some u := by
  unfold plain1 at h
  cases hb : plainV v with
  | false => rw [hb] at h; cases h
  | true =>
    rw [hb, cond_true] at h
    rw [plain_conc σ v hb] at hc
    cases hc
    split at h
    case h_2 => cases h
    rename_i x hx
    cases hp : plainV x with
    | false => rw [hp] at h; cases h
    | true =>
      rw [hp, cond_true] at h
      cases h
      exact ⟨runP_run w _ _ hx, plain_conc σ _ hp⟩
def plain2 (P : Program) (f : Value → Value → Sem Value) (v x : Value) : Option Value :=
  bif plainV v && plainV x then (match runP P (f v x) with | some u => bif plainV u then some u else none | none => none) else none
theorem plain2_ok {f : Value → Value → Sem Value} {v x u v' x' : Value} {σ : Sig} (h : plain2 P f v x = some u) (hc : conc σ v = some v') (hx : conc σ x = some x') (w : World) : (f v' x').run P w = .ok u w ∧ conc σ u = some u := by
  unfold plain2 at h
  cases hb : (plainV v && plainV x) with
  | false => rw [hb] at h; cases h
  | true =>
    rw [hb, cond_true] at h
    simp only [Bool.and_eq_true] at hb
    rw [plain_conc σ v hb.1] at hc
    rw [plain_conc σ x hb.2] at hx
    cases hc; cases hx
    split at h
    case h_2 => cases h
    rename_i y hy
    cases hp : plainV y with
    | false => rw [hp] at h; cases h
    | true =>
      rw [hp, cond_true] at h
      cases h
      exact ⟨runP_run w _ _ hy, plain_conc σ _ hp⟩
def plainL' (P : Program) (f : Array Value → Sem Value) (l : Array Value) : Option Value :=
  bif plainA l then (match runP P (f l) with | some u => bif plainV u then some u else none | none => none) else none
theorem plainL'_ok {f : Array Value → Sem Value} {l l' : Array Value} {u : Value} {σ : Sig} (h : plainL' P f l = some u) (hc : concA σ l = some l') (w : World) : (f l').run P w = .ok u w ∧ conc σ u = some u := by
  unfold plainL' at h
  cases hb : plainA l with
  | false => rw [hb] at h; cases h
  | true =>
    rw [hb, cond_true] at h
    rw [plainA_conc σ l hb] at hc
    cases hc
    split at h
    case h_2 => cases h
    rename_i y hy
    cases hp : plainV y with
    | false => rw [hp] at h; cases h
    | true =>
      rw [hp, cond_true] at h
      cases h
      exact ⟨runP_run w _ _ hy, plain_conc σ _ hp⟩
def evL (ev : Operand → Option Value) : List Operand → Option (List Value)
  | [] => some []
  | x :: l => match ev x, evL ev l with
    | some v, some r => some (v :: r)
    | _, _ => none
theorem evL_ok {σ : Sig} {ρ : Operand → Value} (hk : Knows σ ev ρ) : ∀ (l : List Operand) (r : List Value), evL ev l = some r → concL σ r = some (l.map ρ)
  | [], r, h => by simp only [evL] at h; cases h; simp [concL]
  | x :: l, r, h => by
    simp only [evL] at h
    split at h
    · rename_i v q hv hq
      cases h
      simp only [concL, hk _ _ hv, evL_ok hk l q hq, List.map_cons]
    · cases h
def evA (ev : Operand → Option Value) : Array Operand → Option (Array Value)
  | ⟨l⟩ => match evL ev l with | some r => some ⟨r⟩ | none => none
theorem evA_ok {σ : Sig} {ρ : Operand → Value} (hk : Knows σ ev ρ) (a : Array Operand) (r : Array Value) (h : evA ev a = some r) : concA σ r = some (a.map ρ) := by
  obtain ⟨l⟩ := a
  simp only [evA] at h
  split at h
  · rename_i q hq
    cases h
    simp only [concA, evL_ok hk l q hq]
    simp
  · cases h

/-! ### moves, picks, nil checks -/
def moveOp (ev : Operand → Option Value) (x : Operand) : Option Res := match ev x with | some v => some (pureRes v) | none => none
theorem moveOp_does {x : Operand} {r : Res} (h : moveOp ev x = some r) : Does P ev look c (fun ρ => pure (.value (ρ x))) r := by
  unfold moveOp at h
  split at h
  case h_2 => cases h
  rename_i v hv
  cases h
  exact Does.pure fun σ w ρ hk => ⟨_, rfl, hk _ _ hv⟩
def pickOp (ev : Operand → Option Value) (q x y : Operand) : Option Res :=
  match ev q with
  | some (.bool true) => moveOp ev x
  | some (.bool false) => moveOp ev y
  | _ => none
theorem pickOp_does {q x y : Operand} {r : Res} (h : pickOp ev q x y = some r) : Does P ev look c (fun ρ => do pure (.value (if ← asBool (ρ q) then ρ x else ρ y))) r := by
  unfold pickOp at h
  split at h
  case h_3 => cases h
  all_goals
    rename_i hq
    unfold moveOp at h
    split at h
    case h_2 => cases h
    rename_i v hv
    cases h
    refine Does.pure fun σ w ρ hk => ⟨_, ?_, hk _ _ hv⟩
    have := hk _ _ hq
    simp only [conc] at this
    injection this with this
    rw [← this]
    rfl
def nilOp (ev : Operand → Option Value) (x : Operand) : Option Res :=
  match ev x with
  | some (.pointer (some a)) => some (pureRes (.pointer (some a)))
  | some (.func (.func f) u v) => some (pureRes (.func (.func f) u v))
  | _ => none
theorem nilOp_does {x : Operand} {r : Res} (h : nilOp ev x = some r) : Does P ev look c (fun ρ =>
    match ρ x with
    | .pointer none | .nilIface | .nilFunc => runtimePanic .nilDeref
    | .func (.method name) first captured =>
      match (first[0]? : Option Value) with
      | some .nilIface => runtimePanic .nilDeref
      | some (.iface t w) => do
        if (← nilAhead ((← program).types.size + Made.depth) t w name) != some false then
          unsupported (.noEntry "op/nilCheck.the method's receiver behind this interface value is a nil pointer, or cannot be seen to be none, and the arguments act or may panic (ledger 612)")
        pure (.value (.func (.method name) first captured))
      | _ => pure (.value (.func (.method name) first captured))
    | x => pure (.value x)) r := by
  unfold nilOp at h
  split at h
  case h_3 => cases h
  · rename_i a hx
    cases h
    refine Does.pure fun σ w ρ hk => ?_
    have h1 := hk _ _ hx
    have h2 := h1
    simp only [conc] at h1
    split at h1
    · injection h1 with h1
      refine ⟨ρ x, ?_, h2⟩
      rw [← h1]; rfl
    · cases h1
  · rename_i f u v hx
    cases h
    refine Does.pure fun σ w ρ hk => ?_
    have h1 := hk _ _ hx
    have h2 := h1
    simp only [conc] at h1
    split at h1
    · injection h1 with h1
      refine ⟨ρ x, ?_, h2⟩
      rw [← h1]; rfl
    · cases h1

/-! ### arithmetic and comparison -/
def isNil : Value → Bool
  | .pointer none | .slice none _ _ | .map none | .nilFunc | .nilIface => true
  | _ => false
/-- comparison with nil: are they equal -/
def nilEq (P : Program) (t : TypeId) (x y : Value) : Option Bool :=
  match P.underlying t, x, y with
  | some (.pointer _), .pointer none, .pointer (some _) => some false
  | some (.pointer _), .pointer (some _), .pointer none => some false
  | some (.slice _), .slice none _ _, .slice (some _) _ _ => some false
  | some (.slice _), .slice (some _) _ _, .slice none _ _ => some false
  | some (.map _ _), .map none, .map (some _) => some false
  | some (.map _ _), .map (some _), .map none => some false
  | some (.func _ _ _), .nilFunc, .func _ _ _ => some false
  | some (.func _ _ _), .func _ _ _, .nilFunc => some false
  | _, _, _ => none
theorem nilEq_ok {t : TypeId} {x y x' y' : Value} {b : Bool} {σ : Sig} (h : nilEq P t x y = some b) (hx : conc σ x = some x') (hy : conc σ y = some y') (w : World) : (Op.equal t x' y').run P w = .ok b w := by
  unfold nilEq at h
  split at h <;> cases h
  all_goals
    rename_i hu
    simp only [conc] at hx hy
    (try split at hx) <;> (try split at hy) <;> first | (cases hy; done) | (cases hx; done) | (cases hx; cases hy; show (Op.equalIn (9999 + 1) t _ _).run P w = _; rw [Op.equalIn.eq_2]; simp only [Sem.run_bind, run_underlying hu, Result.andThen_ok]; rfl)
def binSem (op : BinOp) (t : TypeId) (x y : Operand) (a b : Value) : Sem Value := do eqGuard op t x y a b; binOp op t a b
def notB : Bool → BinOp → Option Value
  | b, .eql => some (.bool b)
  | b, .neq => some (.bool (!b))
  | _, _ => none
/-! ### ints, by short ways -/
def wrapS : Int → Int
  | .ofNat m => bif Nat.blt m 9223372036854775808 then .ofNat m else IntKind.i64.wrap (.ofNat m)
  | .negSucc m => bif Nat.blt m 9223372036854775808 then .negSucc m else IntKind.i64.wrap (.negSucc m)
theorem wrapS_eq (n : Int) : wrapS n = IntKind.i64.wrap n := by
  cases n with
  | ofNat m =>
    simp only [wrapS]
    cases hb : Nat.blt m 9223372036854775808 with
    | false => exact cond_false _ _
    | true =>
      have : m < 9223372036854775808 := by simpa using hb
      exact (IntWalk.i64_in (Int.ofNat m) ⟨by simp only [Int.ofNat_eq_natCast]; omega, by simp only [Int.ofNat_eq_natCast]; omega⟩).symm
  | negSucc m =>
    simp only [wrapS]
    cases hb : Nat.blt m 9223372036854775808 with
    | false => exact cond_false _ _
    | true =>
      have : m < 9223372036854775808 := by simpa using hb
      exact (IntWalk.i64_in (Int.negSucc m) ⟨by omega, by omega⟩).symm
def ltB : Int → Int → Bool
  | .ofNat a, .ofNat b => Nat.blt a b
  | .negSucc _, .ofNat _ => true
  | .ofNat _, .negSucc _ => false
  | .negSucc a, .negSucc b => Nat.blt b a
theorem ltB_eq (a b : Int) : ltB a b = decide (a < b) := by
  have key : ∀ m n : Nat, Nat.blt m n = decide (m < n) := fun m n => by
    cases h : Nat.blt m n with
    | true => have : m < n := by simpa using h
              simp [this]
    | false => have : ¬ m < n := fun hh => by have : Nat.blt m n = true := by simpa using hh
                                              rw [h] at this; cases this
               simp [this]
  cases a with
  | ofNat a => cases b with
    | ofNat b => simp only [ltB, key, Int.ofNat_eq_natCast]; simp
    | negSucc b => simp only [ltB]; symm; rw [decide_eq_false_iff_not]; simp only [Int.ofNat_eq_natCast]; omega
  | negSucc a => cases b with
    | ofNat b => simp only [ltB]; symm; rw [decide_eq_true_iff]; simp only [Int.ofNat_eq_natCast]; omega
    | negSucc b => simp only [ltB, key]; congr 1; apply propext; omega
def eqB : Int → Int → Bool
  | .ofNat a, .ofNat b => Nat.beq a b
  | .negSucc a, .negSucc b => Nat.beq a b
  | _, _ => false
theorem eqB_eq (a b : Int) : eqB a b = (a == b) := by
  have key : ∀ m n : Nat, Nat.beq m n = decide (m = n) := fun m n => by
    by_cases h : m = n
    · subst h; simp
    · simp only [h, decide_false]; exact beq_no h
  cases a with
  | ofNat a => cases b with
    | ofNat b =>
      simp only [eqB, key]
      by_cases h : a = b
      · simp [h]
      · have : ¬ (a : Int) = (b : Int) := by omega
        simp [h, this]
    | negSucc b => rfl
  | negSucc a => cases b with
    | ofNat b => rfl
    | negSucc b => simp only [eqB, key]; by_cases h : a = b <;> simp [h]
def intBin (op : BinOp) : Value → Value → Option Value
  | .int .i64 a, .int .i64 b => match op with
    | .add => some (.int .i64 (wrapS (Int.add a b)))
    | .sub => some (.int .i64 (wrapS (Int.sub a b)))
    | .mul => some (.int .i64 (wrapS (Int.mul a b)))
    | .eql => some (.bool (eqB a b))
    | .neq => some (.bool (!eqB a b))
    | .lss => some (.bool (ltB a b))
    | .leq => some (.bool (!ltB b a))
    | .gtr => some (.bool (ltB b a))
    | .geq => some (.bool (!ltB a b))
    | _ => none
  | _, _ => none
theorem intBin_ok {op : BinOp} {a b v : Value} (h : intBin op a b = some v) (t : TypeId) (x y : Operand) (w : World) : (binSem op t x y a b).run P w = .ok v w ∧ plainV v = true ∧ plainV a = true ∧ plainV b = true := by
  unfold intBin at h
  split at h
  case h_2 => cases h
  rename_i a b
  have hn : ∀ a b : Int, decide (a ≤ b) = !decide (b < a) := fun a b => by
    by_cases h : a ≤ b
    · have : ¬ b < a := by omega
      simp [h, this]
    · have : b < a := by omega
      simp [h, this]
  split at h <;> cases h
  all_goals first
    | (refine ⟨?_, rfl, rfl, rfl⟩; simp [binSem, eqGuard, binOp, Op.intArith, wrapS_eq]; done)
    | (refine ⟨?_, rfl, rfl, rfl⟩; simp [binSem, eqGuard, binOp, Op.intCmp, eqB_eq, ltB_eq, hn]; done)
    | (refine ⟨?_, rfl, rfl, rfl⟩; simp [binSem, eqGuard, binOp, Op.intArith, wrapS_eq]; rfl)
    | (refine ⟨?_, rfl, rfl, rfl⟩; simp [binSem, eqGuard, binOp, Op.intCmp, eqB_eq]; rfl)
def binOpA (P : Program) (ev : Operand → Option Value) (op : BinOp) (t : TypeId) (x y : Operand) : Option Res :=
  match ev x, ev y with
  | some a, some b =>
    match intBin op a b with
    | some v => some (pureRes v)
    | none => match plain2 P (binSem op t x y) a b with
      | some v => some (pureRes v)
      | none => match nilEq P t a b with
        | some q => match notB q op with
          | some v => some (pureRes v)
          | none => none
        | none => none
  | _, _ => none
theorem binOpA_does {op : BinOp} {t : TypeId} {x y : Operand} {r : Res} (h : binOpA P ev op t x y = some r) : Does P ev look c (fun ρ => asV (binSem op t x y (ρ x) (ρ y))) r := by
  unfold binOpA at h
  split at h
  case h_2 => cases h
  rename_i a b ha hb
  split at h
  · rename_i v hv
    cases h
    refine Does.pure fun σ w ρ hk => ?_
    obtain ⟨h1, h2, h3, h4⟩ := intBin_ok (P := P) hv t x y w
    have e1 := hk _ _ ha
    have e2 := hk _ _ hb
    rw [plain_conc σ _ h3] at e1
    rw [plain_conc σ _ h4] at e2
    injection e1 with e1
    injection e2 with e2
    exact ⟨v, asV_run (by rw [← e1, ← e2]; exact h1), plain_conc σ v h2⟩
  split at h
  · rename_i v hv
    cases h
    refine Does.pure fun σ w ρ hk => ?_
    obtain ⟨h1, h2⟩ := plain2_ok hv (hk _ _ ha) (hk _ _ hb) w
    exact ⟨v, asV_run h1, h2⟩
  · split at h
    case h_2 => cases h
    rename_i q hq
    split at h
    case h_2 => cases h
    rename_i v hv
    cases h
    refine Does.pure fun σ w ρ hk => ?_
    have h1 := nilEq_ok hq (hk _ _ ha) (hk _ _ hb) w
    have hA := hk _ _ ha
    have hB := hk _ _ hb
    refine ⟨v, asV_run ?_, ?_⟩
    · unfold nilEq at hq
      split at hq <;> cases hq
      all_goals
        cases op <;> cases hv
        all_goals
          simp only [conc] at hA hB
          (try split at hA) <;> (try split at hB) <;> first | (cases hA; done) | (cases hB; done) | skip
          all_goals (injection hA with hA; injection hB with hB; rw [← hA, ← hB] at h1 ⊢; simp [binSem, eqGuard, binOp, h1])
    · cases op <;> cases hv <;> simp [conc]
end
end
end Go.Proofs.YtpcejpcbkjnlkaaGreatDoor.AE

namespace Go.Proofs.YtpcejpcbkjnlkaaGreatDoor.AE
noncomputable section
open Go.RowKit

section
variable {P : Program} {ev : Operand → Option Value} {look : Heap} {c : Nat}
def un1 (P : Program) (ev : Operand → Option Value) (f : Value → Sem Value) (x : Operand) : Option Res :=
  match ev x with
  | some v => match plain1 P f v with
    | some u => some (pureRes u)
    | none => none
  | none => none
theorem un1_does {f : Value → Sem Value} {x : Operand} {r : Res} (h : un1 P ev f x = some r) : Does P ev look c (fun ρ => asV (f (ρ x))) r := by
  unfold un1 at h
  split at h
  case h_2 => cases h
  rename_i v hv
  split at h
  case h_2 => cases h
  rename_i u hu
  cases h
  exact Does.pure fun σ w ρ hk => ⟨u, asV_run (plain1_ok hu (hk _ _ hv) w).1, (plain1_ok hu (hk _ _ hv) w).2⟩
def un2 (P : Program) (ev : Operand → Option Value) (f : Value → Value → Sem Value) (x y : Operand) : Option Res :=
  match ev x, ev y with
  | some v, some z => match plain2 P f v z with
    | some u => some (pureRes u)
    | none => none
  | _, _ => none
theorem un2_does {f : Value → Value → Sem Value} {x y : Operand} {r : Res} (h : un2 P ev f x y = some r) : Does P ev look c (fun ρ => asV (f (ρ x) (ρ y))) r := by
  unfold un2 at h
  split at h
  case h_2 => cases h
  rename_i v z hv hz
  split at h
  case h_2 => cases h
  rename_i u hu
  cases h
  exact Does.pure fun σ w ρ hk => ⟨u, asV_run (plain2_ok hu (hk _ _ hv) (hk _ _ hz) w).1, (plain2_ok hu (hk _ _ hv) (hk _ _ hz) w).2⟩

/-! ### interfaces, closures, tuples -/
def ifaceOp (P : Program) (ev : Operand → Option Value) (t : TypeId) (x : Operand) : Option Res :=
  match ev x, P.underlying t with
  | some _, some (.interface _) => none
  | some v, some _ => some (pureRes (.iface t v))
  | _, _ => none
theorem ifaceOp_does {t : TypeId} {x : Operand} {r : Res} (h : ifaceOp P ev t x = some r) : Does P ev look c (fun ρ => asV (Instr.makeInterface t (ρ x))) r := by
  unfold ifaceOp at h
  split at h
  · cases h
  · rename_i v d hno hv hu
    cases h
    refine Does.pure fun σ w ρ hk => ⟨.iface t (ρ x), asV_run ?_, by simp only [conc, hk _ _ hv]⟩
    unfold Instr.makeInterface
    rw [Sem.run_bind, run_underlying hu, Result.andThen_ok]
    cases d <;> first | rfl | exact (hno _ rfl).elim
  · cases h
def funcOp (ev : Operand → Option Value) (fn : Fn) (first captured : Array Operand) : Option Res :=
  match evA ev first, evA ev captured with
  | some a, some b => some (pureRes (.func fn a b))
  | _, _ => none
theorem funcOp_does {fn : Fn} {first captured : Array Operand} {r : Res} (h : funcOp ev fn first captured = some r) : Does P ev look c (fun ρ => asV (Instr.makeFunc fn (first.map ρ) (captured.map ρ))) r := by
  unfold funcOp at h
  split at h
  case h_2 => cases h
  rename_i a b ha hb
  cases h
  exact Does.pure fun σ w ρ hk => ⟨.func fn (first.map ρ) (captured.map ρ), asV_run rfl, by simp only [conc, evA_ok hk _ _ ha, evA_ok hk _ _ hb]⟩
def extractOp (ev : Operand → Option Value) (x : Operand) (i : Nat) : Option Res :=
  match ev x with
  | some (.tuple vs) => match vs[i]? with
    | some v => some (pureRes v)
    | none => none
  | _ => none
theorem extractOp_does {x : Operand} {i : Nat} {r : Res} (h : extractOp ev x i = some r) : Does P ev look c (fun ρ => asV (Instr.extract (ρ x) i)) r := by
  unfold extractOp at h
  split at h
  case h_2 => cases h
  rename_i vs hx
  split at h
  case h_2 => cases h
  rename_i v hv
  cases h
  refine Does.pure fun σ w ρ hk => ?_
  have h1 := hk _ _ hx
  simp only [conc] at h1
  split at h1
  case h_2 => cases h1
  rename_i vs' hvs
  injection h1 with h1
  obtain ⟨v', h2, h3⟩ := (concA_get hvs).2 i v hv
  refine ⟨v', asV_run ?_, h2⟩
  rw [← h1]
  simp [Instr.extract, h3]

/-! ### parts -/
theorem concA_extract {σ : Sig} {a a' : Array Value} (h : concA σ a = some a') (i j : Nat) : concA σ (a.extract i j) = some (a'.extract i j) := by
  obtain ⟨l⟩ := a
  obtain ⟨l'⟩ := a'
  have hl := concA_list h
  simp only at hl
  have take : ∀ (n : Nat) (l l' : List Value), concL σ l = some l' → concL σ (l.take n) = some (l'.take n) := by
    intro n
    induction n with
    | zero => intro l l' _; simp [concL]
    | succ n ih =>
      intro l l' hl
      cases l with
      | nil => simp only [concL] at hl; cases hl; simp [concL]
      | cons v l =>
        simp only [concL] at hl
        split at hl
        · rename_i v' r hv hr
          cases hl
          simp only [List.take_succ_cons, concL, hv, ih l r hr]
        · cases hl
  have drop : ∀ (n : Nat) (l l' : List Value), concL σ l = some l' → concL σ (l.drop n) = some (l'.drop n) := by
    intro n
    induction n with
    | zero => intro l l' h; simpa using h
    | succ n ih =>
      intro l l' hl
      cases l with
      | nil => simp only [concL] at hl; cases hl; simp [concL]
      | cons v l =>
        simp only [concL] at hl
        split at hl
        · rename_i v' r hv hr
          cases hl
          simpa using ih l r hr
        · cases hl
  simp only [List.extract_toArray, List.extract_eq_take_drop]
  exact concA_of (by simpa using take _ _ _ (drop i l l' hl))
def partA (P : Program) (t : TypeId) (cs : Array Value) (off : Nat) : Option Value :=
  match runP P (isAgg t) with
  | some true => match runP P (sizeOf t) with
    | some k => some (.agg (cs.extract off (off + k)))
    | none => none
  | some false => cs[off]?
  | none => none
theorem partA_ok {t : TypeId} {cs cs' : Array Value} {off : Nat} {v : Value} {σ : Sig} (h : partA P t cs off = some v) (hc : concA σ cs = some cs') (w : World) : ∃ v', (part t cs' off).run P w = .ok v' w ∧ conc σ v = some v' := by
  unfold partA at h
  split at h
  · rename_i hag
    split at h
    case h_2 => cases h
    rename_i k hk
    cases h
    refine ⟨.agg (cs'.extract off (off + k)), ?_, by simp only [conc, concA_extract hc]⟩
    simp [part, runP_run w _ _ hag, runP_run w _ _ hk]
  · rename_i hag
    obtain ⟨v', h2, h3⟩ := (concA_get hc).2 off v h
    refine ⟨v', ?_, h2⟩
    simp [part, runP_run w _ _ hag, h3]
  · cases h
theorem conc_agg {σ : Sig} {cs : Array Value} {v' : Value} (h : conc σ (.agg cs) = some v') : ∃ cs', concA σ cs = some cs' ∧ v' = .agg cs' := by
  simp only [conc] at h
  split at h
  · rename_i cs' hcs; cases h; exact ⟨cs', hcs, rfl⟩
  · cases h
def fieldOp (P : Program) (ev : Operand → Option Value) (t : TypeId) (x : Operand) (f : Nat) : Option Res :=
  match P.underlying t, ev x with
  | some (.struct fields), some (.agg cs) => match fields[f]? with
    | some fd => match partA P fd.type cs fd.offset with
      | some v => some (pureRes v)
      | none => none
    | none => none
  | _, _ => none
theorem fieldOp_does {t : TypeId} {x : Operand} {f : Nat} {r : Res} (h : fieldOp P ev t x f = some r) : Does P ev look c (fun ρ => asV (Instr.field t (ρ x) f)) r := by
  unfold fieldOp at h
  split at h
  case h_2 => cases h
  rename_i fields cs hu hx
  split at h
  case h_2 => cases h
  rename_i fd hfd
  split at h
  case h_2 => cases h
  rename_i v hv
  cases h
  refine Does.pure fun σ w ρ hk => ?_
  obtain ⟨cs', h1, h2⟩ := conc_agg (hk _ _ hx)
  obtain ⟨v', h3, h4⟩ := partA_ok hv h1 w
  refine ⟨v', asV_run ?_, h4⟩
  rw [h2]
  simp [Instr.field, run_underlying hu, hfd, asAgg, h3]
def fieldAddrOp (P : Program) (ev : Operand → Option Value) (t : TypeId) (x : Operand) (f : Nat) : Option Res :=
  match P.underlying t, ev x with
  | some (.struct fields), some (.pointer (some ⟨n, off, none⟩)) => match fields[f]? with
    | some fd => match runP P (sizeOf fd.type) with
      | some (_ + 1) => some (pureRes (.pointer (some ⟨n, off + fd.offset, none⟩)))
      | _ => none
    | none => none
  | _, _ => none
theorem fieldAddrOp_does {t : TypeId} {x : Operand} {f : Nat} {r : Res} (h : fieldAddrOp P ev t x f = some r) : Does P ev look c (fun ρ => asV (Instr.fieldAt t (ρ x) f)) r := by
  unfold fieldAddrOp at h
  split at h
  case h_2 => cases h
  rename_i fields n off hu hx
  split at h
  case h_2 => cases h
  rename_i fd hfd
  split at h
  case h_2 => cases h
  rename_i k hk'
  cases h
  refine Does.pure fun σ w ρ hk => ?_
  obtain ⟨p, h1, h2⟩ := conc_ptr (hk _ _ hx)
  refine ⟨.pointer (some ⟨p.1, off + fd.offset, none⟩), asV_run ?_, by simp only [conc, h1]⟩
  rw [h2]
  simp [Instr.fieldAt, run_underlying hu, hfd, Instr.sureAddr, fieldPlace, runP_run w _ _ hk', add_at]
theorem conc_slice {σ : Sig} {n off l cp : Nat} {v' : Value} (h : conc σ (.slice (some ⟨n, off, none⟩) l cp) = some v') : ∃ p, σ n = some p ∧ v' = .slice (some ⟨p.1, off, none⟩) l (if cp < BIG then cp else p.2 - (cp - BIG)) := by
  simp only [conc] at h
  split at h
  · rename_i p hp; cases h; exact ⟨p, hp, rfl⟩
  · cases h
def indexAddrOp (P : Program) (ev : Operand → Option Value) (t : TypeId) (x i : Operand) : Option Res :=
  match P.underlying t, ev x, ev i with
  | some (.slice elem), some (.slice (some ⟨n, off, none⟩) l _), some (.int _ (.ofNat j)) => match runP P (sizeOf elem) with
    | some k => bif Nat.blt j l then some (pureRes (.pointer (some ⟨n, off + j * k, none⟩))) else none
    | none => none
  | some (.array l elem), some (.pointer (some ⟨n, off, none⟩)), some (.int _ (.ofNat j)) => match runP P (sizeOf elem) with
    | some k => bif Nat.blt j l then some (pureRes (.pointer (some ⟨n, off + j * k, none⟩))) else none
    | none => none
  | _, _, _ => none
theorem indexAddrOp_does {t : TypeId} {x i : Operand} {r : Res} (h : indexAddrOp P ev t x i = some r) : Does P ev look c (fun ρ => asV (Instr.indexAt t (ρ x) (ρ i))) r := by
  unfold indexAddrOp at h
  split at h
  case h_3 => cases h
  · rename_i elem n off l cp kd j hu hx hi
    split at h
    case h_2 => cases h
    rename_i k hk'
    cases hb : Nat.blt j l with
    | false => rw [hb] at h; cases h
    | true =>
      rw [hb, cond_true] at h
      have hb : j < l := by simpa using hb
      cases h
      refine Does.pure fun σ w ρ hk => ?_
      obtain ⟨p, h1, h2⟩ := conc_slice (hk _ _ hx)
      have h3 := hk _ _ hi
      simp only [conc] at h3
      injection h3 with h3
      refine ⟨.pointer (some ⟨p.1, off + j * k, none⟩), asV_run ?_, by simp only [conc, h1]⟩
      rw [h2, ← h3]
      simp [Instr.indexAt, asIntOf, run_underlying hu, runP_run w _ _ hk', add_at, hb]
  · rename_i l elem n off kd j hu hx hi
    split at h
    case h_2 => cases h
    rename_i k hk'
    cases hb : Nat.blt j l with
    | false => rw [hb] at h; cases h
    | true =>
      rw [hb, cond_true] at h
      have hb : j < l := by simpa using hb
      cases h
      refine Does.pure fun σ w ρ hk => ?_
      obtain ⟨p, h1, h2⟩ := conc_ptr (hk _ _ hx)
      have h3 := hk _ _ hi
      simp only [conc] at h3
      injection h3 with h3
      refine ⟨.pointer (some ⟨p.1, off + j * k, none⟩), asV_run ?_, by simp only [conc, h1]⟩
      rw [h2, ← h3]
      simp [Instr.indexAt, asIntOf, run_underlying hu, runP_run w _ _ hk', add_at, hb, Instr.sureAddr]
def indexOp (P : Program) (ev : Operand → Option Value) (t : TypeId) (x i : Operand) : Option Res :=
  match un2 P ev (Instr.index t) x i with
  | some r => some r
  | none => match P.underlying t, ev x, ev i with
    | some (.array l elem), some (.agg cs), some (.int _ (.ofNat j)) => match runP P (sizeOf elem) with
      | some k => bif Nat.blt j l then (match partA P elem cs (j * k) with | some v => some (pureRes v) | none => none) else none
      | none => none
    | _, _, _ => none
theorem indexOp_does {t : TypeId} {x i : Operand} {r : Res} (h : indexOp P ev t x i = some r) : Does P ev look c (fun ρ => asV (Instr.index t (ρ x) (ρ i))) r := by
  unfold indexOp at h
  split at h
  · rename_i r' hr
    cases h
    exact un2_does hr
  · split at h
    case h_2 => cases h
    rename_i l elem cs kd j hu hx hi
    split at h
    case h_2 => cases h
    rename_i k hk'
    cases hb : Nat.blt j l with
    | false => rw [hb] at h; cases h
    | true =>
      rw [hb, cond_true] at h
      have hb : j < l := by simpa using hb
      split at h
      case h_2 => cases h
      rename_i v hv
      cases h
      refine Does.pure fun σ w ρ hk => ?_
      obtain ⟨cs', h1, h2⟩ := conc_agg (hk _ _ hx)
      have h3 := hk _ _ hi
      simp only [conc] at h3
      injection h3 with h3
      obtain ⟨v', h4, h5⟩ := partA_ok hv h1 w
      refine ⟨v', asV_run ?_, h5⟩
      rw [h2, ← h3]
      simp [Instr.index, asIntOf, run_underlying hu, runP_run w _ _ hk', hb, h4]
end
end
end Go.Proofs.YtpcejpcbkjnlkaaGreatDoor.AE

namespace Go.Proofs.YtpcejpcbkjnlkaaGreatDoor.AE
noncomputable section
open Go.RowKit

section
variable {P : Program} {ev : Operand → Option Value} {look : Heap} {c : Nat}
/-- an operation that reads names but leaves the heap -/
theorem Does.reads {s : (Operand → Value) → Sem Next} {v : Value} {reads : List Nat} (h : ∀ σ w E ρ, Sat σ E w → (∀ n ∈ reads, E n = look n) → Knows σ ev ρ → ∃ v', (s ρ).run P w = .ok (.value v') w ∧ conc σ v = some v') : Does P ev look c s ⟨v, [], [], 0, reads⟩ := by
  intro σ w E ρ hs _ hr hk
  obtain ⟨v', h1, h2⟩ := h σ w E ρ hs hr hk
  exact ⟨_, v', σ, w, h1, .inl rfl, h2, (Run.stay hs).congr (fun _ h => h.elim) (fun _ => rfl) (fun n hn => by simp [Res.W] at hn) (fun _ _ _ => trivial)⟩
def evNat (ev : Operand → Option Value) (o : Option Operand) (d : Nat) : Option Nat :=
  match o with
  | none => some d
  | some x => match ev x with
    | some (.int _ (.ofNat j)) => some j
    | _ => none
theorem sliceBound_ok {x : Operand} {d a y : Nat} {code : BoundsCode} {σ : Sig} {ρ : Operand → Value} (hk : Knows σ ev ρ) (h : evNat ev (some x) d = some a) (ha : a ≤ y) (w : World) : (Instr.sliceBound (ρ x) y code).run P w = .ok a w := by
  simp only [evNat] at h
  split at h
  case h_2 => cases h
  rename_i kd j hx
  cases h
  have h1 := hk _ _ hx
  simp only [conc] at h1
  injection h1 with h1
  rw [← h1]
  simp [Instr.sliceBound, asIntOf, ha]
theorem bounds_ok {s : Bool} {l cap : Nat} {lo hi : Option Operand} {a b : Nat} {σ : Sig} {ρ : Operand → Value} (hk : Knows σ ev ρ) (h1 : evNat ev lo 0 = some a) (h2 : evNat ev hi l = some b) (hab : a ≤ b) (hb : b ≤ cap) (w : World) :
    (Instr.sliceBounds s l cap (lo.map ρ) (hi.map ρ) none).run P w = .ok (a, b, cap) w := by
  unfold Instr.sliceBounds
  cases hi with
  | none =>
    simp only [evNat] at h2
    cases h2
    cases lo with
    | none => simp only [evNat] at h1; cases h1; simp
    | some x => simp [sliceBound_ok hk h1 hab]
  | some y =>
    have e2 := fun code => sliceBound_ok (P := P) (code := code) hk h2 hb w
    cases lo with
    | none => simp only [evNat] at h1; cases h1; simp [e2]
    | some x => simp [e2, sliceBound_ok hk h1 hab]
def slicePlain (P : Program) (ev : Operand → Option Value) (t : TypeId) (x : Operand) (lo hi : Option Operand) : Option Value :=
  match ev x, lo, hi with
  | some v, none, none => plain1 P (fun v => Instr.sliceAt t v none none none) v
  | some v, some a, none => match ev a with | some u => plain2 P (fun v u => Instr.sliceAt t v (some u) none none) v u | none => none
  | some v, none, some b => match ev b with | some u => plain2 P (fun v u => Instr.sliceAt t v none (some u) none) v u | none => none
  | some v, some a, some b => match ev a, ev b with
    | some p, some q => bif plainV p && plainV q then plain1 P (fun v => Instr.sliceAt t v (some p) (some q) none) v else none
    | _, _ => none
  | none, _, _ => none
theorem slicePlain_ok {t : TypeId} {x : Operand} {lo hi : Option Operand} {u : Value} {σ : Sig} {ρ : Operand → Value} (hk : Knows σ ev ρ) (h : slicePlain P ev t x lo hi = some u) (w : World) :
    (Instr.sliceAt t (ρ x) (lo.map ρ) (hi.map ρ) none).run P w = .ok u w ∧ conc σ u = some u := by
  unfold slicePlain at h
  split at h
  · rename_i v hx; exact plain1_ok h (hk _ _ hx) w
  · rename_i v a hx
    split at h
    case h_2 => cases h
    rename_i q hq
    exact plain2_ok h (hk _ _ hx) (hk _ _ hq) w
  · rename_i v b hx
    split at h
    case h_2 => cases h
    rename_i q hq
    exact plain2_ok h (hk _ _ hx) (hk _ _ hq) w
  · rename_i v a b hx
    split at h
    case h_2 => cases h
    rename_i p q hp hq
    cases hb : (plainV p && plainV q) with
    | false => rw [hb] at h; cases h
    | true =>
      rw [hb, cond_true] at h
      simp only [Bool.and_eq_true] at hb
      have e1 := hk _ _ hp
      have e2 := hk _ _ hq
      rw [plain_conc σ _ hb.1] at e1
      rw [plain_conc σ _ hb.2] at e2
      injection e1 with e1
      injection e2 with e2
      have := plain1_ok h (hk _ _ hx) w
      rw [e1, e2] at this
      exact this
  · cases h
theorem slice_run {t elem : TypeId} {b' off l m a b k : Nat} {lo hi : Option Value} (hu : P.underlying t = some (.slice elem)) (hk : runP P (sizeOf elem) = some k) (w : World)
    (hrun : (Instr.sliceBounds true l m lo hi none).run P w = .ok (a, b, m) w) (hq : a = 0 ∨ ¬ m = a) : (Instr.sliceAt t (.slice (some ⟨b', off, none⟩) l m) lo hi none).run P w = .ok (.slice (some ⟨b', off + a * k, none⟩) (b - a) (m - a)) w := by
  by_cases h0 : a = 0
  · subst h0
    simp [Instr.sliceAt, Instr.slice, run_underlying hu, hrun, runP_run w _ _ hk, add_at]
  · have hne : ¬ m = a := hq.resolve_left h0
    simp [Instr.sliceAt, Instr.slice, run_underlying hu, hrun, runP_run w _ _ hk, hne, add_at]
def sliceOp (P : Program) (ev : Operand → Option Value) (look : Heap) (t : TypeId) (x : Operand) (lo hi mx : Option Operand) : Option Res :=
  match mx with
  | some _ => none
  | none => match slicePlain P ev t x lo hi with
    | some u => some (pureRes u)
    | none => match P.underlying t, ev x with
      | some (.slice elem), some (.slice (some ⟨n, off, none⟩) l cp) => match evNat ev lo 0, evNat ev hi l, runP P (sizeOf elem) with
        | some a, some b, some k =>
          bif Nat.blt cp BIG then
            (bif Nat.ble a b && Nat.ble b cp && Nat.blt a cp then some (pureRes (.slice (some ⟨n, off + a * k, none⟩) (b - a) (cp - a))) else
             bif Nat.ble a b && Nat.ble b cp && Nat.beq a cp then some (pureRes (.slice (some ⟨n, off, none⟩) (b - a) (cp - a))) else none)
          else match look n with
            | some (.row len _ _ _ (some k')) =>
              bif Nat.beq k' k && Nat.blt 0 k && Nat.beq off ((cp - BIG) * k) && Nat.ble (off + b * k) len && Nat.ble a b && (Nat.beq a 0 || Nat.blt (off + a * k) len) then some ⟨.slice (some ⟨n, off + a * k, none⟩) (b - a) (cp + a), [], [], 0, [n]⟩ else none
            | _ => none
        | _, _, _ => none
      | some (.array m elem), some (.pointer (some ⟨n, off, none⟩)) => match evNat ev lo 0, evNat ev hi m, runP P (sizeOf elem) with
        | some a, some b, some k => bif Nat.ble a b && Nat.ble b m && Nat.blt a m && Nat.blt m BIG then some (pureRes (.slice (some ⟨n, off + a * k, none⟩) (b - a) (m - a))) else none
        | _, _, _ => none
      | _, _ => none
theorem sliceOp_does {t : TypeId} {x : Operand} {lo hi mx : Option Operand} {r : Res} (h : sliceOp P ev look t x lo hi mx = some r) : Does P ev look c (fun ρ => asV (Instr.sliceAt t (ρ x) (lo.map ρ) (hi.map ρ) (mx.map ρ))) r := by
  unfold sliceOp at h
  split at h
  · cases h
  split at h
  · rename_i u hu
    cases h
    exact Does.pure fun σ w ρ hk => ⟨u, asV_run (slicePlain_ok hk hu w).1, (slicePlain_ok hk hu w).2⟩
  split at h
  · rename_i elem n off l cp hu hx
    split at h
    case h_2 => cases h
    rename_i a b k ha hb hk'
    cases hcp : Nat.blt cp BIG with
    | true =>
      rw [hcp, cond_true] at h
      have hcp' : cp < BIG := by simpa using hcp
      cases h1 : (Nat.ble a b && Nat.ble b cp && Nat.blt a cp) with
      | true =>
        rw [h1, cond_true] at h
        cases h
        simp only [Bool.and_eq_true] at h1
        obtain ⟨⟨b1, b2⟩, b3⟩ := h1
        have b1 := Nat.le_of_ble_eq_true b1
        have b2 := Nat.le_of_ble_eq_true b2
        have b3 : a < cp := by simpa using b3
        refine Does.pure fun σ w ρ hk => ?_
        obtain ⟨p, e1, e2⟩ := conc_slice (hk _ _ hx)
        rw [if_pos hcp'] at e2
        refine ⟨.slice (some ⟨p.1, off + a * k, none⟩) (b - a) (cp - a), asV_run ?_, ?_⟩
        · rw [e2]
          have hne : ¬ cp = a := by omega
          simp [Instr.sliceAt, Instr.slice, run_underlying hu, bounds_ok hk ha hb b1 b2 w, runP_run w _ _ hk', hne, add_at]
        · simp only [conc, e1]
          rw [if_pos (by omega)]
      | false =>
        rw [h1, cond_false] at h
        cases h2 : (Nat.ble a b && Nat.ble b cp && Nat.beq a cp) with
        | false => rw [h2] at h; cases h
        | true =>
          rw [h2, cond_true] at h
          cases h
          simp only [Bool.and_eq_true] at h2
          obtain ⟨⟨b1, b2⟩, b3⟩ := h2
          have b1 := Nat.le_of_ble_eq_true b1
          have b2 := Nat.le_of_ble_eq_true b2
          have b3 := Nat.eq_of_beq_eq_true b3
          refine Does.pure fun σ w ρ hk => ?_
          obtain ⟨p, e1, e2⟩ := conc_slice (hk _ _ hx)
          rw [if_pos hcp'] at e2
          refine ⟨.slice (some ⟨p.1, off, none⟩) (b - a) (cp - a), asV_run ?_, ?_⟩
          · rw [e2]
            have hrun := bounds_ok (P := P) (s := true) (cap := cp) hk ha hb b1 b2 w
            subst b3
            simp [Instr.sliceAt, Instr.slice, run_underlying hu, hrun, runP_run w _ _ hk']
          · simp only [conc, e1]
            rw [if_pos (by omega)]
    | false =>
      rw [hcp, cond_false] at h
      have hcp' : ¬ cp < BIG := by
        intro e
        rw [show Nat.blt cp BIG = true by simpa using e] at hcp
        cases hcp
      split at h
      case h_2 => cases h
      rename_i len cells d e k' hl
      cases hb' : (Nat.beq k' k && Nat.blt 0 k && Nat.beq off ((cp - BIG) * k) && Nat.ble (off + b * k) len && Nat.ble a b && (Nat.beq a 0 || Nat.blt (off + a * k) len)) with
      | false => rw [hb'] at h; cases h
      | true =>
        rw [hb', cond_true] at h
        cases h
        simp only [Bool.and_eq_true, Bool.or_eq_true] at hb'
        obtain ⟨⟨⟨⟨⟨b1, b2⟩, b3⟩, b4⟩, b5⟩, b6⟩ := hb'
        have b1 := Nat.eq_of_beq_eq_true b1
        have b2 : 0 < k := by simpa using b2
        have b3 := Nat.eq_of_beq_eq_true b3
        have b4 := Nat.le_of_ble_eq_true b4
        have b5 := Nat.le_of_ble_eq_true b5
        subst b1
        refine Does.reads fun σ w E ρ hs hr hk => ?_
        obtain ⟨p, e1, e2⟩ := conc_slice (hk _ _ hx)
        rw [if_neg hcp'] at e2
        have hE : E n = some (.row len cells d e (some k')) := by rw [hr n (by simp), hl]
        obtain ⟨C, fr, g1, g2, g3, g4, g5⟩ := (hs.obj n _ hE).row e1
        obtain ⟨g4, g6⟩ := g4
        have q1 : cp - BIG + b ≤ p.2 := by
          have : (cp - BIG + b) * k' ≤ p.2 * k' := by rw [Nat.add_mul]; omega
          exact Nat.le_of_mul_le_mul_right this b2
        have q2 : a = 0 ∨ cp - BIG + a < p.2 := by
          rcases b6 with b6 | b6
          · exact .inl (Nat.eq_of_beq_eq_true b6)
          · have b6 : off + a * k' < len := by simpa using b6
            have : (cp - BIG + a) * k' < p.2 * k' := by rw [Nat.add_mul]; omega
            exact .inr (Nat.lt_of_mul_lt_mul_right this)
        refine ⟨.slice (some ⟨p.1, off + a * k', none⟩) (b - a) (p.2 - (cp - BIG) - a), asV_run ?_, ?_⟩
        · rw [e2]
          exact slice_run hu hk' w (bounds_ok hk ha hb b5 (by omega) w) (q2.imp id (fun h => by omega))
        · simp only [conc, e1]
          rw [if_neg (by omega), show p.2 - (cp + a - BIG) = p.2 - (cp - BIG) - a by omega]
  · rename_i m elem n off hu hx
    split at h
    case h_2 => cases h
    rename_i a b k ha hb hk'
    cases h1 : (Nat.ble a b && Nat.ble b m && Nat.blt a m && Nat.blt m BIG) with
    | false => rw [h1] at h; cases h
    | true =>
      rw [h1, cond_true] at h
      cases h
      simp only [Bool.and_eq_true] at h1
      obtain ⟨⟨⟨b1, b2⟩, b3⟩, b4⟩ := h1
      have b1 := Nat.le_of_ble_eq_true b1
      have b2 := Nat.le_of_ble_eq_true b2
      have b3 : a < m := by simpa using b3
      have b4 : m < BIG := by simpa using b4
      refine Does.pure fun σ w ρ hk => ?_
      obtain ⟨p, e1, e2⟩ := conc_ptr (hk _ _ hx)
      refine ⟨.slice (some ⟨p.1, off + a * k, none⟩) (b - a) (m - a), asV_run ?_, ?_⟩
      · rw [e2]
        have hne : ¬ m = a := by omega
        simp [Instr.sliceAt, Instr.sureAddr, run_underlying hu, bounds_ok hk ha hb b1 b2 w, runP_run w _ _ hk', hne, add_at]
      · simp only [conc, e1]
        rw [if_pos (by omega)]
  · cases h
end
end
end Go.Proofs.YtpcejpcbkjnlkaaGreatDoor.AE

namespace Go.Proofs.YtpcejpcbkjnlkaaGreatDoor.AE
noncomputable section
open Go.RowKit

section
variable {P : Program} {ev : Operand → Option Value} {look : Heap} {c : Nat}
theorem concA_set {σ : Sig} {a a' : Array Value} {v v' : Value} (h : concA σ a = some a') (hv : conc σ v = some v') (i : Nat) : concA σ (a.setIfInBounds i v) = some (a'.setIfInBounds i v') := by
  have key : ∀ (l l' : List Value) (i : Nat), concL σ l = some l' → concL σ (l.set i v) = some (l'.set i v') := by
    intro l
    induction l with
    | nil => intro l' i h; simp only [concL] at h; cases h; simp [concL]
    | cons x l ih =>
      intro l' i h
      simp only [concL] at h
      split at h
      · rename_i x' r hx hr
        cases h
        cases i with
        | zero => simp only [List.set_cons_zero, concL, hv, hr]
        | succ i => simp only [List.set_cons_succ, concL, hx, ih r i hr]
      · cases h
  have := key a.toList a'.toList i (concA_list h)
  obtain ⟨l⟩ := a
  obtain ⟨l'⟩ := a'
  simpa using concA_of (a := (⟨l⟩ : Array Value).setIfInBounds i v) (by simpa using this)
theorem conc_fold {σ : Sig} (off : Nat) : ∀ (l l' : List Value) (k : Nat) (a a' : Array Value), concL σ l = some l' → concA σ a = some a' →
    concA σ ((l.zipIdx k).foldl (fun cs x => cs.setIfInBounds (off + x.2) x.1) a) = some ((l'.zipIdx k).foldl (fun cs x => cs.setIfInBounds (off + x.2) x.1) a')
  | [], l', k, a, a', h, ha => by simp only [concL] at h; cases h; simpa using ha
  | v :: l, l', k, a, a', h, ha => by
    simp only [concL] at h
    split at h
    · rename_i v' r hv hr
      cases h
      simp only [List.zipIdx_cons, List.foldl_cons]
      exact conc_fold off l r (k + 1) _ _ hr (concA_set ha hv _)
    · cases h
theorem cells_size {σ : Sig} {v v' : Value} (h : conc σ v = some v') : v'.cells.size = v.cells.size := by
  have := (concL_get _ _ (conc_cells h)).1
  simpa using this
theorem fill_conc {σ : Sig} (place : Nat → Option (Nat × Nat)) : ∀ (ps ps' : List (Nat × Value)) (a a' r : Array Value), ps.length = ps'.length → (∀ (j : Nat) (x y : Nat × Value), ps[j]? = some x → ps'[j]? = some y → x.1 = y.1 ∧ conc σ x.2 = some y.2) → concA σ a = some a' →
    Instr.fill place a ps = some r → ∃ r', Instr.fill place a' ps' = some r' ∧ concA σ r = some r'
  | [], ps', a, a', r, hlen, _, ha, h => by
    cases ps' with
    | nil => simp only [Instr.fill] at h ⊢; cases h; exact ⟨a', rfl, ha⟩
    | cons => simp at hlen
  | (i, v) :: ps, ps', a, a', r, hlen, hp, ha, h => by
    cases ps' with
    | nil => simp at hlen
    | cons y ps' =>
      obtain ⟨i', v'⟩ := y
      obtain ⟨e1, e2⟩ := hp 0 (i, v) (i', v') (by simp) (by simp)
      simp only at e1 e2
      subst e1
      simp only [Instr.fill] at h ⊢
      cases hpl : place i with
      | none => rw [hpl] at h; cases h
      | some q =>
        obtain ⟨off, size⟩ := q
        rw [hpl] at h
        simp only at h ⊢
        have hs := cells_size e2
        have hsa : a'.size = a.size := (concA_get ha).1
        rw [hs, hsa]
        split at h
        · cases h
        · rename_i hno
          rw [if_neg hno]
          refine fill_conc place ps ps' _ _ r (by simpa using hlen) (fun j x y hx hy => hp (j + 1) x y (by simpa using hx) (by simpa using hy)) ?_ h
          have := conc_fold off v.cells.toList v'.cells.toList 0 a a' (conc_cells e2) ha
          rw [← Array.foldl_toList, ← Array.foldl_toList, Array.toList_zipIdx, Array.toList_zipIdx]
          exact this
def evParts (ev : Operand → Option Value) : List (Nat × Operand) → Option (List (Nat × Value))
  | [] => some []
  | (i, x) :: l => match ev x, evParts ev l with
    | some v, some r => some ((i, v) :: r)
    | _, _ => none
theorem evParts_ok {σ : Sig} {ρ : Operand → Value} (hk : Knows σ ev ρ) : ∀ (l : List (Nat × Operand)) (r : List (Nat × Value)), evParts ev l = some r →
    r.length = (l.map fun x => (x.1, ρ x.2)).length ∧ ∀ (j : Nat) (x y : Nat × Value), r[j]? = some x → (l.map fun x => (x.1, ρ x.2))[j]? = some y → x.1 = y.1 ∧ conc σ x.2 = some y.2
  | [], r, h => by simp only [evParts] at h; cases h; exact ⟨rfl, fun j x y hx => by simp at hx⟩
  | (i, x) :: l, r, h => by
    simp only [evParts] at h
    split at h
    · rename_i v q hv hq
      cases h
      obtain ⟨h1, h2⟩ := evParts_ok hk l q hq
      refine ⟨by simp at h1 ⊢; omega, fun j x y hx hy => ?_⟩
      cases j with
      | zero => simp at hx hy; subst hx; subst hy; exact ⟨rfl, hk _ _ hv⟩
      | succ j => simp at hx; exact h2 j x y hx (by simpa using hy)
    · cases h
def zeroOf (P : Program) (t : TypeId) : Option Value :=
  match P.info? t with
  | some i => match i.zero with
    | some z => bif plainV z then some z else none
    | none => none
  | none => none
theorem zeroOf_spec {t : TypeId} {z : Value} (h : zeroOf P t = some z) : ∃ i, P.info? t = some i ∧ i.zero = some z ∧ plainV z = true := by
  unfold zeroOf at h
  split at h
  case h_2 => cases h
  rename_i i hi
  split at h
  case h_2 => cases h
  rename_i z' hz
  cases hb : plainV z' with
  | false => rw [hb] at h; cases h
  | true => rw [hb, cond_true] at h; cases h; exact ⟨i, hi, hz, hb⟩
theorem plain_cells {z : Value} (σ : Sig) (h : plainV z = true) : concA σ z.cells = some z.cells := by
  have := concA_of (conc_cells (plain_conc σ z h))
  simpa using this
theorem built_conc {σ : Sig} {t : TypeId} {z : Value} (hz : zeroOf P t = some z) {ps ps' : List (Nat × Value)} {r : Array Value} (hlen : ps.length = ps'.length) (hp : ∀ (j : Nat) (x y : Nat × Value), ps[j]? = some x → ps'[j]? = some y → x.1 = y.1 ∧ conc σ x.2 = some y.2)
    (h : P.built t ps = some r) : ∃ r', P.built t ps' = some r' ∧ concA σ r = some r' := by
  obtain ⟨i, hi, hiz, hb⟩ := zeroOf_spec hz
  unfold Program.built at h ⊢
  rw [hi] at h ⊢
  split at h
  · rename_i it n e h1 h2
    cases h1
    simp only [hiz] at h ⊢
    split at h
    · rename_i z2 ie hz2 hie
      cases hz2
      exact fill_conc _ ps ps' _ _ r hlen hp (plain_cells σ hb) h
    · cases h
  · rename_i it fields h1 h2
    cases h1
    simp only [hiz] at h ⊢
    split at h
    · rename_i z2 pl hz2 hpl
      cases hz2
      exact fill_conc _ ps ps' _ _ r hlen hp (plain_cells σ hb) h
    · cases h
  · cases h
def buildOp (P : Program) (ev : Operand → Option Value) (t : TypeId) (parts : Array (Nat × Operand)) : Option Res :=
  match zeroOf P t, evParts ev parts.toList with
  | some _, some ps => match P.built t ps with
    | some cs => some (pureRes (.agg cs))
    | none => none
  | _, _ => none
theorem buildOp_does {t : TypeId} {parts : Array (Nat × Operand)} {r : Res} (h : buildOp P ev t parts = some r) : Does P ev look c (fun ρ => asV (Instr.build t (parts.map fun (i, x) => (i, ρ x)))) r := by
  unfold buildOp at h
  split at h
  case h_2 => cases h
  rename_i z ps hz hps
  split at h
  case h_2 => cases h
  rename_i cs hcs
  cases h
  refine Does.pure fun σ w ρ hk => ?_
  obtain ⟨h1, h2⟩ := evParts_ok hk _ _ hps
  obtain ⟨r', h3, h4⟩ := built_conc hz h1 h2 hcs
  refine ⟨.agg r', asV_run (run_build w t _ r' ?_), by simp only [conc, h4]⟩
  simpa using h3
/-! ### rows that are built, new slices and maps -/
def buildSliceOp (P : Program) (ev : Operand → Option Value) (c : Nat) (t : TypeId) (len : Nat) (parts : Array (Nat × Operand)) : Option Res :=
  match P.underlying t, evParts ev parts.toList with
  | some (.slice elem), some ps => match zeroOf P elem, runP P (sizeOf elem) with
    | some z, some k =>
      bif Nat.ble (len * k) 16777216 && Nat.blt 0 (len * k) then
        (match Instr.fill (fun i => some (i * k, k)) ((Array.range (len * k)).map (z.cells[· % z.cells.size]!)) ps with
        | some cs => some (oneNew c (.slice (some ⟨c, 0, none⟩) len len) (rowOf cs.toList elem) [])
        | none => none)
      else bif Nat.beq (len * k) 0 && Nat.blt len BIG then
        (match Instr.fill (fun i => some (i * k, k)) #[] ps with
        | some cs => some (oneNew c (.slice (some ⟨c, 0, none⟩) len len) (rowOf cs.toList elem) [])
        | none => none) else none
    | _, _ => none
  | _, _ => none
theorem zero_run {t : TypeId} {z : Value} (h : zeroOf P t = some z) (w : World) : (zeroValue t).run P w = .ok z w := by
  obtain ⟨i, hi, hz, _⟩ := zeroOf_spec h
  simp [zeroValue, typeInfo, hi, hz]
theorem repeat_plain {z : Value} (σ : Sig) (h : plainV z = true) (n : Nat) : concA σ ((Array.range n).map (z.cells[· % z.cells.size]!)) = some ((Array.range n).map (z.cells[· % z.cells.size]!)) := by
  have h0 := plain_cells σ h
  have hone : ∀ i : Nat, conc σ (z.cells[i]!) = some (z.cells[i]!) := by
    intro i
    by_cases hi : i < z.cells.size
    · obtain ⟨v', h1, h2⟩ := (concA_get h0).2 i z.cells[i] (by simp [hi])
      have : v' = z.cells[i] := by simpa [hi] using h2.symm
      subst this
      simpa [hi] using h1
    · have : z.cells[i]! = default := by simp [hi]
      rw [this]
      rfl
  have : ∀ l : List Value, (∀ v ∈ l, conc σ v = some v) → concL σ l = some l := by
    intro l
    induction l with
    | nil => intro _; simp [concL]
    | cons v l ih => intro hv; simp only [concL, hv v (by simp), ih (fun u hu => hv u (by simp [hu]))]
  refine concA_of (this _ fun v hv => ?_)
  simp at hv
  obtain ⟨a, _, rfl⟩ := hv
  exact hone _
theorem buildSliceOp_does {t : TypeId} {len : Nat} {parts : Array (Nat × Operand)} {r : Res} (h : buildSliceOp P ev c t len parts = some r) : Does P ev look c (fun ρ => asV (Instr.buildSlice t len (parts.map fun (i, x) => (i, ρ x)))) r := by
  unfold buildSliceOp at h
  split at h
  case h_2 => cases h
  rename_i elem ps hu hps
  split at h
  case h_2 => cases h
  rename_i z k hz hk'
  have hb := (zeroOf_spec hz).choose_spec.2.2
  have key : ∀ (zs cs : Array Value), (∀ w, (if len * k = 0 then pure #[] else do pure (← zeroValue elem).cells : Sem (Array Value)).run P w = .ok (if len * k = 0 then #[] else z.cells) w) → zs = (Array.range (len * k)).map ((if len * k = 0 then #[] else z.cells)[· % (if len * k = 0 then #[] else z.cells).size]!) → len * k ≤ 16777216 → len < BIG → (∀ σ, concA σ zs = some zs) →
      Instr.fill (fun i => some (i * k, k)) zs ps = some cs → Does P ev look c (fun ρ => asV (Instr.buildSlice t len (parts.map fun (i, x) => (i, ρ x)))) (oneNew c (.slice (some ⟨c, 0, none⟩) len len) (rowOf cs.toList elem) []) := by
    intro zs cs hzr hzs hle hlb hcz hfill
    refine oneNew_does fun σ w E ρ hs _ hk => ?_
    obtain ⟨h1, h2⟩ := evParts_ok hk _ _ hps
    obtain ⟨r', h3, h4⟩ := fill_conc (σ := σ) _ ps _ _ _ cs h1 h2 (hcz σ) hfill
    refine ⟨.cells r' elem, 0, .slice (some ⟨w.heap.size, 0, none⟩) len len, asV_run ?_, fun σ' he => ?_, ?_⟩
    · have h3' : Instr.fill (fun i => some (i * k, k)) zs (List.map (fun x => (x.fst, ρ x.snd)) parts.toList) = some r' := h3
      rw [hzs] at h3'
      have hno : ¬ (len * k > 2 ^ 24) := by omega
      have hz' := hzr w
      unfold Instr.buildSlice
      by_cases h0 : len * k = 0
      · simp only [if_pos h0] at h3'
        simp only [Sem.run_bind, run_underlying hu, runP_run w _ _ hk', Result.andThen_ok, if_neg hno, if_pos h0, Array.toList_map, Sem.run_pure, h3', newRow]
        simp
      · simp only [if_neg h0] at h3' hz'
        have hz2 : (zeroValue elem).run P w = .ok z w := zero_run hz w
        simp only [Sem.run_bind, run_underlying hu, runP_run w _ _ hk', Result.andThen_ok, if_neg hno, if_neg h0, Array.toList_map, Sem.run_pure, hz2, h3', newRow]
        simp
    · have := isRow (concL_ext he _ _ (concA_list h4)) elem 0
      simpa using this
    · simp only [conc, upd_same]
      rw [if_pos hlb]
  cases h1 : (Nat.ble (len * k) 16777216 && Nat.blt 0 (len * k)) with
  | true =>
    rw [h1, cond_true] at h
    split at h
    case h_2 => cases h
    rename_i cs hcs
    cases h
    simp only [Bool.and_eq_true] at h1
    have b1 := Nat.le_of_ble_eq_true h1.1
    have b2 : 0 < len * k := by simpa using h1.2
    have hne : ¬ len * k = 0 := by omega
    exact key _ cs (fun w => by rw [if_neg hne, if_neg hne]; simp [zero_run hz]) (by rw [if_neg hne]) b1 (by have : len ≤ len * k := Nat.le_mul_of_pos_right _ (Nat.pos_of_ne_zero (fun e => hne (by rw [e]; simp))); simp only [BIG]; omega) (fun σ => repeat_plain σ hb _) hcs
  | false =>
    rw [h1, cond_false] at h
    cases h2 : (Nat.beq (len * k) 0 && Nat.blt len BIG) with
    | false => rw [h2] at h; cases h
    | true =>
      rw [h2, cond_true] at h
      split at h
      case h_2 => cases h
      rename_i cs hcs
      cases h
      simp only [Bool.and_eq_true] at h2
      have b1 := Nat.eq_of_beq_eq_true h2.1
      exact key #[] cs (fun w => by rw [if_pos b1, if_pos b1]; rfl) (by rw [b1]; simp) (by omega) (by simpa using h2.2) (fun σ => by simp [concA, concL]) hcs
end
end
end Go.Proofs.YtpcejpcbkjnlkaaGreatDoor.AE

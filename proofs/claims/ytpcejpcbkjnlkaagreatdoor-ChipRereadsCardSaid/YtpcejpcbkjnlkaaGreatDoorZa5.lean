/- A walk by computing: full slices, iteration, entries of maps, type assertions. Conditions: none. A walk by computing: a step through a map whose next entry is the only one. Conditions: none. A walk by computing: one operation. Conditions: none. A walk by computing: what an operation or a call leaves; the state of a walk. Conditions: none. -/
import Derived.Test.YtpcejpcbkjnlkaaGreatDoorZa4
set_option linter.unusedVariables false
namespace Go.Proofs.YtpcejpcbkjnlkaaGreatDoor.AE
noncomputable section
open Go.RowKit

section
variable {P : Program} {ev : Operand → Option Value} {look : Heap} {c : Nat}
/-! ### slices with three indexes -/
theorem bounds3_ok {l cap : Nat} {lo : Option Operand} {hi mx : Operand} {a b m : Nat} {σ : Sig} {ρ : Operand → Value} (hk : Knows σ ev ρ) (h1 : evNat ev lo 0 = some a) (h2 : evNat ev (some hi) 0 = some b) (h3 : evNat ev (some mx) 0 = some m) (hab : a ≤ b) (hbm : b ≤ m) (hm : m ≤ cap) (w : World) :
    (Instr.sliceBounds true l cap (lo.map ρ) (some (ρ hi)) (some (ρ mx))).run P w = .ok (a, b, m) w := by
  unfold Instr.sliceBounds
  have e3 := fun code => sliceBound_ok (P := P) (code := code) hk h3 hm w
  have e2 := fun code => sliceBound_ok (P := P) (code := code) hk h2 hbm w
  cases lo with
  | none => simp only [evNat] at h1; cases h1; simp [e2, e3]
  | some x => simp [e2, e3, sliceBound_ok hk h1 hab]
def slice3Op (P : Program) (ev : Operand → Option Value) (t : TypeId) (x : Operand) (lo : Option Operand) (hi mx : Operand) : Option Res :=
  match P.underlying t, evNat ev lo 0, evNat ev (some hi) 0, evNat ev (some mx) 0 with
  | some (.slice elem), some a, some b, some m =>
    match ev x, runP P (sizeOf elem) with
    | some (.slice (some ⟨n, off, none⟩) _ cp), some k =>
      bif Nat.ble a b && Nat.ble b m && Nat.blt m BIG && (Nat.beq m 0 || (Nat.blt cp BIG && Nat.ble m cp)) then some (pureRes (.slice (some ⟨n, bif Nat.beq m a then off else off + a * k, none⟩) (b - a) (m - a))) else none
    | some (.slice none _ cp), some _ => bif Nat.ble a b && Nat.ble b m && Nat.ble m cp then some (pureRes (.slice none (b - a) (m - a))) else none
    | _, _ => none
  | _, _, _, _ => none
theorem slice3Op_does {t : TypeId} {x : Operand} {lo : Option Operand} {hi mx : Operand} {r : Res} (h : slice3Op P ev t x lo hi mx = some r) : Does P ev look c (fun ρ => asV (Instr.sliceAt t (ρ x) (lo.map ρ) (some (ρ hi)) (some (ρ mx)))) r := by
  unfold slice3Op at h
  split at h
  case h_2 => cases h
  rename_i elem a b m hu ha hb hm
  split at h
  · rename_i n off l cp k hx hk'
    cases hc : (Nat.ble a b && Nat.ble b m && Nat.blt m BIG && (Nat.beq m 0 || (Nat.blt cp BIG && Nat.ble m cp))) with
    | false => rw [hc] at h; cases h
    | true =>
      rw [hc, cond_true] at h
      cases h
      simp only [Bool.and_eq_true, Bool.or_eq_true] at hc
      obtain ⟨⟨⟨c1, c2⟩, c3⟩, c4⟩ := hc
      have c1 := Nat.le_of_ble_eq_true c1
      have c2 := Nat.le_of_ble_eq_true c2
      have c3 := blt_lt c3
      refine Does.pure fun σ w ρ hk => ?_
      obtain ⟨p, hp, ex⟩ := conc_slice (hk _ _ hx)
      have hcap : m ≤ (if cp < BIG then cp else p.2 - (cp - BIG)) := by
        rcases c4 with c4 | ⟨c4, c5⟩
        · have := Nat.eq_of_beq_eq_true c4; omega
        · rw [if_pos (blt_lt c4)]; exact Nat.le_of_ble_eq_true c5
      have hr := bounds3_ok (P := P) (l := l) hk ha hb hm c1 c2 hcap w
      refine ⟨.slice (some ⟨p.1, bif Nat.beq m a then off else off + a * k, none⟩) (b - a) (m - a), asV_run ?_, ?_⟩
      · rw [ex]
        show (Instr.sliceAt t _ _ _ _).run P w = .ok (.slice (some ⟨p.1, bif Nat.beq m a then off else off + a * k, none⟩) (b - a) (m - a)) w
        cases hma : Nat.beq m a with
        | true =>
          have := Nat.eq_of_beq_eq_true hma
          simp [Instr.sliceAt, Instr.slice, run_underlying hu, hr, runP_run w _ _ hk', this]
        | false =>
          have hne : ¬ m = a := fun e => by subst e; simp at hma
          simp [Instr.sliceAt, Instr.slice, run_underlying hu, hr, runP_run w _ _ hk', hne, add_at]
      · have : m - a < BIG := by omega
        simp only [conc, hp, if_pos this]
  · rename_i l cp k hx hk'
    cases hc : (Nat.ble a b && Nat.ble b m && Nat.ble m cp) with
    | false => rw [hc] at h; cases h
    | true =>
      rw [hc, cond_true] at h
      cases h
      simp only [Bool.and_eq_true] at hc
      obtain ⟨⟨c1, c2⟩, c3⟩ := hc
      refine Does.pure fun σ w ρ hk => ?_
      have ex := hk _ _ hx
      simp only [conc] at ex
      injection ex with ex
      have hr := bounds3_ok (P := P) (l := l) hk ha hb hm (Nat.le_of_ble_eq_true c1) (Nat.le_of_ble_eq_true c2) (Nat.le_of_ble_eq_true c3) w
      refine ⟨.slice none (b - a) (m - a), asV_run ?_, by simp only [conc]⟩
      rw [← ex]
      simp [Instr.sliceAt, Instr.slice, run_underlying hu, hr, runP_run w _ _ hk']
  · cases h

/-! ### iteration -/
def rangeOp (P : Program) (ev : Operand → Option Value) (look : Heap) (c : Nat) (t : TypeId) (x : Operand) : Option Res :=
  match P.underlying t, ev x with
  | some .string, some (.string s) => some (oneNew c (.pointer (some ⟨c, 0, none⟩)) (.strIter s 0) [])
  | some (.map _ _), some (.map none) => some (oneNew c (.pointer (some ⟨c, 0, none⟩)) (.mapIter none 0 [] 0) [])
  | some (.map _ _), some (.map (some m)) => match look m with
    | some (.map _ clock) => some (oneNew c (.pointer (some ⟨c, 0, none⟩)) (.mapIter (some m) clock [] clock) [m])
    | _ => none
  | _, _ => none
theorem rangeOp_does {t : TypeId} {x : Operand} {r : Res} (h : rangeOp P ev look c t x = some r) : Does P ev look c (fun ρ => asV (Instr.range t (ρ x))) r := by
  unfold rangeOp at h
  split at h
  · rename_i s hu hx
    cases h
    refine oneNew_does fun σ w E ρ hs _ hk => ⟨.stringIter s 0, 0, .pointer (some ⟨w.heap.size, 0, none⟩), asV_run ?_, fun σ' he => rfl, by simp only [conc, upd_same]⟩
    have := hk _ _ hx
    simp only [conc] at this
    injection this with this
    rw [← this]
    simp [Instr.range, run_underlying hu, newObj, Sem.run]
  · rename_i k e hu hx
    cases h
    refine oneNew_does fun σ w E ρ hs _ hk => ⟨.mapIter none 0 #[] 0, 0, .pointer (some ⟨w.heap.size, 0, none⟩), asV_run ?_, fun σ' he => rfl, by simp only [conc, upd_same]⟩
    have := hk _ _ hx
    simp only [conc] at this
    injection this with this
    rw [← this]
    simp [Instr.range, run_underlying hu, newObj, Sem.run]
  · rename_i k e m hu hx
    split at h
    case h_2 => cases h
    rename_i es clock hl
    cases h
    refine oneNew_does fun σ w E ρ hs hr hk => ?_
    obtain ⟨p, hp, e⟩ := conc_map (hk _ _ hx)
    have hE : E m = some (.map es clock) := by rw [hr m (by simp), hl]
    obtain ⟨l, h1, h2⟩ := (hs.obj m _ hE).map hp
    refine ⟨.mapIter (some p.1) clock #[] clock, 0, .pointer (some ⟨w.heap.size, 0, none⟩), asV_run ?_, fun σ' he => ⟨p, he _ _ hp, rfl⟩, by simp only [conc, upd_same]⟩
    rw [e]
    have hg := run_getMap (P := P) h2
    simp [Instr.range, run_underlying hu, hg, newObj, Sem.run]
  · cases h
def nextStr (ev : Operand → Option Value) (look : Heap) (x : Operand) : Option Res :=
  match ev x with
  | some (.pointer (some ⟨n, 0, none⟩)) => match look n with
    | some (.strIter s pos) => bif Nat.blt pos s.size then
        some ⟨.tuple #[.bool true, goInt pos, .int .i32 (Utf8.decode s pos).1], [(n, .strIter s (pos + (Utf8.decode s pos).2))], [], 0, [n]⟩
      else some ⟨.tuple #[.bool false], [], [], 0, [n]⟩
    | _ => none
  | _ => none
theorem nextStr_does {t : TypeId} {x : Operand} {r : Res} (h : nextStr ev look x = some r) : Does P ev look c (fun ρ => asV (Instr.next (ρ x) true t)) r := by
  unfold nextStr at h
  split at h
  case h_2 => cases h
  rename_i n hx
  split at h
  case h_2 => cases h
  rename_i s pos hl
  cases hb : Nat.blt pos s.size with
  | true =>
    rw [hb, cond_true] at h
    cases h
    intro σ w E ρ hs hf hr hk
    obtain ⟨p, hp, ex⟩ := conc_ptr (hk _ _ hx)
    have hE : E n = some (.strIter s pos) := by rw [hr n (by simp), hl]
    obtain ⟨b', cap, h1, h2⟩ := hs.obj n _ hE
    rw [hp] at h1
    cases h1
    have h2 : w.heap[b']? = some (.stringIter s pos) := h2
    have hg : (getObj b').run P w = .ok (.stringIter s pos) w := by simp [getObj, Sem.run, h2]
    have hlt := blt_lt hb
    refine ⟨_, .tuple #[.bool true, goInt pos, .int .i32 (Utf8.decode s pos).1], σ, _, asV_run ?_, .inl rfl, by simp [conc, concA, concL, goInt], (obj_write c hs (.strIter s pos) (.strIter s (pos + (Utf8.decode s pos).2)) (.stringIter s (pos + (Utf8.decode s pos).2)) hE hp rfl).congr (fun m hm => by subst hm; simp [Res.W]) (fun m => rfl) (fun m hm => ?_) (fun _ _ _ => trivial)⟩
    · rw [ex]
      simp [Instr.next, hg, hlt, run_setOther (P := P) h2 (by simp)]
    · simp [Res.W] at hm
      subst hm
      exact .inl ⟨_, hE⟩
  | false =>
    rw [hb, cond_false] at h
    cases h
    refine Does.reads fun σ w E ρ hs hr hk => ?_
    obtain ⟨p, hp, ex⟩ := conc_ptr (hk _ _ hx)
    have hE : E n = some (.strIter s pos) := by rw [hr n (by simp), hl]
    obtain ⟨b', cap, h1, h2⟩ := hs.obj n _ hE
    rw [hp] at h1
    cases h1
    have h2 : w.heap[b']? = some (.stringIter s pos) := h2
    have hg : (getObj b').run P w = .ok (.stringIter s pos) w := by simp [getObj, Sem.run, h2]
    have hlt : ¬ pos < s.size := fun hh => by have : Nat.blt pos s.size = true := by simpa using hh
                                              rw [hb] at this; cases this
    refine ⟨.tuple #[.bool false], asV_run ?_, by simp [conc, concA, concL]⟩
    rw [ex]
    simp [Instr.next, hg, hlt]

/-! ### entries of maps -/
def mapEntryOp (P : Program) (ev : Operand → Option Value) (look : Heap) (t : TypeId) (m i : Operand) : Option Res :=
  match P.underlying t, ev i, ev m with
  | some (.map kt et), some k, some (.map (some r)) => match look r with
    | some (.map es clock) => bif plainV k then
        (match runP P (Instr.checkKey false 10000 kt k), findA P kt k es with
        | some (), some (some j) => match es[j]? with
          | some e => match stays P e.key k with
            | some k' => some ⟨.tuple #[e.val, goInt e.born], [(r, .map (es.modify j fun y => { y with key := k', val := e.val }) clock)], [], 0, [r]⟩
            | none => none
          | none => none
        | some (), some none => match zeroOf P et with
          | some z => some ⟨.tuple #[z, goInt clock], [(r, .map (es ++ [⟨k, z, clock⟩]) (clock + 1))], [], 0, [r]⟩
          | none => none
        | _, _ => none) else none
    | _ => none
  | _, _, _ => none
theorem mapEntryOp_does {t : TypeId} {m i : Operand} {r : Res} (h : mapEntryOp P ev look t m i = some r) : Does P ev look c (fun ρ => asV (Instr.mapEntry t (ρ m) (ρ i))) r := by
  unfold mapEntryOp at h
  split at h
  case h_2 => cases h
  rename_i kt et k r' hu hi hm
  split at h
  case h_2 => cases h
  rename_i es clock hl
  cases hp : plainV k with
  | false => rw [hp] at h; cases h
  | true =>
    rw [hp, cond_true] at h
    have common : ∀ (σ : Sig) (w : World) (E : Heap) (ρ : Operand → Value), Sat σ E w → (∀ n ∈ [r'], E n = look n) → Knows σ ev ρ →
        ∃ p l, E r' = some (.map es clock) ∧ σ r' = some p ∧ Ents σ es l ∧ w.heap[p.1]? = some (.map l.toArray clock) ∧ ρ i = k ∧ ρ m = .map (some p.1) := fun σ w E ρ hs hr hk => by
      have e1 := hk _ _ hi
      rw [plain_conc σ _ hp] at e1
      injection e1 with e1
      obtain ⟨p, hp', e2⟩ := conc_map (hk _ _ hm)
      have hE : E r' = some (.map es clock) := by rw [hr r' (by simp), hl]
      obtain ⟨l, h1, h2⟩ := (hs.obj r' _ hE).map hp'
      exact ⟨p, l, hE, hp', h1, h2, e1.symm, e2⟩
    split at h
    · rename_i j hck hfa
      split at h
      case h_2 => cases h
      rename_i e hej
      split at h
      case h_2 => cases h
      rename_i k' hst
      cases h
      intro σ w E ρ hs hf hr hk
      obtain ⟨p, l, hE, hp', h1, h2, e1, e2⟩ := common σ w E ρ hs hr hk
      obtain ⟨kk, u, g1, g2, g3⟩ := h1.get j e hej
      obtain ⟨b, b1, b2⟩ := findA_ok hfa h1 w
      match b, b2 with
      | some (j', v'), ⟨q1, e', q2, q3⟩ =>
        subst q1
        rw [g1] at q2
        cases q2
        simp only at q3
        subst q3
        unfold stays at hst
        split at hst
        case h_2 => cases hst
        rename_i k2 hk2
        cases hpk : plainV k2 with
        | false => rw [hpk] at hst; cases hst
        | true =>
          rw [hpk, cond_true] at hst
          cases hst
          have hkk : kk = e.key := by
            unfold findA at hfa
            cases hall : es.all (fun e => plainV e.key) with
            | false => rw [hall] at hfa; cases hfa
            | true =>
              have := List.all_eq_true.1 hall e (List.mem_of_getElem? hej)
              rw [plain_conc σ _ this] at g2
              cases g2; rfl
          have hmod : l.modify j (fun e => { e with key := k', val := u }) = l.modify j (fun e => { e with key := k' }) := by
            refine List.ext_getElem? fun i => ?_
            rw [List.getElem?_modify, List.getElem?_modify]
            by_cases hij : j = i
            · subst hij; rw [g1]; simp
            · simp [hij]
          have hset := obj_write c hs (.map es clock) (.map (es.modify j fun e' => { e' with key := k', val := e.val }) clock) (.map (l.modify j fun e' => { e' with key := k', val := u }).toArray clock) hE hp' ⟨_, h1.modify (plain_conc σ k' hpk) g3 j, rfl⟩
          refine ⟨_, .tuple #[u, goInt e.born], σ, _, asV_run ?_, .inl rfl, by simp [conc, concA, concL, g3, goInt], hset.congr (fun m hm => by subst hm; simp [Res.W]) (fun m => rfl) (fun m hm => ?_) (fun _ _ _ => trivial)⟩
          · rw [e1, e2, hmod]
            have hst2 := runP_run w _ _ hk2
            rw [← hkk] at hst2
            simp [Instr.mapEntry, run_underlying hu, run_getMap h2, runP_run w _ _ hck, b1, g1, hst2, run_setOther (P := P) h2 (by simp)]
          · simp [Res.W] at hm
            subst hm
            exact .inl ⟨_, hE⟩
    · rename_i hck hfa
      split at h
      case h_2 => cases h
      rename_i z hz
      cases h
      obtain ⟨inf, _, _, hpz⟩ := zeroOf_spec hz
      intro σ w E ρ hs hf hr hk
      obtain ⟨p, l, hE, hp', h1, h2, e1, e2⟩ := common σ w E ρ hs hr hk
      obtain ⟨b, b1, b2⟩ := findA_ok hfa h1 w
      match b, b2 with
      | none, _ =>
        have hset := obj_write c hs (.map es clock) (.map (es ++ [(⟨k, z, clock⟩ : AEntry)]) (clock + 1)) (.map (l ++ [(⟨k, z, clock⟩ : MapEntry)]).toArray (clock + 1)) hE hp' ⟨_, Ents.append h1 (e := (⟨k, z, clock⟩ : AEntry)) (plain_conc σ k hp) (plain_conc σ z hpz), rfl⟩
        refine ⟨_, .tuple #[z, goInt clock], σ, _, asV_run ?_, .inl rfl, by simp [conc, concA, concL, plain_conc σ z hpz, goInt], hset.congr (fun m hm => by subst hm; simp [Res.W]) (fun m => rfl) (fun m hm => ?_) (fun _ _ _ => trivial)⟩
        · rw [e1, e2]
          simp [Instr.mapEntry, run_underlying hu, run_getMap h2, runP_run w _ _ hck, b1, zero_run hz, run_setOther (P := P) h2 (by simp)]
        · simp [Res.W] at hm
          subst hm
          exact .inl ⟨_, hE⟩
    · cases h
def findBorn (b : Nat) : List AEntry → Nat → Option Nat
  | [], _ => none
  | e :: l, i => bif Nat.beq e.born b then some i else findBorn b l (i + 1)
theorem findBorn_ok {σ : Sig} {b : Nat} {es : List AEntry} {l : List MapEntry} (h : Ents σ es l) : ∀ (i j : Nat), findBorn b es i = some j → ∃ k, j = i + k ∧ l.findIdx? (fun e => (e.born : Int) == (b : Int)) = some k := by
  induction h with
  | nil => intro i j hj; simp [findBorn] at hj
  | @cons e l0 l' k v hk hv _ ih =>
    intro i j hj
    simp only [findBorn] at hj
    rw [List.findIdx?_cons]
    cases hb : Nat.beq e.born b with
    | true =>
      rw [hb, cond_true] at hj
      cases hj
      have := Nat.eq_of_beq_eq_true hb
      exact ⟨0, rfl, by simp [this]⟩
    | false =>
      rw [hb, cond_false] at hj
      obtain ⟨k', h1, h2⟩ := ih (i + 1) j hj
      have hne : ¬ e.born = b := fun e' => by rw [e'] at hb; simp at hb
      have hne' : ¬ (e.born : Int) = (b : Int) := fun e' => hne (by omega)
      refine ⟨k' + 1, by omega, ?_⟩
      simp [hne', h2]
theorem Ents.modifyV {σ : Sig} {es : List AEntry} {l : List MapEntry} (h : Ents σ es l) {v v' : Value} (hv : conc σ v = some v') : ∀ i, Ents σ (es.modify i fun e => { e with val := v }) (l.modify i fun e => { e with val := v' }) := by
  induction h with
  | nil => intro i; simp; exact .nil
  | cons h1 h2 h3 ih =>
    intro i
    cases i with
    | zero => exact .cons (e := { ‹AEntry› with val := v }) h1 hv h3
    | succ i => exact .cons h1 h2 (ih i)
def entryStoreOp (ev : Operand → Option Value) (look : Heap) (m s x : Operand) : Option Res :=
  match ev m, ev s, ev x with
  | some (.map (some r)), some (.int .i64 (.ofNat b)), some v => match look r with
    | some (.map es clock) => match findBorn b es 0 with
      | some j => some ⟨undef, [(r, .map (es.modify j fun e => { e with val := v }) clock)], [], 0, [r]⟩
      | none => none
    | _ => none
  | _, _, _ => none
theorem entryStoreOp_does {t : TypeId} {m s x : Operand} {r : Res} (h : entryStoreOp ev look m s x = some r) : Does P ev look c (fun ρ => asU (Instr.entryStore t (ρ m) (ρ s) (ρ x))) r := by
  unfold entryStoreOp at h
  split at h
  case h_2 => cases h
  rename_i r' b v hm hst hx
  split at h
  case h_2 => cases h
  rename_i es clock hl
  split at h
  case h_2 => cases h
  rename_i j hj
  cases h
  intro σ w E ρ hs hf hr hk
  obtain ⟨p, hp', e2⟩ := conc_map (hk _ _ hm)
  have hE : E r' = some (.map es clock) := by rw [hr r' (by simp), hl]
  obtain ⟨l, h1, h2⟩ := (hs.obj r' _ hE).map hp'
  obtain ⟨k, q1, q2⟩ := findBorn_ok h1 0 j hj
  have e3 := conc_int (hk _ _ hst)
  have hjk : j = k := by omega
  subst hjk
  refine ⟨.skip, undef, σ, _, asU_run ?_, .inr ⟨rfl, rfl⟩, conc_undef σ, (obj_write c hs (.map es clock) (.map (es.modify j fun e => { e with val := v }) clock) (.map (l.modify j fun e => { e with val := ρ x }).toArray clock) hE hp' ⟨_, h1.modifyV (hk _ _ hx) j, rfl⟩).congr (fun m hm => by subst hm; simp [Res.W]) (fun m => rfl) (fun m hm => ?_) (fun _ _ _ => trivial)⟩
  · rw [e2, e3]
    simp [Instr.entryStore, run_getMap h2, asInt, asIntOf, q2, run_setOther (P := P) h2 (by simp)]
  · simp [Res.W] at hm
    subst hm
    exact .inl ⟨_, hE⟩
end
end
end Go.Proofs.YtpcejpcbkjnlkaaGreatDoor.AE

namespace Go.Proofs.YtpcejpcbkjnlkaaGreatDoor.AE
noncomputable section
open Go.RowKit

section
variable {P : Program} {ev : Operand → Option Value} {look : Heap} {c : Nat}
theorem Ents.filterB {σ : Sig} {es : List AEntry} {l : List MapEntry} (h : Ents σ es l) (p : Nat → Bool) : Ents σ (es.filter fun e => p e.born) (l.filter fun e => p e.born) := by
  induction h with
  | nil => exact .nil
  | @cons e l0 l' k v hk hv _ ih =>
    simp only [List.filter_cons]
    cases p e.born with
    | true => exact .cons hk hv ih
    | false => exact ih
theorem Ents.allB {σ : Sig} {es : List AEntry} {l : List MapEntry} (h : Ents σ es l) (p : Nat → Bool) : (l.all fun e => p e.born) = es.all fun e => p e.born := by
  induction h with
  | nil => rfl
  | cons _ _ _ ih => simp only [List.all_cons, ih]
def nextMap (ev : Operand → Option Value) (look : Heap) (x : Operand) : Option Res :=
  match ev x with
  | some (.pointer (some ⟨n, 0, none⟩)) => match look n with
    | some (.mapIter none _ _ _) => some ⟨.tuple #[.bool false], [], [], 0, [n]⟩
    | some (.mapIter (some m) since seen last) => match look m with
      | some (.map es clock) =>
        bif !seen.isEmpty && !es.isEmpty && es.all (fun e => Nat.ble last e.born) then none else
          (match es.filter fun e => !seen.contains e.born with
          | [] => some ⟨.tuple #[.bool false], [], [], 0, [n, m]⟩
          | [e] => bif Nat.blt e.born since then some ⟨.tuple #[.bool true, e.key, e.val], [(n, .mapIter (some m) since (seen ++ [e.born]) clock)], [], 0, [n, m]⟩ else none
          | _ => none)
      | _ => none
    | _ => none
  | _ => none
theorem nextMap_does {t : TypeId} {x : Operand} {r : Res} (h : nextMap ev look x = some r) : Does P ev look c (fun ρ => asV (Instr.next (ρ x) false t)) r := by
  unfold nextMap at h
  split at h
  case h_2 => cases h
  rename_i n hx
  split at h
  · rename_i since seen last hl
    cases h
    refine Does.reads fun σ w E ρ hs hr hk => ?_
    obtain ⟨p, hp, ex⟩ := conc_ptr (hk _ _ hx)
    have hE : E n = some (.mapIter none since seen last) := by rw [hr n (by simp), hl]
    obtain ⟨b', cap, h1, h2⟩ := hs.obj n _ hE
    rw [hp] at h1
    cases h1
    have h2 : w.heap[b']? = some (.mapIter none since seen.toArray last) := h2
    have hg : (getObj b').run P w = .ok (.mapIter none since seen.toArray last) w := by simp [getObj, Sem.run, h2]
    refine ⟨.tuple #[.bool false], asV_run ?_, by simp [conc, concA, concL]⟩
    rw [ex]
    simp [Instr.next, hg]
  · rename_i m since seen last hl
    split at h
    case h_2 => cases h
    rename_i es clock hlm
    cases hbad : (!seen.isEmpty && !es.isEmpty && es.all (fun e => Nat.ble last e.born)) with
    | true => rw [hbad] at h; cases h
    | false =>
      rw [hbad, cond_false] at h
      have common : ∀ (σ : Sig) (w : World) (E : Heap) (ρ : Operand → Value), Sat σ E w → (∀ k ∈ [n, m], E k = look k) → Knows σ ev ρ →
          ∃ p q l, E n = some (.mapIter (some m) since seen last) ∧ σ n = some p ∧ σ m = some q ∧ Ents σ es l ∧ w.heap[p.1]? = some (.mapIter (some q.1) since seen.toArray last) ∧ w.heap[q.1]? = some (.map l.toArray clock) ∧ ρ x = .pointer (some ⟨p.1, 0, none⟩) ∧
            (!seen.toArray.isEmpty && !l.toArray.isEmpty && l.toArray.all (fun e => decide (e.born ≥ last))) = false ∧ l.toArray.filter (fun e => !seen.toArray.contains e.born) = (l.filter fun e => !seen.contains e.born).toArray := fun σ w E ρ hs hr hk => by
        obtain ⟨p, hp, ex⟩ := conc_ptr (hk _ _ hx)
        have hE : E n = some (.mapIter (some m) since seen last) := by rw [hr n (by simp), hl]
        have hEm : E m = some (.map es clock) := by rw [hr m (by simp), hlm]
        obtain ⟨b', cap, h1, h2⟩ := hs.obj n _ hE
        rw [hp] at h1
        cases h1
        obtain ⟨q, hq, h2⟩ := h2
        obtain ⟨l, h3, h4⟩ := (hs.obj m _ hEm).map hq
        refine ⟨_, q, l, hE, hp, hq, h3, h2, h4, ex, ?_, by simp⟩
        have ha := h3.allB (fun b => Nat.ble last b)
        have hemp : l.isEmpty = es.isEmpty := by cases h3 <;> rfl
        rw [← ha, ← hemp] at hbad
        rw [← hbad]
        have : ∀ e : MapEntry, decide (e.born ≥ last) = Nat.ble last e.born := fun e => by
          cases hb : Nat.ble last e.born with
          | true => simpa using hb
          | false =>
            have : ¬ last ≤ e.born := fun hh => by rw [Nat.ble_eq_true_of_le hh] at hb; cases hb
            simpa using this
        simp only [this]
        simp
      split at h
      · rename_i hleft
        cases h
        refine Does.reads fun σ w E ρ hs hr hk => ?_
        obtain ⟨p, q, l, hE, hp, hq, h3, h4, h5, ex, hb1, hb2⟩ := common σ w E ρ hs hr hk
        have hf := h3.filterB (fun b => !seen.contains b)
        rw [hleft] at hf
        have hnil : (l.filter fun e => !seen.contains e.born) = [] := by
          generalize (l.filter fun e => !seen.contains e.born) = ll at hf
          cases hf; rfl
        have hg1 : (getObj p.1).run P w = .ok (.mapIter (some q.1) since seen.toArray last) w := by simp [getObj, Sem.run, h4]
        have hg2 := run_getMap (P := P) h5
        refine ⟨.tuple #[.bool false], asV_run ?_, by simp [conc, concA, concL]⟩
        rw [ex]
        unfold Instr.next
        simp only [Sem.run_bind, hg1, Result.andThen_ok, hg2, hb1, hb2, hnil]
        simp [choose, Sem.run, Question.forced]
      · rename_i e hleft
        cases hb : Nat.blt e.born since with
        | false => rw [hb] at h; cases h
        | true =>
          rw [hb, cond_true] at h
          cases h
          have hlt := blt_lt hb
          intro σ w E ρ hs hf hr hk
          obtain ⟨p, q, l, hE, hp, hq, h3, h4, h5, ex, hb1, hb2⟩ := common σ w E ρ hs hr hk
          have hf := h3.filterB (fun b => !seen.contains b)
          rw [hleft] at hf
          obtain ⟨k, v, hone, hck, hcv⟩ : ∃ k v, (l.filter fun e => !seen.contains e.born) = [⟨k, v, e.born⟩] ∧ conc σ e.key = some k ∧ conc σ e.val = some v := by
            generalize (l.filter fun e => !seen.contains e.born) = ll at hf
            cases hf with
            | cons h6 h7 h8 => cases h8; exact ⟨_, _, rfl, h6, h7⟩
          have hg1 : (getObj p.1).run P w = .ok (.mapIter (some q.1) since seen.toArray last) w := by simp [getObj, Sem.run, h4]
          have hg2 := run_getMap (P := P) h5
          have hset := run_setOther (P := P) (o' := .mapIter (some q.1) since (seen ++ [e.born]).toArray clock) h4 (by simp)
          refine ⟨_, .tuple #[.bool true, k, v], σ, _, asV_run ?_, .inl rfl, by simp [conc, concA, concL, hck, hcv], (obj_write c hs _ (.mapIter (some m) since (seen ++ [e.born]) clock) (.mapIter (some q.1) since (seen ++ [e.born]).toArray clock) hE hp ⟨q, hq, rfl⟩).congr (fun m hm => by subst hm; simp [Res.W]) (fun m => rfl) (fun m hm => ?_) (fun _ _ _ => trivial)⟩
          · rw [ex]
            unfold Instr.next
            simp only [Sem.run_bind, hg1, Result.andThen_ok, hg2, hb1, hb2, hone]
            have hge : ¬ e.born ≥ since := by omega
            simp [hlt, hge, choose, Sem.run, Question.forced, hset]
          · simp [Res.W] at hm
            subst hm
            exact .inl ⟨_, hE⟩
      · cases h
  · cases h
end
end
end Go.Proofs.YtpcejpcbkjnlkaaGreatDoor.AE

namespace Go.Proofs.YtpcejpcbkjnlkaaGreatDoor.AE
noncomputable section
open Go.RowKit

section
variable {P : Program} {ev : Operand → Option Value} {look : Heap} {c : Nat}
def listBuiltin (P : Program) (ev : Operand → Option Value) (f : Array Value → Sem Value) (args : Array Operand) : Option Res :=
  match evA ev args with
  | some vs => match plainL' P f vs with
    | some u => some (pureRes u)
    | none => none
  | none => none
theorem listBuiltin_does {f : Array Value → Sem Value} {args : Array Operand} {r : Res} (h : listBuiltin P ev f args = some r) : Does P ev look c (fun ρ => asV (f (args.map ρ))) r := by
  unfold listBuiltin at h
  split at h
  case h_2 => cases h
  rename_i vs hvs
  split at h
  case h_2 => cases h
  rename_i u hu
  cases h
  exact Does.pure fun σ w ρ hk => ⟨u, asV_run (plainL'_ok hu (evA_ok hk args vs hvs) w).1, (plainL'_ok hu (evA_ok hk args vs hvs) w).2⟩
theorem Does.of_eq {s s' : (Operand → Value) → Sem Next} {r : Res} (h : Does P ev look c s r) (e : ∀ ρ, s' ρ = s ρ) : Does P ev look c s' r := by
  have : s' = s := funext e
  rw [this]; exact h
def builtinOp (P : Program) (ev : Operand → Option Value) (look : Heap) (c : Nat) (b : Builtin) (args : Array Operand) (ts : Array TypeId) (type : TypeId) : Option Res :=
  match b, args, ts with
  | .append, ⟨[x, y]⟩, ⟨[t, u]⟩ => appendOp P ev look c t u x y
  | .len, ⟨[x]⟩, ⟨t :: _⟩ => lenOp P ev look t x
  | .copy, ⟨[x, y]⟩, ⟨t :: _⟩ => copyOp P ev look t x y
  | .delete, ⟨[x, y]⟩, ⟨t :: _⟩ => deleteOp P ev look t x y
  | .min, _, _ => listBuiltin P ev (Builtin.min_ ts type) args
  | .max, _, _ => listBuiltin P ev (Builtin.max_ ts type) args
  | _, _, _ => none
theorem builtinOp_does {b : Builtin} {args : Array Operand} {ts : Array TypeId} {type : TypeId} {cs : Array Bool} {r : Res} (h : builtinOp P ev look c b args ts type = some r) : Does P ev look c (fun ρ => builtin b ts type cs (args.map ρ)) r := by
  unfold builtinOp at h
  split at h
  · exact (appendOp_does (ty := type) h).of_eq fun ρ => by simp [builtin, asV]
  · rename_i t l; exact (lenOp_does (ts := ⟨t :: l⟩) (ty := type) (by rfl) h).of_eq fun ρ => by simp [builtin, asV]
  · rename_i t l; exact (copyOp_does (ts := ⟨t :: l⟩) (ty := type) (by rfl) h).of_eq fun ρ => by simp [builtin, asV]
  · rename_i t l; exact (deleteOp_does (ts := ⟨t :: l⟩) (ty := type) (by rfl) h).of_eq fun ρ => by simp [builtin, asV]
  · exact listBuiltin_does h
  · exact listBuiltin_does h
  · cases h
def simpleOp (P : Program) (ev : Operand → Option Value) (look : Heap) (c : Nat) (o : Oper) : Option Res :=
  match o.op with
  | .move x => moveOp ev x
  | .assign x => moveOp ev x
  | .pick q x y => pickOp ev q x y
  | .alloc t => allocOp P c t
  | .box t x => boxOp ev c t x
  | .build t ps => buildOp P ev t ps
  | .buildSlice t n ps => buildSliceOp P ev c t n ps
  | .load t x => loadOp P ev look t x
  | .store t x y => storeOp P ev look t x y
  | .nilCheck x => nilOp ev x
  | .binOp op t x y _ => binOpA P ev op t x y
  | .unOp op _ x => un1 P ev (Op.unary op) x
  | .convert s d x => un1 P ev (convert s d) x
  | .makeInterface t x => ifaceOp P ev t x
  | .makeFunc fn a b => funcOp ev fn a b
  | .makeMap _ r => makeMapOp c r
  | .makeSlice t l m => makeSliceOp P ev c t l m
  | .slice t x lo (some hi) (some mx) => slice3Op P ev t x lo hi mx
  | .slice t x lo hi mx => sliceOp P ev look t x lo hi mx
  | .fieldAddr t x f => fieldAddrOp P ev t x f
  | .field t x f => fieldOp P ev t x f
  | .indexAddr t x i => indexAddrOp P ev t x i
  | .index t x i => indexOp P ev t x i
  | .lookup t x i ok => lookupOp P ev look t x i ok
  | .mapUpdate t m k x => mapUpdateOp P ev look t m k x
  | .insert t m k x => mapUpdateOp P ev look t m k x
  | .extract x i => extractOp ev x i
  | .range t x => rangeOp P ev look c t x
  | .next x true => nextStr ev look x
  | .next x false => nextMap ev look x
  | .mapEntry t m k => mapEntryOp P ev look t m k
  | .entryStore _ m s x => entryStoreOp ev look m s x
  | .typeAssert x t s ok => un1 P ev (fun v => Instr.typeAssert v t s ok) x
  | .call ⟨.builtin b, args, ts⟩ => builtinOp P ev look c b args ts o.type
  | _ => none
theorem simpleOp_does {o : Oper} {r : Res} (h : simpleOp P ev look c o = some r) : Does P ev look c (fun ρ => execOp ρ o) r := by
  obtain ⟨dst, op, type, pos, after, guard⟩ := o
  unfold simpleOp at h
  cases op <;> simp only at h
  case move => exact moveOp_does h
  case assign => exact moveOp_does h
  case pick => exact pickOp_does h
  case alloc => exact allocOp_does h
  case box => exact boxOp_does h
  case build => exact buildOp_does h
  case buildSlice => exact buildSliceOp_does h
  case load => exact loadOp_does h
  case store => exact storeOp_does h
  case nilCheck => exact nilOp_does h
  case binOp => exact binOpA_does h
  case unOp => exact un1_does h
  case convert => exact un1_does h
  case makeInterface => exact ifaceOp_does h
  case makeFunc => exact funcOp_does h
  case makeMap => exact makeMapOp_does h
  case makeSlice => exact makeSliceOp_does h
  case slice t x lo hi mx =>
    cases hi with
    | none => exact sliceOp_does h
    | some hi => cases mx with
      | none => exact sliceOp_does h
      | some mx => exact slice3Op_does h
  case fieldAddr => exact fieldAddrOp_does h
  case field => exact fieldOp_does h
  case indexAddr => exact indexAddrOp_does h
  case index => exact indexOp_does h
  case lookup => exact lookupOp_does h
  case mapUpdate => exact mapUpdateOp_does h
  case insert => exact mapUpdateOp_does h
  case extract => exact extractOp_does h
  case range => exact rangeOp_does h
  case next x s => cases s with
    | true => exact nextStr_does h
    | false => exact nextMap_does h
  case mapEntry => exact mapEntryOp_does h
  case entryStore => exact entryStoreOp_does h
  case typeAssert => exact un1_does h
  case call cl =>
    obtain ⟨callee, args, ts⟩ := cl
    cases callee <;> simp only at h
    case builtin b => exact builtinOp_does h
    all_goals cases h
  all_goals cases h
end
end
end Go.Proofs.YtpcejpcbkjnlkaaGreatDoor.AE

namespace Go.Proofs.YtpcejpcbkjnlkaaGreatDoor.AE
noncomputable section
open Go.RowKit

/-! ### runs and their names -/
def mix (W : List Nat) (c c' : Nat) (H' E : Heap) : Heap := fun n => if n ∈ W ∨ (c ≤ n ∧ n < c') then H' n else E n
theorem mix_in {W : List Nat} {c c' : Nat} {H' E : Heap} {n : Nat} (h : n ∈ W ∨ (c ≤ n ∧ n < c')) : mix W c c' H' E n = H' n := if_pos h
theorem mix_out {W : List Nat} {c c' : Nat} {H' E : Heap} {n : Nat} (h : ¬ (n ∈ W ∨ (c ≤ n ∧ n < c'))) : mix W c c' H' E n = E n := if_neg h
section
variable {σ σ' : Sig} {w w' : World} {H H' : Heap} {c c' : Nat} {W W' : Nat → Prop}
theorem Run.drop (h : Run σ w H c W c' H' σ' w') (hf : Fresh σ c c') (h1 : ∀ n, W n → W' n ∨ New c c' n) (h2 : ∀ n, W' n → W n) : Run σ w H c W' c' H' σ' w' := by
  refine ⟨h.le, h.sat, h.same, ⟨h.fr.os, h.fr.tape, h.fr.output, h.fr.size, fun b hb hn => h.fr.block b hb fun n p hw hp => ?_⟩, fun n hn hne => h.keep n (fun hw => ?_) hne, fun n hw => h.dom n (h2 n hw), fun n p hn hp => (h.new n p hn hp).imp id fun ⟨m, q, a, b, c, d, e⟩ => ?_⟩
  · rcases h1 n hw with h3 | h3
    · exact hn n p h3 hp
    · rw [hf n h3] at hp; cases hp
  · rcases h1 n hw with h3 | h3
    · exact hn h3
    · exact hne h3
  · rcases h1 m a with h3 | h3
    · exact ⟨m, q, h3, b, c, d, e⟩
    · exact absurd h3 b
theorem Sat.none (h : Sat σ H w) {n : Nat} (hn : σ n = none) : H n = none := by
  cases e : H n with
  | none => rfl
  | some o => obtain ⟨p, hp, _⟩ := (h.obj n o e).lt; rw [hn] at hp; cases hp
end

/-! ### what an operation leaves -/
structure Out where
  v : Value
  H : T AObj
  c : Nat
  R : List Nat
  W : List Nat
def putKills (H : T AObj) : List Nat → T AObj
  | [] => H
  | n :: l => putKills (H.put n none) l
def putSets (H : T AObj) : List (Nat × AObj) → T AObj
  | [] => H
  | x :: l => putSets (H.put x.1 (some x.2)) l
theorem putKills_get : ∀ (l : List Nat) (H : T AObj), (putKills H l).get = applyKills H.get l
  | [], _ => rfl
  | n :: l, H => by rw [putKills, putKills_get l, T.get_put']; rfl
theorem putSets_get : ∀ (l : List (Nat × AObj)) (H : T AObj), (putSets H l).get = applySets H.get l
  | [], _ => rfl
  | n :: l, H => by rw [putSets, putSets_get l, T.get_put']; rfl
def low (c : Nat) : List Nat → List Nat
  | [] => []
  | n :: l => bif Nat.blt n c then n :: low c l else low c l
theorem mem_low {c n : Nat} : ∀ {l : List Nat}, n ∈ low c l ↔ n ∈ l ∧ n < c
  | [] => by simp [low]
  | m :: l => by
    have ih := @mem_low c n l
    cases hb : Nat.blt m c with
    | true =>
      have := blt_lt hb
      simp only [low, hb, cond_true, List.mem_cons, ih]
      constructor
      · rintro (h | h)
        · subst h; exact ⟨.inl rfl, this⟩
        · exact ⟨.inr h.1, h.2⟩
      · rintro ⟨h | h, h2⟩
        · exact .inl h
        · exact .inr ⟨h, h2⟩
    | false =>
      have : ¬ m < c := fun h => by have : Nat.blt m c = true := by simpa using h
                                    rw [hb] at this; cases this
      simp only [low, hb, cond_false, List.mem_cons, ih]
      constructor
      · rintro ⟨h, h2⟩; exact ⟨.inr h, h2⟩
      · rintro ⟨h | h, h2⟩
        · subst h; exact absurd h2 this
        · exact ⟨h, h2⟩
theorem applyKills_out : ∀ (l : List Nat) (E : Heap) (n : Nat), n ∉ l → applyKills E l n = E n
  | [], _, _, _ => rfl
  | m :: l, E, n, h => by
    simp only [List.mem_cons, not_or] at h
    rw [applyKills, applyKills_out l _ n h.2, upd_ne _ _ _ h.1]
theorem applySets_out : ∀ (l : List (Nat × AObj)) (E : Heap) (n : Nat), n ∉ l.map (·.1) → applySets E l n = E n
  | [], _, _, _ => rfl
  | m :: l, E, n, h => by
    simp only [List.map_cons, List.mem_cons, not_or] at h
    rw [applySets, applySets_out l _ n h.2, upd_ne _ _ _ h.1]
theorem applyKills_in : ∀ (l : List Nat) (E E' : Heap) (n : Nat), (n ∈ l ∨ E n = E' n) → applyKills E l n = applyKills E' l n
  | [], _, _, _, h => h.resolve_left (by simp)
  | m :: l, E, E', n, h => by
    rw [applyKills, applyKills]
    refine applyKills_in l _ _ n ?_
    by_cases hm : n = m
    · subst hm; right; rw [upd_same, upd_same]
    · rcases h with h | h
      · left; simp only [List.mem_cons] at h; exact h.resolve_left hm
      · right; rw [upd_ne _ _ _ hm, upd_ne _ _ _ hm, h]
theorem applySets_in : ∀ (l : List (Nat × AObj)) (E E' : Heap) (n : Nat), (n ∈ l.map (·.1) ∨ E n = E' n) → applySets E l n = applySets E' l n
  | [], _, _, _, h => h.resolve_left (by simp)
  | m :: l, E, E', n, h => by
    rw [applySets, applySets]
    refine applySets_in l _ _ n ?_
    by_cases hm : n = m.1
    · subst hm; right; rw [upd_same, upd_same]
    · rcases h with h | h
      · left; simp only [List.map_cons, List.mem_cons] at h; exact h.resolve_left hm
      · right; rw [upd_ne _ _ _ hm, upd_ne _ _ _ hm, h]
theorem heap_out (r : Res) (E : Heap) (n : Nat) (h : ¬ r.W n) : r.heap E n = E n := by
  unfold Res.W at h
  simp only [not_or] at h
  unfold Res.heap
  rw [applySets_out _ _ _ h.2, applyKills_out _ _ _ h.1]
theorem heap_in (r : Res) (E E' : Heap) (n : Nat) (h : r.W n) : r.heap E n = r.heap E' n := by
  unfold Res.heap
  refine applySets_in _ _ _ n ?_
  rcases h with h | h
  · right; exact applyKills_in _ _ _ n (.inl h)
  · exact .inl h
def hasName (c : Nat) : List (Nat × AObj) → Bool
  | [] => false
  | x :: l => Nat.beq x.1 c || hasName c l
theorem hasName_mem {c : Nat} : ∀ {l : List (Nat × AObj)}, hasName c l = true → c ∈ l.map (·.1)
  | [], h => by simp [hasName] at h
  | x :: l, h => by
    simp only [hasName, Bool.or_eq_true] at h
    rcases h with h | h
    · simp [Nat.eq_of_beq_eq_true h]
    · simp only [List.map_cons, List.mem_cons]; exact .inr (hasName_mem h)
def allLow (c : Nat) : List Nat → Bool
  | [] => true
  | n :: l => Nat.blt n c && allLow c l
theorem allLow_mem {c n : Nat} : ∀ {l : List Nat}, allLow c l = true → n ∈ l → n < c
  | [], _, h => by simp at h
  | m :: l, h, hn => by
    simp only [allLow, Bool.and_eq_true] at h
    simp only [List.mem_cons] at hn
    rcases hn with hn | hn
    · subst hn; exact blt_lt h.1
    · exact allLow_mem h.2 hn
def ofRes (H : T AObj) (c : Nat) (r : Res) : Option Out :=
  bif (Nat.beq r.used 0 || (Nat.beq r.used 1 && hasName c r.sets)) && allLow (c + r.used) (r.kills ++ r.sets.map (·.1)) && allLow c r.reads then some ⟨r.v, putSets (putKills H r.kills) r.sets, c + r.used, r.reads, low c (r.kills ++ r.sets.map (·.1))⟩ else none
/-- what holds of an outcome by itself -/
structure Tidy (H : T AObj) (c : Nat) (out : Out) : Prop where
  le : c ≤ out.c
  low : ∀ n ∈ out.W, n < c
  rlow : ∀ n ∈ out.R, n < c
  keep : ∀ n, n ∉ out.W → ¬ (c ≤ n ∧ n < out.c) → out.H.get n = H.get n
/-- the globals stand where they stand -/
def Glob (G : Nat) (σ : Sig) : Prop := ∀ g, g < G → ∃ cap, σ g = some (g, cap)
def OpOk (P : Program) (G : Nat) (o : Oper) (ev : Operand → Option Value) (H : T AObj) (c : Nat) (out : Out) : Prop :=
  ∀ (σ : Sig) (w : World) (E : Heap) (a : Act), Sat σ E w → Fresh σ c out.c → (∀ n ∈ out.R, E n = H.get n) → Knows σ ev a.eval → Glob G σ → ∀ (K : Act → World → Prop) (Q : Exit → Act → World → Prop),
    (∀ σ' w' v', conc σ' out.v = some v' → Run σ w E c (· ∈ out.W) out.c (mix out.W c out.c out.H.get E) σ' w' → K (a.put o.dst v') w') → o.wp P a w K Q
theorem ofRes_spec {H : T AObj} {c : Nat} {r : Res} {out : Out} (h : ofRes H c r = some out) :
    out.v = r.v ∧ out.c = c + r.used ∧ out.R = r.reads ∧ (∀ n, n ∈ out.W ↔ (r.W n ∧ n < c)) ∧ out.H.get = r.heap H.get ∧ (∀ n, c ≤ n → n < c + r.used → r.W n) ∧ (∀ n, r.W n → n < c + r.used) ∧ (∀ n ∈ r.reads, n < c) := by
  unfold ofRes at h
  cases hb : ((Nat.beq r.used 0 || (Nat.beq r.used 1 && hasName c r.sets)) && allLow (c + r.used) (r.kills ++ r.sets.map (·.1)) && allLow c r.reads) with
  | false => rw [hb] at h; cases h
  | true =>
    rw [hb, cond_true] at h
    cases h
    simp only [Bool.and_eq_true] at hb
    refine ⟨rfl, rfl, rfl, fun n => ?_, ?_, fun n h1 h2 => ?_, fun n hn => allLow_mem hb.1.2 (by simpa [Res.W] using hn), fun n hn => allLow_mem hb.2 hn⟩
    · simp only [mem_low, List.mem_append, Res.W]
    · rw [putSets_get, putKills_get]; rfl
    · have hb := hb.1.1
      simp only [Bool.or_eq_true, Bool.and_eq_true] at hb
      rcases hb with hb | ⟨hb, hs⟩
      · have := Nat.eq_of_beq_eq_true hb; omega
      · have := Nat.eq_of_beq_eq_true hb
        have hn : n = c := by omega
        subst hn
        exact .inr (hasName_mem hs)
theorem ofRes_tidy {H : T AObj} {c : Nat} {r : Res} {out : Out} (h : ofRes H c r = some out) : Tidy H c out := by
  obtain ⟨h1, h2, h3, h4, h5, h6, h7, h8⟩ := ofRes_spec h
  refine ⟨by omega, fun n hn => ((h4 n).1 hn).2, fun n hn => h8 n (h3 ▸ hn), fun n hn hne => ?_⟩
  rw [h5]
  refine heap_out r _ n fun hw => ?_
  rcases Nat.lt_or_ge n c with hc | hc
  · exact hn ((h4 n).2 ⟨hw, hc⟩)
  · have := h7 n hw
    exact hne ⟨hc, by omega⟩
theorem ofRes_ok {P : Program} {G : Nat} {o : Oper} {ev : Operand → Option Value} {H : T AObj} {c : Nat} {r : Res} {out : Out} (h : ofRes H c r = some out) (hd : Does P ev H.get c (fun ρ => execOp ρ o) r) : OpOk P G o ev H c out := by
  obtain ⟨h1, h2, h3, h4, h5, h6, h7, h8⟩ := ofRes_spec h
  intro σ w E a hs hf hr hk _ K Q hK
  obtain ⟨n', v', σ', w', hrun, hn, hv, hR⟩ := hd σ w E a.eval hs (by rw [← h2]; exact hf) (by rw [← h3]; exact hr) hk
  have hRun : Run σ w E c (· ∈ out.W) out.c (mix out.W c out.c out.H.get E) σ' w' := by
    rw [h2]
    have hE : mix out.W c (c + r.used) out.H.get E = r.heap E := by
      funext n
      by_cases hin : n ∈ out.W ∨ (c ≤ n ∧ n < c + r.used)
      · rw [mix_in hin, h5]
        refine (heap_in r _ _ n ?_)
        rcases hin with hin | hin
        · exact ((h4 n).1 hin).1
        · exact h6 n hin.1 hin.2
      · rw [mix_out hin]
        refine (heap_out r E n fun hw => hin ?_).symm
        rcases Nat.lt_or_ge n c with hc | hc
        · exact .inl ((h4 n).2 ⟨hw, hc⟩)
        · exact .inr ⟨hc, h7 n hw⟩
    rw [hE]
    refine hR.drop (by rw [← h2]; exact hf) (fun n hn => ?_) (fun n hn => ((h4 n).1 hn).1)
    rcases Nat.lt_or_ge n c with hc | hc
    · exact .inl ((h4 n).2 ⟨hn, hc⟩)
    · exact .inr ⟨hc, h7 n hn⟩
  unfold Oper.wp
  rw [hrun]
  have hgo := hK σ' w' v' (by rw [h1]; exact hv) hRun
  rcases hn with hn | ⟨hn, hu⟩
  · subst hn; exact hgo
  · subst hn; subst hu; exact hgo
end
end Go.Proofs.YtpcejpcbkjnlkaaGreatDoor.AE

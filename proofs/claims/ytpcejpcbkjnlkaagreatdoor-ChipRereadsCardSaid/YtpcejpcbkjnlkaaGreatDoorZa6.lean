/- A walk by computing: calls; the state of a walk through code. Conditions: none. A walk by computing: regions in their order of text. Conditions: none. A walk by computing: what an operation looks at. Conditions: none. A walk by computing: regions whose order is drawn. Conditions: none. A walk by computing: operations that change places. Conditions: none. A walk by computing: a drawn region. Conditions: none. -/
import Derived.Test.YtpcejpcbkjnlkaaGreatDoorZa5
import Derived.Defers
set_option linter.unusedVariables false
namespace Go.Proofs.YtpcejpcbkjnlkaaGreatDoor.AE
noncomputable section
open Go.RowKit

/-! ### calls -/
abbrev CallFn := FuncId → List Value → T AObj → Nat → Option Out
def CallOk (P : Program) (G : Nat) (f : FuncId) (args : List Value) (H : T AObj) (c : Nat) (out : Out) : Prop :=
  ∀ (σ : Sig) (w : World) (E : Heap) (args' : List Value), Sat σ E w → Fresh σ c out.c → (∀ n ∈ out.R, E n = H.get n) → concL σ args = some args' → Glob G σ →
    Calls P f args'.toArray w fun e w' => ∃ σ' v', e = .returned v' ∧ conc σ' out.v = some v' ∧ Run σ w E c (· ∈ out.W) out.c (mix out.W c out.c out.H.get E) σ' w'
structure CallsOk (P : Program) (G : Nat) (call : CallFn) : Prop where
  tidy : ∀ f args H c out, call f args H c = some out → Tidy H c out
  ok : ∀ f args H c out, call f args H c = some out → CallOk P G f args H c out
/-- no function of the program is the one that the model treats apart -/
def NamesOk (P : Program) : Prop := ∀ (f : FuncId) (fn : Func), P.funcs[f]? = some fn → fn.body.isSome = true → (fn.name == "runtime.NumGoroutine") = false
def hasBody (P : Program) (f : FuncId) : Bool := match P.funcs[f]? with | some fn => fn.body.isSome | none => false
section
variable {P : Program} {G : Nat} {call : CallFn} {ev : Operand → Option Value} {H : T AObj} {c : Nat}
def evalCall (P : Program) (call : CallFn) (ev : Operand → Option Value) (H : T AObj) (c : Nat) (f : Operand) (args : Array Operand) : Option Out :=
  match ev f, evL ev args.toList with
  | some (.func (.func fid) first captured), some as => bif hasBody P fid then call fid (first.toList ++ (as ++ captured.toList)) H c else none
  | _, _ => none
theorem conc_func {σ : Sig} {f : Fn} {x y : Array Value} {v : Value} (h : conc σ (.func f x y) = some v) : ∃ x' y', concA σ x = some x' ∧ concA σ y = some y' ∧ v = .func f x' y' := by
  simp only [conc] at h
  split at h
  · rename_i x' y' hx hy; cases h; exact ⟨x', y', hx, hy, rfl⟩
  · cases h
theorem evalCall_tidy (hc : CallsOk P G call) {f : Operand} {args : Array Operand} {out : Out} (h : evalCall P call ev H c f args = some out) : Tidy H c out := by
  unfold evalCall at h
  split at h
  case h_2 => cases h
  cases hb : hasBody P ‹FuncId› with
  | false => rw [hb] at h; cases h
  | true => rw [hb, cond_true] at h; exact hc.tidy _ _ _ _ _ h
theorem evalCall_ok (hP : NamesOk P) (hc : CallsOk P G call) {f : Operand} {args : Array Operand} {ts : Array TypeId} {out : Out} {o : Oper} (ho : o.op = .call ⟨.value f, args, ts⟩) (h : evalCall P call ev H c f args = some out) : OpOk P G o ev H c out := by
  unfold evalCall at h
  split at h
  case h_2 => cases h
  rename_i fid first captured as hf ha
  cases hb : hasBody P fid with
  | false => rw [hb] at h; cases h
  | true =>
    rw [hb, cond_true] at h
    intro σ w E a hs hfr hr hk hg K Q hK
    obtain ⟨x', y', hx, hy, hfv⟩ := conc_func (hk _ _ hf)
    have hal := evL_ok hk _ _ ha
    have hargs := concL_append (concA_list hx) (concL_append hal (concA_list hy))
    have hcall := hc.ok _ _ _ _ _ h σ w E _ hs hfr hr hargs hg
    unfold hasBody at hb
    cases hfn : P.funcs[fid]? with
    | none => rw [hfn] at hb; cases hb
    | some fn =>
      rw [hfn] at hb
      have hname := hP fid fn hfn hb
      have hnone : fn.body.isNone = false := by cases hbd : fn.body with
        | none => simp [hbd] at hb
        | some _ => rfl
      have hrun : (execOp a.eval o).run P w = .ok (.enter fid (x'.toList ++ (args.toList.map a.eval ++ y'.toList)).toArray) w := by
        unfold execOp
        simp only [ho, resolve, hfv, Deferred.ofValue]
        have hname' : ¬ fn.name = "runtime.NumGoroutine" := by simpa using hname
        have hnone' : ¬ fn.body = none := by intro e; rw [e] at hnone; cases hnone
        simp [invoke, callFunc, hfn, hname', hnone']
      unfold Oper.wp
      rw [hrun]
      rw [Oper.upon_enter]
      refine Calls.mono hcall fun e w' he => ?_
      obtain ⟨σ', v', rfl, h1, h2⟩ := he
      exact hK σ' w' v' h1 h2
def evalOp (P : Program) (call : CallFn) (ev : Operand → Option Value) (H : T AObj) (c : Nat) (o : Oper) : Option Out :=
  match o.op with
  | .call ⟨.value f, args, _⟩ => evalCall P call ev H c f args
  | _ => match simpleOp P ev H.get c o with
    | some r => ofRes H c r
    | none => none
theorem evalOp_split {o : Oper} {out : Out} (h : evalOp P call ev H c o = some out) : (∃ f args ts, o.op = .call ⟨.value f, args, ts⟩ ∧ evalCall P call ev H c f args = some out) ∨ ∃ r, simpleOp P ev H.get c o = some r ∧ ofRes H c r = some out := by
  unfold evalOp at h
  split at h
  · rename_i f args ts ho
    exact .inl ⟨f, args, ts, ho, h⟩
  · split at h
    · rename_i r hr; exact .inr ⟨r, hr, h⟩
    · cases h
theorem evalOp_tidy (hc : CallsOk P G call) {o : Oper} {out : Out} (h : evalOp P call ev H c o = some out) : Tidy H c out := by
  rcases evalOp_split h with ⟨f, args, ts, _, h2⟩ | ⟨r, _, h2⟩
  · exact evalCall_tidy hc h2
  · exact ofRes_tidy h2
theorem evalOp_ok (hP : NamesOk P) (hc : CallsOk P G call) {o : Oper} {out : Out} (h : evalOp P call ev H c o = some out) : OpOk P G o ev H c out := by
  rcases evalOp_split h with ⟨f, args, ts, ho, h2⟩ | ⟨r, h1, h2⟩
  · exact evalCall_ok hP hc ho h2
  · exact ofRes_ok h2 (simpleOp_does h1)
end

/-! ### temporaries -/
def evOf (G : Nat) (ts : T Value) : Operand → Option Value
  | .tmp t => ts.get t
  | .const v => bif plainV v then some v else none
  | .global g => bif Nat.blt g G then some (.pointer (some ⟨g, 0, none⟩)) else none
  | .func f => some (.func (.func f) #[] #[])
structure FrameIs (σ : Sig) (G : Nat) (ts : Nat → Option Value) (n : Nat) (a : Act) : Prop where
  size : a.tmps.size = n
  tmp : ∀ t v, ts t = some v → ∃ v', conc σ v = some v' ∧ a.tmps[t]? = some v'
  glob : Glob G σ
theorem FrameIs.knows {σ : Sig} {G n : Nat} {ts : T Value} {a : Act} (h : FrameIs σ G ts.get n a) : Knows σ (evOf G ts) a.eval := by
  intro x v hx
  cases x with
  | tmp t =>
    obtain ⟨v', h1, h2⟩ := h.tmp t v hx
    rw [h1]
    simp [Act.eval, h2]
  | const u =>
    simp only [evOf] at hx
    cases hb : plainV u with
    | false => rw [hb] at hx; cases hx
    | true => rw [hb, cond_true] at hx; cases hx; exact plain_conc σ _ hb
  | global g =>
    simp only [evOf] at hx
    cases hb : Nat.blt g G with
    | false => rw [hb] at hx; cases hx
    | true =>
      rw [hb, cond_true] at hx
      cases hx
      obtain ⟨cap, hg⟩ := h.glob g (blt_lt hb)
      simp only [conc, hg]
      rfl
  | func f => simp only [evOf] at hx; cases hx; simp [conc, concA, concL]; rfl
/-! ### looking at a value before going on -/
def natSeq {β : Type} (n : Nat) (f : Nat → β) : β := match n with | 0 => f 0 | .succ m => f (.succ m)
theorem natSeq_eq {β : Type} (n : Nat) (f : Nat → β) : natSeq n f = f n := by cases n <;> rfl
def listSeq {α β : Type} (l : List α) (f : List α → β) : β := match l with | [] => f [] | a :: l => f (a :: l)
theorem listSeq_eq {α β : Type} (l : List α) (f : List α → β) : listSeq l f = f l := by cases l <;> rfl
def valSeq {β : Type} (v : Value) (f : Value → β) : β :=
  match v with
  | .int k (.ofNat n) => natSeq n fun n => f (.int k (.ofNat n))
  | .int k (.negSucc n) => natSeq n fun n => f (.int k (.negSucc n))
  | .pointer (some ⟨b, o, none⟩) => natSeq b fun b => natSeq o fun o => f (.pointer (some ⟨b, o, none⟩))
  | .slice (some ⟨b, o, none⟩) l c => natSeq b fun b => natSeq o fun o => natSeq l fun l => natSeq c fun c => f (.slice (some ⟨b, o, none⟩) l c)
  | .bool true => f (.bool true)
  | .bool false => f (.bool false)
  | v => f v
theorem valSeq_eq {β : Type} (v : Value) (f : Value → β) : valSeq v f = f v := by
  unfold valSeq
  split <;> simp only [natSeq_eq]
def putT (n : Nat) (d : Option Tmp) (v : Value) (ts : T Value) : T Value :=
  match d with
  | none => ts
  | some t => bif Nat.blt t n then valSeq v fun v => ts.put t (some v) else ts
theorem FrameIs.put {σ σ' : Sig} {G n : Nat} {ts : T Value} {a : Act} (h : FrameIs σ G ts.get n a) (hx : Ext σ σ') {v v' : Value} (hv : conc σ' v = some v') (d : Option Tmp) : FrameIs σ' G (putT n d v ts).get n (a.put d v') := by
  have base : ∀ t u, ts.get t = some u → ∃ u', conc σ' u = some u' ∧ a.tmps[t]? = some u' := fun t u hu => let ⟨u', h1, h2⟩ := h.tmp t u hu; ⟨u', conc_ext hx _ _ h1, h2⟩
  have gl : ∀ g, g < G → ∃ cap, σ' g = some (g, cap) := fun g hg => let ⟨cap, h1⟩ := h.glob g hg; ⟨cap, hx _ _ h1⟩
  cases d with
  | none => exact ⟨h.size, base, gl⟩
  | some t =>
    unfold putT
    simp only [valSeq_eq]
    cases hb : Nat.blt t n with
    | false =>
      have hge : ¬ t < n := fun hh => by have : Nat.blt t n = true := by simpa using hh
                                         rw [hb] at this; cases this
      refine ⟨by simp [Act.put, h.size], fun s u hu => ?_, gl⟩
      obtain ⟨u', h1, h2⟩ := base s u hu
      refine ⟨u', h1, ?_⟩
      have : s < n := by rw [← h.size]; exact (Array.getElem?_eq_some_iff.1 h2).1
      simp only [Act.put]
      have hts : t ≠ s := fun e => hge (e ▸ this)
      rw [Array.getElem?_setIfInBounds_ne hts]
      exact h2
    | true =>
      have hlt := blt_lt hb
      rw [cond_true, T.get_put']
      refine ⟨by simp [Act.put, h.size], fun s u hu => ?_, gl⟩
      by_cases hs : s = t
      · subst hs
        rw [upd_same] at hu; cases hu
        exact ⟨v', hv, by simp [Act.put, h.size, hlt]⟩
      · rw [upd_ne _ _ _ hs] at hu
        obtain ⟨u', h1, h2⟩ := base s u hu
        refine ⟨u', h1, ?_⟩
        simp only [Act.put]
        rw [Array.getElem?_setIfInBounds_ne (Ne.symm hs)]
        exact h2
theorem FrameIs.ext {σ σ' : Sig} {G n : Nat} {ts : Nat → Option Value} {a : Act} (h : FrameIs σ G ts n a) (hx : Ext σ σ') : FrameIs σ' G ts n a :=
  ⟨h.size, fun t u hu => let ⟨u', h1, h2⟩ := h.tmp t u hu; ⟨u', conc_ext hx _ _ h1, h2⟩, fun g hg => let ⟨cap, h1⟩ := h.glob g hg; ⟨cap, hx _ _ h1⟩⟩

/-! ### deferred calls that do nothing -/
def IdleD (P : Program) (d : Deferred) : Prop := ∃ fv cap f args, d.target = .fn fv cap ∧ (∀ w, (invoke d.target d.args).run P w = .ok (.enter f args) w) ∧ ∀ w, CallsD P f args .returning w fun e u' w' => e = .returned (.tuple #[]) ∧ u' = .returning ∧ w' = w
def AllIdle (P : Program) (ds : List Deferred) : Prop := ∀ d ∈ ds, IdleD P d
theorem leaves_idle {P : Program} {fn : Func} {tmps : Array Value} {R : Ending → World → Prop} {w : World} {v : Value} (hr : (results fn tmps).run P w = .ok v w) (hR : R (.returned v) w) : ∀ ds : List Deferred, AllIdle P ds → Leaves P fn tmps R ds .returning w
  | [], _ => ⟨v, hr, hR⟩
  | d :: ds, h => by
    obtain ⟨fv, cap, f, args, h1, h2, h3⟩ := h d (by simp)
    refine ⟨by simp, fv, cap, f, args, h1, h2 w, (h3 w).mono fun e u' w' he => ?_⟩
    obtain ⟨rfl, rfl, rfl⟩ := he
    exact leaves_idle hr hR ds fun d' hd => h d' (by simp [hd])

/-! ### the state of a walk -/
structure St where
  ts : T Value
  H : T AObj
  c : Nat
  rl : List Nat
  wl : List Nat
def St.force {β : Type} (s : St) (k : St → β) : β := s.ts.seq fun ts => s.H.seq fun H => natSeq s.c fun c => listSeq s.rl fun rl => listSeq s.wl fun wl => k ⟨ts, H, c, rl, wl⟩
theorem St.force_eq {β : Type} (s : St) (k : St → β) : s.force k = k s := by
  cases s
  simp only [St.force, T.seq_eq, natSeq_eq, listSeq_eq]
/-- where a function was entered -/
structure Start where
  σ : Sig
  w : World
  E : Heap
  H : T AObj
  c : Nat
structure Inv (B : Start) (G n : Nat) (d0 : List Deferred → Prop) (st : St) (σ : Sig) (E : Heap) (a : Act) (w : World) : Prop where
  run : Run B.σ B.w B.E B.c (· ∈ st.wl) st.c E σ w
  agree : ∀ m, (m ∈ st.wl ∨ (B.c ≤ m ∧ m < st.c)) → E m = st.H.get m
  old : ∀ m, m < B.c → m ∉ st.wl → st.H.get m = B.H.get m
  wlow : ∀ m ∈ st.wl, m < B.c
  frame : FrameIs σ G st.ts.get n a
  defers : d0 a.defers
theorem Inv.ext {B : Start} {G n : Nat} {d0 : List Deferred → Prop} {st : St} {σ : Sig} {E : Heap} {a : Act} {w : World} (h : Inv B G n d0 st σ E a w) (hf : Fresh B.σ B.c st.c) : Ext B.σ σ := h.run.ext hf
/-- what an operation may ask of the heap -/
theorem Inv.look {B : Start} {G n : Nat} {d0 : List Deferred → Prop} {st : St} {σ : Sig} {E : Heap} {a : Act} {w : World} (h : Inv B G n d0 st σ E a w) {m : Nat} (hm : m < st.c) (hB : m < B.c → m ∉ st.wl → B.E m = B.H.get m) : E m = st.H.get m := by
  by_cases hw : m ∈ st.wl ∨ (B.c ≤ m ∧ m < st.c)
  · exact h.agree m hw
  · have h1 : m ∉ st.wl := fun e => hw (.inl e)
    have h2 : m < B.c := by rcases Nat.lt_or_ge m B.c with h3 | h3; exact h3; exact absurd (.inr ⟨h3, hm⟩) hw
    rw [h.run.keep m h1 (fun e => by have := e.1; omega), h.old m h2 h1, hB h2 h1]
theorem Inv.fresh {B : Start} {G n : Nat} {d0 : List Deferred → Prop} {st : St} {σ : Sig} {E : Heap} {a : Act} {w : World} (h : Inv B G n d0 st σ E a w) {c' : Nat} (hf : Fresh B.σ B.c c') : Fresh σ st.c c' := by
  intro m hm
  have := h.run.le
  rw [h.run.same m (fun e => by have := e.2; have := hm.1; omega)]
  exact hf m ⟨by have := hm.1; omega, hm.2⟩
theorem Inv.step {B : Start} {G n : Nat} {d0 : List Deferred → Prop} {st : St} {σ σ' : Sig} {E : Heap} {a a' : Act} {w w' : World} (h : Inv B G n d0 st σ E a w) {H' : T AObj} {c' : Nat} {W R : List Nat} {v : Value} (ht : Tidy st.H st.c ⟨v, H', c', R, W⟩)
    (hf : Fresh B.σ B.c c') (hr : Run σ w E st.c (· ∈ W) c' (mix W st.c c' H'.get E) σ' w') {ts' : T Value} (hfr : FrameIs σ' G ts'.get n a') (hd : a'.defers = a.defers) (rl : List Nat) :
    Inv B G n d0 ⟨ts', H', c', rl, low B.c W ++ st.wl⟩ σ' (mix W st.c c' H'.get E) a' w' := by
  have hle := h.run.le
  have hle2 : st.c ≤ c' := ht.le
  have hseq := Run.seq hf h.run hr
  refine ⟨hseq.drop hf (fun m hm => ?_) (fun m hm => ?_), fun m hm => ?_, fun m hm1 hm2 => ?_, fun m hm => ?_, hfr, by rw [hd]; exact h.defers⟩
  · rcases hm with hm | hm
    · exact .inl (List.mem_append_right _ hm)
    · rcases Nat.lt_or_ge m B.c with hc | hc
      · exact .inl (List.mem_append_left _ (mem_low.2 ⟨hm, hc⟩))
      · exact .inr ⟨hc, by have : m < st.c := ht.low m hm; omega⟩
  · rcases List.mem_append.1 hm with hm | hm
    · exact .inr (mem_low.1 hm).1
    · exact .inl hm
  · by_cases hin : m ∈ W ∨ (st.c ≤ m ∧ m < c')
    · exact mix_in hin
    · rw [mix_out hin]
      have h1 : E m = st.H.get m := h.agree m (by
        rcases hm with hm | hm
        · rcases List.mem_append.1 hm with hm | hm
          · exact absurd (.inl (mem_low.1 hm).1) hin
          · exact .inl hm
        · exact .inr ⟨hm.1, by rcases Nat.lt_or_ge m st.c with h3 | h3; exact h3; exact absurd (.inr ⟨h3, hm.2⟩) hin⟩)
      rw [h1]
      exact (ht.keep m (fun e => hin (.inl e)) (fun e => hin (.inr e))).symm
  · simp only [List.mem_append, not_or, mem_low] at hm2
    have h1 : m ∉ W := fun e => hm2.1 ⟨e, hm1⟩
    rw [← h.old m hm1 hm2.2]
    exact ht.keep m h1 (fun e => by have := e.1; omega)
  · rcases List.mem_append.1 hm with hm | hm
    · exact (mem_low.1 hm).2
    · exact h.wlow m hm
end
end Go.Proofs.YtpcejpcbkjnlkaaGreatDoor.AE

namespace Go.Proofs.YtpcejpcbkjnlkaaGreatDoor.AE
noncomputable section
open Go.RowKit

/-- is the operation wanted; nothing: it cannot be told -/
def wantedA (ops : Array Oper) (ts : T Value) (o : Oper) : Option Bool :=
  match o.guard with
  | none => some true
  | some (j, want) => match (ops[j]?).bind (·.dst) with
    | some t => match ts.get t with
      | some (.bool b) => some (b == want)
      | some (.tuple _) => some false
      | _ => none
    | none => none
theorem wantedA_ok {ops : Array Oper} {ts : T Value} {K : Nat → Option Value} {o : Oper} {q : Bool} {σ : Sig} {G n : Nat} {a : Act} (h : wantedA ops ts o = some q) (hf : FrameIs σ G K n a) (hK : ∀ g want t, o.guard = some (g, want) → (ops[g]?).bind (·.dst) = some t → K t = ts.get t) : Region.wanted o (yielded ops a.tmps) = q := by
  unfold wantedA at h
  unfold Region.wanted
  cases hg : o.guard with
  | none => rw [hg] at h; cases h; rfl
  | some gw =>
    obtain ⟨j, want⟩ := gw
    rw [hg] at h
    simp only at h ⊢
    cases ht : (ops[j]?).bind (·.dst) with
    | none => rw [ht] at h; cases h
    | some t =>
      rw [ht] at h
      simp only at h
      have hk := hK j want t hg ht
      split at h
      · rename_i b hb
        cases h
        obtain ⟨v', h1, h2⟩ := hf.tmp t _ (hk.trans hb)
        simp only [conc] at h1
        cases h1
        simp [yielded, ht, h2]
      · rename_i vs hb
        cases h
        obtain ⟨v', h1, h2⟩ := hf.tmp t _ (hk.trans hb)
        simp only [conc] at h1
        split at h1
        · cases h1; simp [yielded, ht, h2]
        · cases h1
      · cases h
section
variable {P : Program} {call : CallFn} {G n : Nat} {B : Start}
/-- a deferred call of a function that does nothing when nothing panics -/
def IdleOk (P : Program) (idle : FuncId → Bool) : Prop := ∀ f, idle f = true → ∀ (p : Addr) (w : World), CallsD P f #[.pointer (some p)] .returning w fun e u' w' => e = .returned (.tuple #[]) ∧ u' = .returning ∧ w' = w
def deferA (P : Program) (idle : FuncId → Bool) (ev : Operand → Option Value) (c : Call) : Bool :=
  match c with
  | ⟨.value f, args, _⟩ => match ev f, evL ev args.toList with
    | some (.func (.func fid) first captured), some as => match first.toList ++ (as ++ captured.toList) with
      | [.pointer (some _)] => idle fid && hasBody P fid
      | _ => false
    | _, _ => false
  | _ => false
theorem deferA_ok (hP : NamesOk P) {idle : FuncId → Bool} (hI : IdleOk P idle) {o : Oper} {cl : Call} (ho : o.op = .defer cl) {ev : Operand → Option Value} (h : deferA P idle ev cl = true) {σ : Sig} {a : Act} (hk : Knows σ ev a.eval) (w : World) :
    ∃ d, (execOp a.eval o).run P w = .ok (.defer d) w ∧ IdleD P d := by
  unfold deferA at h
  split at h
  case h_2 => cases h
  rename_i f args ts
  split at h
  case h_2 => cases h
  rename_i fid first captured as hf ha
  split at h
  case h_2 => cases h
  rename_i p hlist
  simp only [Bool.and_eq_true] at h
  obtain ⟨h1, h2⟩ := h
  obtain ⟨x', y', hx, hy, hfv⟩ := conc_func (hk _ _ hf)
  have hal := evL_ok hk _ _ ha
  have hargs := concL_append (concA_list hx) (concL_append hal (concA_list hy))
  rw [hlist] at hargs
  have hone : ∃ p', x'.toList ++ (args.toList.map a.eval ++ y'.toList) = [.pointer (some p')] := by
    simp only [concL, conc] at hargs
    split at hargs
    · rename_i v' l' hv hl
      split at hv
      · cases hv; cases hl; injection hargs with hargs; exact ⟨_, hargs.symm⟩
      · cases hv
    · cases hargs
  obtain ⟨p', hp'⟩ := hone
  unfold hasBody at h2
  cases hfn : P.funcs[fid]? with
  | none => rw [hfn] at h2; cases h2
  | some fn =>
    rw [hfn] at h2
    have hname' : ¬ fn.name = "runtime.NumGoroutine" := by simpa using hP fid fn hfn h2
    have hnone' : ¬ fn.body = none := fun e => by simp [e] at h2
    refine ⟨⟨.fn (.func fid) y', x' ++ args.map a.eval⟩, ?_, .func fid, y', fid, #[.pointer (some p')], rfl, fun w => ?_, fun w => hI fid h1 p' w⟩
    · unfold execOp
      simp only [ho, resolve, hfv, Deferred.ofValue]
      rfl
    · have he : x' ++ args.map a.eval ++ y' = #[.pointer (some p')] := by
        apply Array.ext'
        simpa using hp'
      simp only [invoke, he]
      simp [callFunc, hfn, hname', hnone']
/-- the operations that come most often -/
inductive DOp where
  | mv (x : Operand)
  | bin (op : BinOp) (t : TypeId) (x y : Operand)
  | ld (t : TypeId) (x : Operand)
  | st (t : TypeId) (x y : Operand)
  | fa (t : TypeId) (x : Operand) (f : Nat)
  | ia (t : TypeId) (x i : Operand)
  | cl (f : Operand) (args : Array Operand)
  | df (c : Call)
  | other
def decodeOp : Op → DOp
  | .move x => .mv x
  | .assign x => .mv x
  | .binOp op t x y _ => .bin op t x y
  | .load t x => .ld t x
  | .store t x y => .st t x y
  | .fieldAddr t x f => .fa t x f
  | .indexAddr t x i => .ia t x i
  | .call ⟨.value f, args, _⟩ => .cl f args
  | .defer c => .df c
  | _ => .other
/-- an outcome put into a state -/
def toSt (n c0 : Nat) (d : Option Tmp) (st : St) : Option Out → Option St
  | some out => some ⟨putT n d out.v st.ts, out.H, out.c, low c0 out.R ++ st.rl, low c0 out.W ++ st.wl⟩
  | none => none
def resSt (n c0 : Nat) (d : Option Tmp) (st : St) : Option Res → Option St
  | some ⟨v, [], [], 0, rd⟩ => bif allLow st.c rd then some ⟨putT n d v st.ts, st.H, st.c, low c0 rd ++ st.rl, st.wl⟩ else none
  | some ⟨v, [(k, o)], [], 0, rd⟩ => bif Nat.blt k st.c then (bif allLow st.c rd then some ⟨putT n d v st.ts, st.H.put k (some o), st.c, low c0 rd ++ st.rl, low c0 [k] ++ st.wl⟩ else none) else none
  | some r => toSt n c0 d st (ofRes st.H st.c r)
  | none => none
theorem resSt_eq (n c0 : Nat) (d : Option Tmp) (st : St) (r : Res) : resSt n c0 d st (some r) = toSt n c0 d st (ofRes st.H st.c r) := by
  unfold resSt
  split
  · rename_i v rd he
    cases he
    cases hb : allLow st.c rd with
    | true => simp [ofRes, allLow, hb, toSt, putKills, putSets, low]
    | false => simp [ofRes, allLow, hb, toSt]
  · rename_i v k o rd he
    cases he
    cases hk : Nat.blt k st.c with
    | true => cases hb : allLow st.c rd with
      | true => simp [ofRes, allLow, hb, hk, toSt, putKills, putSets, low]
      | false => simp [ofRes, allLow, hb, hk, toSt]
    | false => simp [ofRes, allLow, hk, toSt]
  · rename_i h; cases h; rfl
  · rename_i h; cases h
def pureSt (n : Nat) (d : Option Tmp) (st : St) : Option Res → Option St
  | some r => some ⟨putT n d r.v st.ts, st.H, st.c, st.rl, st.wl⟩
  | none => none
def stepOp (P : Program) (call : CallFn) (idle : FuncId → Bool) (G n c0 : Nat) (o : Oper) (st : St) : Option St :=
  match decodeOp o.op with
  | .mv x => match evOf G st.ts x with
    | some v => some ⟨putT n o.dst v st.ts, st.H, st.c, st.rl, st.wl⟩
    | none => none
  | .bin op t x y => pureSt n o.dst st (binOpA P (evOf G st.ts) op t x y)
  | .ld t x => resSt n c0 o.dst st (loadOp P (evOf G st.ts) st.H.get t x)
  | .st t x y => resSt n c0 o.dst st (storeOp P (evOf G st.ts) st.H.get t x y)
  | .fa t x f => resSt n c0 o.dst st (fieldAddrOp P (evOf G st.ts) t x f)
  | .ia t x i => resSt n c0 o.dst st (indexAddrOp P (evOf G st.ts) t x i)
  | .cl f args => toSt n c0 o.dst st (evalCall P call (evOf G st.ts) st.H st.c f args)
  | .df c => bif deferA P idle (evOf G st.ts) c then some ⟨putT n o.dst undef st.ts, st.H, st.c, st.rl, st.wl⟩ else none
  | .other => resSt n c0 o.dst st (simpleOp P (evOf G st.ts) st.H.get st.c o)
theorem binOpA_pure {ev : Operand → Option Value} {op : BinOp} {t : TypeId} {x y : Operand} {r : Res} (h : binOpA P ev op t x y = some r) : r = pureRes r.v := by
  unfold binOpA at h
  split at h
  case h_2 => cases h
  split at h
  · cases h; rfl
  split at h
  · cases h; rfl
  split at h
  case h_2 => cases h
  split at h
  · cases h; rfl
  · cases h
theorem ofRes_pure (H : T AObj) (c : Nat) (v : Value) : ofRes H c (pureRes v) = some ⟨v, H, c, [], []⟩ := rfl
theorem stepOp_eq {idle : FuncId → Bool} {c0 : Nat} {o : Oper} {st : St} : stepOp P call idle G n c0 o st = (match o.op with
    | .defer cl => bif deferA P idle (evOf G st.ts) cl then some ⟨putT n o.dst undef st.ts, st.H, st.c, st.rl, st.wl⟩ else none
    | _ => match evalOp P call (evOf G st.ts) st.H st.c o with
      | some out => some ⟨putT n o.dst out.v st.ts, out.H, out.c, low c0 out.R ++ st.rl, low c0 out.W ++ st.wl⟩
      | none => none) := by
  obtain ⟨dst, op, type, pos, after, guard⟩ := o
  have gen : ∀ r : Option Res, resSt n c0 dst st r = (match (match r with | some r => ofRes st.H st.c r | none => none) with
      | some out => some ⟨putT n dst out.v st.ts, out.H, out.c, low c0 out.R ++ st.rl, low c0 out.W ++ st.wl⟩
      | none => none) := fun r => by
    cases r with
    | none => rfl
    | some r => rw [resSt_eq]; simp only; cases ofRes st.H st.c r <;> rfl
  cases op
  case move x =>
    simp only [stepOp, decodeOp, evalOp, simpleOp, moveOp]
    cases evOf G st.ts x with
    | none => rfl
    | some v => simp only [ofRes_pure, low, List.nil_append]
  case assign x =>
    simp only [stepOp, decodeOp, evalOp, simpleOp, moveOp]
    cases evOf G st.ts x with
    | none => rfl
    | some v => simp only [ofRes_pure, low, List.nil_append]
  case binOp op t x y u =>
    simp only [stepOp, decodeOp, evalOp, simpleOp]
    cases hr : binOpA P (evOf G st.ts) op t x y with
    | none => rfl
    | some r =>
      rw [binOpA_pure hr]
      simp only [pureSt, ofRes_pure, low, List.nil_append]
      rfl
  case load t x => simp only [stepOp, decodeOp, evalOp, simpleOp]; exact gen _
  case store t x y => simp only [stepOp, decodeOp, evalOp, simpleOp]; exact gen _
  case fieldAddr t x f => simp only [stepOp, decodeOp, evalOp, simpleOp]; exact gen _
  case indexAddr t x i => simp only [stepOp, decodeOp, evalOp, simpleOp]; exact gen _
  case defer c => rfl
  case call cl =>
    obtain ⟨callee, args, ts⟩ := cl
    cases callee with
    | value f => simp only [stepOp, decodeOp, evalOp]; cases evalCall P call (evOf G st.ts) st.H st.c f args <;> rfl
    | invoke r m => rfl
    | builtin b => simp only [stepOp, decodeOp, evalOp]; cases simpleOp P (evOf G st.ts) st.H.get st.c ⟨dst, .call ⟨.builtin b, args, ts⟩, type, pos, after, guard⟩ with
      | none => rfl
      | some r => rw [resSt_eq]; simp only; cases ofRes st.H st.c r <;> rfl
  all_goals first
    | rfl
    | (simp only [stepOp, decodeOp, evalOp]; generalize simpleOp P _ _ _ _ = r; cases r with
      | none => rfl
      | some r => rw [resSt_eq]; simp only; cases ofRes st.H st.c r <;> rfl)
theorem stepOp_split {idle : FuncId → Bool} {c0 : Nat} {o : Oper} {st st' : St} (h : stepOp P call idle G n c0 o st = some st') :
    (∃ cl, o.op = .defer cl ∧ deferA P idle (evOf G st.ts) cl = true ∧ st' = ⟨putT n o.dst undef st.ts, st.H, st.c, st.rl, st.wl⟩) ∨
    ∃ out, evalOp P call (evOf G st.ts) st.H st.c o = some out ∧ st' = ⟨putT n o.dst out.v st.ts, out.H, out.c, low c0 out.R ++ st.rl, low c0 out.W ++ st.wl⟩ := by
  rw [stepOp_eq] at h
  split at h
  · rename_i cl ho
    cases hb : deferA P idle (evOf G st.ts) cl with
    | false => rw [hb] at h; cases h
    | true => rw [hb, cond_true] at h; cases h; exact .inl ⟨cl, ho, hb, rfl⟩
  · split at h
    case h_2 => cases h
    rename_i out hout
    cases h
    exact .inr ⟨out, hout, rfl⟩
/-- one operation, if it is wanted -/
def stepW (P : Program) (call : CallFn) (idle : FuncId → Bool) (G n c0 : Nat) (ops : Array Oper) (o : Oper) (st : St) : Option St :=
  match wantedA ops st.ts o with
  | some true => stepOp P call idle G n c0 o st
  | some false => some ⟨putT n o.dst undef st.ts, st.H, st.c, st.rl, st.wl⟩
  | none => none
def goOn (k : St → Option St) : Option St → Option St
  | some st => st.force k
  | none => none
noncomputable def foldOps (f : Oper → St → Option St) (l : List Oper) : St → Option St :=
  List.rec (motive := fun _ => St → Option St) (fun st => some st) (fun o _ ih st => goOn ih (f o st)) l
noncomputable def runOps (P : Program) (call : CallFn) (idle : FuncId → Bool) (G n c0 : Nat) (ops : Array Oper) (l : List Oper) (st : St) : Option St :=
  foldOps (stepW P call idle G n c0 ops) l st
theorem runOps_nil {idle : FuncId → Bool} {c0 : Nat} {ops : Array Oper} {st : St} : runOps P call idle G n c0 ops [] st = some st := rfl
theorem runOps_cons {idle : FuncId → Bool} {c0 : Nat} {ops : Array Oper} {o : Oper} {l : List Oper} {st : St} : runOps P call idle G n c0 ops (o :: l) st = match wantedA ops st.ts o with
    | some true => match stepOp P call idle G n c0 o st with
      | some st' => runOps P call idle G n c0 ops l st'
      | none => none
    | some false => runOps P call idle G n c0 ops l ⟨putT n o.dst undef st.ts, st.H, st.c, st.rl, st.wl⟩
    | none => none := by
  show goOn (runOps P call idle G n c0 ops l) (stepW P call idle G n c0 ops o st) = _
  unfold stepW
  split
  · cases stepOp P call idle G n c0 o st with
    | none => rfl
    | some st' => simp only [goOn, St.force_eq]
  · simp only [goOn, St.force_eq]
  · rfl
structure Grow (st st' : St) : Prop where
  le : st.c ≤ st'.c
  rl : ∀ m ∈ st.rl, m ∈ st'.rl
theorem Grow.refl (st : St) : Grow st st := ⟨Nat.le_refl _, fun _ h => h⟩
theorem Grow.trans {a b c : St} (h : Grow a b) (k : Grow b c) : Grow a c := ⟨Nat.le_trans h.le k.le, fun m hm => k.rl m (h.rl m hm)⟩
theorem stepOp_grow (hc : CallsOk P G call) {idle : FuncId → Bool} {c0 : Nat} {o : Oper} {st st' : St} (h : stepOp P call idle G n c0 o st = some st') : Grow st st' := by
  rcases stepOp_split h with ⟨cl, _, _, rfl⟩ | ⟨out, hout, rfl⟩
  · exact ⟨Nat.le_refl _, fun m hm => hm⟩
  · exact ⟨(evalOp_tidy hc hout).le, fun m hm => List.mem_append_right _ hm⟩
theorem runOps_grow (hc : CallsOk P G call) {idle : FuncId → Bool} {c0 : Nat} {ops : Array Oper} : ∀ (l : List Oper) (st st' : St), runOps P call idle G n c0 ops l st = some st' → Grow st st'
  | [], st, st', h => by simp only [runOps_nil] at h; cases h; exact Grow.refl _
  | o :: l, st, st', h => by
    simp only [runOps_cons] at h
    split at h
    · split at h
      case h_2 => cases h
      rename_i st1 h1
      exact (stepOp_grow hc h1).trans (runOps_grow hc l _ _ h)
    · have := runOps_grow hc l _ _ h
      exact ⟨this.le, this.rl⟩
    · cases h
/-- an operation in a state of a walk -/
theorem Inv.op (hP : NamesOk P) (hc : CallsOk P G call) {st : St} {σ : Sig} {E : Heap} {a : Act} {w : World} (hi : Inv B G n (AllIdle P) st σ E a w) {o : Oper} {out : Out} (h : evalOp P call (evOf G st.ts) st.H st.c o = some out)
    (hf : Fresh B.σ B.c out.c) {rl : List Nat} (hread : ∀ m ∈ out.R, m < B.c → m ∉ st.wl → B.E m = B.H.get m) {K : Act → World → Prop} {Q : Exit → Act → World → Prop}
    (hK : ∀ σ' E' a' w', Inv B G n (AllIdle P) ⟨putT n o.dst out.v st.ts, out.H, out.c, rl, low B.c out.W ++ st.wl⟩ σ' E' a' w' → K a' w') : o.wp P a w K Q := by
  have ht := evalOp_tidy hc h
  refine evalOp_ok hP hc h σ w E a hi.run.sat (hi.fresh hf) (fun m hm => hi.look (ht.rlow m hm) (hread m hm)) hi.frame.knows hi.frame.glob K Q fun σ' w' v' hv hr => ?_
  have hx := hr.ext (hi.fresh hf)
  refine hK σ' _ _ w' (hi.step (v := out.v) (R := out.R) ht hf hr (hi.frame.put hx hv o.dst) ?_ rl)
  cases o.dst <;> rfl
theorem Inv.skip {st : St} {σ : Sig} {E : Heap} {a : Act} {w : World} (hi : Inv B G n (AllIdle P) st σ E a w) (d : Option Tmp) : Inv B G n (AllIdle P) ⟨putT n d undef st.ts, st.H, st.c, st.rl, st.wl⟩ σ E (a.put d undef) w :=
  ⟨hi.run, hi.agree, hi.old, hi.wlow, hi.frame.put (Ext.refl σ) (conc_undef σ) d, by have := hi.defers; cases d <;> exact this⟩
theorem Inv.relog {st : St} {σ : Sig} {E : Heap} {a : Act} {w : World} (hi : Inv B G n (AllIdle P) st σ E a w) (rl : List Nat) : Inv B G n (AllIdle P) ⟨st.ts, st.H, st.c, rl, st.wl⟩ σ E a w := ⟨hi.run, hi.agree, hi.old, hi.wlow, hi.frame, hi.defers⟩
theorem Inv.stepOp (hP : NamesOk P) (hc : CallsOk P G call) {idle : FuncId → Bool} (hI : IdleOk P idle) {st st' : St} {σ : Sig} {E : Heap} {a : Act} {w : World} (hi : Inv B G n (AllIdle P) st σ E a w) {o : Oper} (h : stepOp P call idle G n B.c o st = some st')
    (hf : Fresh B.σ B.c st'.c) (hread : ∀ m ∈ st'.rl, B.E m = B.H.get m) {K : Act → World → Prop} {Q : Exit → Act → World → Prop} (hK : ∀ σ' E' a' w', Inv B G n (AllIdle P) st' σ' E' a' w' → K a' w') : o.wp P a w K Q := by
  rcases stepOp_split h with ⟨cl, ho, hd, rfl⟩ | ⟨out, hout, rfl⟩
  · obtain ⟨d, h1, h2⟩ := deferA_ok hP hI ho hd hi.frame.knows w
    unfold Oper.wp
    rw [h1, Oper.upon_defer]
    refine hK σ E _ w ⟨hi.run, hi.agree, hi.old, hi.wlow, ?_, ?_⟩
    · have := hi.frame.put (Ext.refl σ) (conc_undef σ) o.dst
      refine ⟨?_, ?_, this.glob⟩
      · have h3 := this.size; cases hdst : o.dst <;> rw [hdst] at h3 <;> exact h3
      · have h3 := this.tmp; cases hdst : o.dst <;> rw [hdst] at h3 <;> exact h3
    · have hall : AllIdle P (d :: a.defers) := fun d' hd' => by
        rcases List.mem_cons.1 hd' with e | e
        · subst e; exact h2
        · exact hi.defers d' e
      cases o.dst <;> exact hall
  · exact hi.op hP hc hout hf (fun m hm hlt _ => hread m (List.mem_append_left _ (mem_low.2 ⟨hm, hlt⟩))) hK
theorem runOps_ok (hP : NamesOk P) (hc : CallsOk P G call) {idle : FuncId → Bool} (hI : IdleOk P idle) {ops : Array Oper} {Q : Exit → Act → World → Prop} : ∀ (l : List Oper) (idx : List Nat) (st st' : St), runOps P call idle G n B.c ops l st = some st' → l.length = idx.length → (∀ (j i : Nat) (o : Oper), idx[j]? = some i → l[j]? = some o → ops[i]? = some o) →
    ∀ (σ : Sig) (E : Heap) (a : Act) (w : World), Inv B G n (AllIdle P) st σ E a w → Fresh B.σ B.c st'.c → (∀ m ∈ st'.rl, B.E m = B.H.get m) → (∀ σ' E' a' w', Inv B G n (AllIdle P) st' σ' E' a' w' → Q .normal a' w') → wpOps P ops Q idx a w
  | [], idx, st, st', h, hl, _, σ, E, a, w, hi, hf, hread, hQ => by
    simp only [runOps_nil] at h; cases h
    have : idx = [] := List.eq_nil_of_length_eq_zero hl.symm
    subst this
    exact hQ _ _ _ _ hi
  | o :: l, [], _, _, _, hl, _, _, _, _, _, _, _, _, _ => by simp at hl
  | o :: l, i :: idx, st, st', h, hl, hget, σ, E, a, w, hi, hf, hread, hQ => by
    have hio : ops[i]? = some o := hget 0 i o (by simp) (by simp)
    have hl' : l.length = idx.length := by simpa using hl
    have hget' : ∀ (j i : Nat) (o : Oper), idx[j]? = some i → l[j]? = some o → ops[i]? = some o := fun j i o h1 h2 => hget (j + 1) i o (by simpa using h1) (by simpa using h2)
    rw [wpOps_cons]
    unfold wpOp
    simp only [hio]
    simp only [runOps_cons] at h
    split at h
    · rename_i hw
      split at h
      case h_2 => cases h
      rename_i st1 h1
      rw [if_pos (wantedA_ok hw hi.frame fun _ _ _ _ _ => rfl)]
      have hg := runOps_grow hc l _ _ h
      refine .inl (hi.stepOp hP hc hI h1 (fun m hm => hf m ⟨hm.1, Nat.lt_of_lt_of_le hm.2 hg.le⟩) (fun m hm => hread m (hg.rl m hm)) fun σ' E' a' w' hi' => ?_)
      exact runOps_ok hP hc hI l idx _ st' h hl' hget' σ' E' a' w' hi' hf hread hQ
    · rename_i hw
      have hwf := wantedA_ok hw hi.frame fun _ _ _ _ _ => rfl
      rw [hwf]
      simp only [Bool.false_eq_true, if_false]
      exact runOps_ok hP hc hI l idx _ st' h hl' hget' σ E _ w (hi.skip o.dst) hf hread hQ
    · cases h
theorem runOps_region (hP : NamesOk P) (hc : CallsOk P G call) {idle : FuncId → Bool} (hI : IdleOk P idle) {ops : Array Oper} {id : Nat} {Q : Exit → Act → World → Prop} {st st' : St} (h : runOps P call idle G n B.c ops ops.toList st = some st')
    {σ : Sig} {E : Heap} {a : Act} {w : World} (hi : Inv B G n (AllIdle P) st σ E a w) (hf : Fresh B.σ B.c st'.c) (hread : ∀ m ∈ st'.rl, B.E m = B.H.get m) (hQ : ∀ σ' E' a' w', Inv B G n (AllIdle P) st' σ' E' a' w' → Q .normal a' w') :
    (Code.region id ops false).wp P Q a w := by
  refine wp_region (runOps_ok hP hc hI ops.toList (List.range ops.size) st st' h (by simp) (fun j i o h1 h2 => ?_) σ E a w hi hf hread hQ)
  have : i = j := by
    rw [List.getElem?_range] at h1
    · cases h1; rfl
    · have := (List.getElem?_eq_some_iff.1 h1).1
      simpa using this
  subst this
  simpa using h2
end
end
end Go.Proofs.YtpcejpcbkjnlkaaGreatDoor.AE

namespace Go.Proofs.YtpcejpcbkjnlkaaGreatDoor.AE
noncomputable section
open Go.RowKit
section
variable {P : Program} {call : CallFn} {ev ev' : Operand → Option Value} {look : Heap} {H : T AObj} {c : Nat}
theorem evL_congr : ∀ {l : List Operand}, (∀ x ∈ l, ev x = ev' x) → evL ev l = evL ev' l
  | [], _ => rfl
  | x :: l, h => by
    have h1 := h x (by simp)
    have h2 := evL_congr (l := l) fun y hy => h y (by simp [hy])
    simp only [evL, h1, h2]
theorem evA_congr {a : Array Operand} (h : ∀ x ∈ a, ev x = ev' x) : evA ev a = evA ev' a := by
  obtain ⟨l⟩ := a
  simp only [evA]
  rw [evL_congr (l := l) fun x hx => h x (by simpa using hx)]
theorem evParts_congr : ∀ {l : List (Nat × Operand)}, (∀ x ∈ l.map (·.2), ev x = ev' x) → evParts ev l = evParts ev' l
  | [], _ => rfl
  | x :: l, h => by
    have h1 := h x.2 (by simp)
    have h2 := evParts_congr (l := l) fun y hy => h y (by simp at hy ⊢; exact .inr hy)
    obtain ⟨i, x⟩ := x
    simp only [evParts, h1, h2]
theorem evNat_congr {o : Option Operand} {d : Nat} (h : ∀ x, o = some x → ev x = ev' x) : evNat ev o d = evNat ev' o d := by
  cases o with
  | none => rfl
  | some x => simp only [evNat, h x rfl]
theorem simpleOp_congr {o : Oper} (h : ∀ x ∈ o.op.operands, ev x = ev' x) : simpleOp P ev look c o = simpleOp P ev' look c o := by
  obtain ⟨dst, op, type, pos, after, guard⟩ := o
  cases op <;> simp only [Op.operands] at h <;> simp only [simpleOp]
  case move x => simp only [moveOp, h x (by simp)]
  case assign x => simp only [moveOp, h x (by simp)]
  case pick q x y => simp only [pickOp, moveOp, h q (by simp), h x (by simp), h y (by simp)]
  case box t x => simp only [boxOp, h x (by simp)]
  case build t ps => simp only [buildOp, evParts_congr (l := ps.toList) fun x hx => h x (by simpa using hx)]
  case buildSlice t n ps => simp only [buildSliceOp, evParts_congr (l := ps.toList) fun x hx => h x (by simpa using hx)]
  case load t x => simp only [loadOp, h x (by simp)]
  case store t x y => simp only [storeOp, h x (by simp), h y (by simp)]
  case nilCheck x => simp only [nilOp, h x (by simp)]
  case binOp op t x y _ => simp only [binOpA, h x (by simp), h y (by simp)]
  case unOp op t x => simp only [un1, h x (by simp)]
  case convert s d x => simp only [un1, h x (by simp)]
  case makeInterface t x => simp only [ifaceOp, h x (by simp)]
  case makeFunc fn a b => simp only [funcOp, evA_congr (a := a) fun x hx => h x (by simp [hx]), evA_congr (a := b) fun x hx => h x (by simp [hx])]
  case makeSlice t l m => simp only [makeSliceOp, h l (by simp), h m (by simp)]
  case slice t x lo hi mx =>
    have h1 := h x (by simp)
    have h2 : ∀ d, evNat ev lo d = evNat ev' lo d := fun d => evNat_congr fun y hy => h y (by simp [hy])
    have h3 : ∀ d, evNat ev hi d = evNat ev' hi d := fun d => evNat_congr fun y hy => h y (by simp [hy])
    have h4 : slicePlain P ev t x lo hi = slicePlain P ev' t x lo hi := by
      have ha : ∀ y, lo = some y → ev y = ev' y := fun y hy => h y (by simp [hy])
      have hb : ∀ y, hi = some y → ev y = ev' y := fun y hy => h y (by simp [hy])
      simp only [slicePlain, h1]
      cases ev' x with
      | none => rfl
      | some v =>
        cases lo with
        | none => cases hi with
          | none => rfl
          | some b => simp only [hb b rfl]
        | some a => cases hi with
          | none => simp only [ha a rfl]
          | some b => simp only [ha a rfl, hb b rfl]
    cases hi with
    | none => simp only [sliceOp, h1, h2, h3, h4]
    | some hi => cases mx with
      | none => simp only [sliceOp, h1, h2, h3, h4]
      | some mx =>
        have h5 : ∀ d, evNat ev (some mx) d = evNat ev' (some mx) d := fun d => evNat_congr fun y hy => h y (by cases hy; simp)
        simp only [slice3Op, h1, h2, h3, h5]
  case fieldAddr t x f => simp only [fieldAddrOp, h x (by simp)]
  case field t x f => simp only [fieldOp, h x (by simp)]
  case indexAddr t x i => simp only [indexAddrOp, h x (by simp), h i (by simp)]
  case index t x i => simp only [indexOp, un2, h x (by simp), h i (by simp)]
  case lookup t x i ok => simp only [lookupOp, h x (by simp), h i (by simp)]
  case mapUpdate t m k x => simp only [mapUpdateOp, h m (by simp), h k (by simp), h x (by simp)]
  case insert t m k x => simp only [mapUpdateOp, h m (by simp), h k (by simp), h x (by simp)]
  case extract x i => simp only [extractOp, h x (by simp)]
  case range t x => simp only [rangeOp, h x (by simp)]
  case next x s => cases s with
    | true => simp only [nextStr, h x (by simp)]
    | false => simp only [nextMap, h x (by simp)]
  case mapEntry t m k => simp only [mapEntryOp, h m (by simp), h k (by simp)]
  case entryStore t m s x => simp only [entryStoreOp, h m (by simp), h s (by simp), h x (by simp)]
  case typeAssert x t s ok => simp only [un1, h x (by simp)]
  case call cl =>
    obtain ⟨callee, args, ts⟩ := cl
    cases callee with
    | builtin b =>
      have ha : ∀ x ∈ args, ev x = ev' x := fun x hx => h x (by simp [Call.operands, hx])
      simp only [builtinOp]
      split
      · rename_i x y t u
        have h1 := ha x (by simp)
        have h2 := ha y (by simp)
        simp only [appendOp, appendFast, appendSlow, h1, h2]
      · rename_i x t l
        have h1 := ha x (by simp)
        simp only [lenOp, h1]
      · rename_i x y t l
        have h1 := ha x (by simp)
        have h2 := ha y (by simp)
        simp only [copyOp, h1, h2]
      · rename_i x y t l
        have h1 := ha x (by simp)
        have h2 := ha y (by simp)
        simp only [deleteOp, h1, h2]
      · simp only [listBuiltin, evA_congr ha]
      · simp only [listBuiltin, evA_congr ha]
      · rfl
    | value f => rfl
    | invoke r m => rfl
theorem evalOp_congr {o : Oper} (h : ∀ x ∈ o.op.operands, ev x = ev' x) : evalOp P call ev H c o = evalOp P call ev' H c o := by
  unfold evalOp
  split
  · rename_i f args ts ho
    rw [ho] at h
    simp only [Op.operands, Call.operands] at h
    have h1 := h f (by simp)
    have h2 : evL ev args.toList = evL ev' args.toList := evL_congr fun x hx => h x (by simp at hx; simp [hx])
    simp only [evalCall, h1, h2]
  · rw [simpleOp_congr h]
end
end
end Go.Proofs.YtpcejpcbkjnlkaaGreatDoor.AE

namespace Go.Proofs.YtpcejpcbkjnlkaaGreatDoor.AE
noncomputable section
open Go.RowKit

theorem Run.seq_in {σ σ1 σ2 : Sig} {w w1 w2 : World} {H H1 H2 : Heap} {c c2 d d' : Nat} {W1 W2 : Nat → Prop} (hf : Fresh σ c c2) (h : Run σ w H c W1 c2 H1 σ1 w1) (k : Run σ1 w1 H1 d W2 d' H2 σ2 w2) (hd : c ≤ d) (hd' : d' ≤ c2) : Run σ w H c (fun n => W1 n ∨ W2 n) c2 H2 σ2 w2 := by
  have inn : ∀ n, New d d' n → New c c2 n := fun n hn => ⟨Nat.le_trans hd hn.1, Nat.lt_of_lt_of_le hn.2 hd'⟩
  have dead : ∀ m, H1 m = none → ¬ New d d' m → H2 m = none := fun m hm hn => by
    by_cases hw : W2 m
    · rcases k.dom m hw with ⟨o, ho⟩ | hn2
      · rw [hm] at ho; cases ho
      · exact absurd hn2 hn
    · rw [k.keep m hw hn]; exact hm
  refine ⟨h.le, k.sat, fun n hn => (k.same n (fun e => hn (inn n e))).trans (h.same n hn), ?_, fun n hw hn => (k.keep n (fun e => hw (.inr e)) (fun e => hn (inn n e))).trans (h.keep n (fun e => hw (.inl e)) hn), ?_, ?_⟩
  · refine ⟨k.fr.os.trans h.fr.os, k.fr.tape.trans h.fr.tape, k.fr.output.trans h.fr.output, Nat.le_trans h.fr.size k.fr.size, fun b hb hnot => ?_⟩
    rw [k.fr.block b (Nat.lt_of_lt_of_le hb h.fr.size) (fun n p hw hp => ?_), h.fr.block b hb (fun n p hw hp => hnot n p (.inl hw) hp)]
    by_cases hn : New c c2 n
    · rcases h.new n p hn hp with h1 | ⟨m, q, hm, _, _, hq, e⟩
      · omega
      · rw [← e]; exact hnot m q (.inl hm) hq
    · rw [h.same n hn] at hp
      exact hnot n p (.inr hw) hp
  · intro n hw
    rcases hw with hw | hw
    · exact h.dom n hw
    · rcases k.dom n hw with ⟨o, ho⟩ | h1
      · by_cases hn : New c c2 n
        · exact .inr hn
        · by_cases hw1 : W1 n
          · exact h.dom n hw1
          · rw [h.keep n hw1 hn] at ho; exact .inl ⟨o, ho⟩
      · exact .inr (inn n h1)
  · intro n p hn hp
    have live : ∀ m q, σ m = some q → ¬ New c c2 m := fun m q hq e => by rw [hf m e] at hq; cases hq
    by_cases h2 : New d d' n
    · rcases k.new n p h2 hp with h3 | ⟨m, q, hm, hmn, hm2, hq, e⟩
      · exact .inl (Nat.le_trans h.fr.size h3)
      · by_cases hm1 : New c c2 m
        · rcases h.new m q hm1 hq with h4 | ⟨m', q', hm', _, hd2, hq', e'⟩
          · exact .inl (by omega)
          · have hl := live m' q' hq'
            exact .inr ⟨m', q', .inl hm', hl, dead m' hd2 (fun e => hl (inn m' e)), hq', e'.trans e⟩
        · have hq0 : σ m = some q := by rw [← h.same m hm1]; exact hq
          exact .inr ⟨m, q, .inr hm, hm1, hm2, hq0, e⟩
    · rw [k.same n h2] at hp
      rcases h.new n p hn hp with h3 | ⟨m, q, hm, hmn, hm1, hq, e⟩
      · exact .inl h3
      · exact .inr ⟨m, q, .inl hm, hmn, dead m hm1 (fun e => hmn (inn m e)), hq, e⟩

/-! ### what waits for what -/
def maskOf (acc : List Nat) (o : Oper) : Nat := o.after.toList.foldl (fun s e => bif Region.binds .any e then (s ||| 2 ^ e.on) ||| acc.getD e.on 0 else s) 0
def masks : List Nat → List Oper → List Nat
  | acc, [] => acc
  | acc, o :: l => masks (acc ++ [maskOf acc o]) l
def Closed (ops : Array Oper) (S : Nat → Prop) : Prop := ∀ k o, ops[k]? = some o → S k → ∀ e ∈ o.after.toList, Region.binds .any e = true → S e.on
def Marks (ops : Array Oper) (S : Nat → Prop) (acc : List Nat) : Prop := ∀ (k : Nat) (m : Nat) (o : Oper), acc[k]? = some m → ops[k]? = some o → (∀ e ∈ o.after.toList, Region.binds .any e = true → S e.on) → ∀ j, Nat.testBit m j = true → S j
theorem maskOf_ok {ops : Array Oper} {S : Nat → Prop} (hS : Closed ops S) {acc : List Nat} (hacc : Marks ops S acc) (hops : acc.length ≤ ops.size) (o : Oper) (h : ∀ e ∈ o.after.toList, Region.binds .any e = true → S e.on) : ∀ j, Nat.testBit (maskOf acc o) j = true → S j := by
  unfold maskOf
  have key : ∀ (l : List Edge) (s : Nat), (∀ e ∈ l, Region.binds .any e = true → S e.on) → (∀ j, Nat.testBit s j = true → S j) → ∀ j, Nat.testBit (l.foldl (fun s e => bif Region.binds .any e then (s ||| 2 ^ e.on) ||| acc.getD e.on 0 else s) s) j = true → S j := by
    intro l
    induction l with
    | nil => intro s _ hs j hj; exact hs j hj
    | cons e l ih =>
      intro s hl hs j hj
      simp only [List.foldl_cons] at hj
      refine ih _ (fun e' he' => hl e' (by simp [he'])) ?_ j hj
      intro i hi
      cases hb : Region.binds .any e with
      | false => rw [hb, cond_false] at hi; exact hs i hi
      | true =>
        rw [hb, cond_true] at hi
        simp only [Nat.testBit_or, Bool.or_eq_true] at hi
        have hSe := hl e (by simp) hb
        rcases hi with (hi | hi) | hi
        · exact hs i hi
        · rw [Nat.testBit_two_pow] at hi
          have : e.on = i := by simpa using hi
          rw [← this]; exact hSe
        · rw [List.getD_eq_getElem?_getD] at hi
          cases hm : acc[e.on]? with
          | none => rw [hm] at hi; simp at hi
          | some m =>
            rw [hm] at hi
            simp only [Option.getD_some] at hi
            have hlt : e.on < ops.size := by
              have := (List.getElem?_eq_some_iff.1 hm).1
              omega
            have ho : ops[e.on]? = some ops[e.on] := by simp [hlt]
            exact hacc e.on m _ hm ho (hS e.on _ ho hSe) i hi
  exact key _ _ h (fun j hj => by simp at hj)
theorem masks_ok {ops : Array Oper} {S : Nat → Prop} (hS : Closed ops S) : ∀ (l : List Oper) (acc : List Nat), Marks ops S acc → (∀ j o, l[j]? = some o → ops[acc.length + j]? = some o) → Marks ops S (masks acc l)
  | [], acc, h, _ => h
  | o :: l, acc, h, hl => by
    refine masks_ok hS l _ ?_ (fun j o' hj => ?_)
    · intro k m o' hk ho' hafter
      rcases Nat.lt_or_ge k acc.length with hlt | hge
      · rw [List.getElem?_append_left hlt] at hk
        exact h k m o' hk ho' hafter
      · rw [List.getElem?_append_right hge] at hk
        have h0 : k - acc.length = 0 := by
          have := (List.getElem?_eq_some_iff.1 hk).1
          simp at this; omega
        rw [h0] at hk
        simp at hk
        have hkk : k = acc.length := by omega
        have ho2 := hl 0 o (by simp)
        rw [Nat.add_zero, ← hkk, ho'] at ho2
        cases ho2
        rw [← hk]
        refine maskOf_ok hS h ?_ _ hafter
        have := (Array.getElem?_eq_some_iff.1 ho').1
        omega
    · have := hl (j + 1) o' (by simpa using hj)
      rw [← this]
      congr 1
      simp; omega

/-! ### records -/
structure Rec where
  o : Oper
  out : Out
  ts : T Value
  H : T AObj
  c : Nat
  on : Bool
section
variable {P : Program} {call : CallFn} {G n : Nat} {d0 : List Deferred} {B : Start}
def recs (P : Program) (call : CallFn) (G n : Nat) (ops : Array Oper) : List Oper → T Value → T AObj → Nat → Option (List Rec)
  | [], _, _, _ => some []
  | o :: l, ts, H, c => match wantedA ops ts o with
    | some true => match evalOp P call (evOf G ts) H c o with
      | some out => valSeq out.v fun v => (putT n o.dst v ts).seq fun ts' => out.H.seq fun H' => natSeq out.c fun c' => match recs P call G n ops l ts' H' c' with
        | some rs => some (⟨o, ⟨v, H', c', out.R, out.W⟩, ts, H, c, true⟩ :: rs)
        | none => none
      | none => none
    | some false => (putT n o.dst undef ts).seq fun ts' => match recs P call G n ops l ts' H c with
      | some rs => some (⟨o, ⟨undef, H, c, [], []⟩, ts, H, c, false⟩ :: rs)
      | none => none
    | none => none
def RecOk (P : Program) (call : CallFn) (G : Nat) (ops : Array Oper) (x : Rec) : Prop :=
  (x.on = true ∧ wantedA ops x.ts x.o = some true ∧ evalOp P call (evOf G x.ts) x.H x.c x.o = some x.out) ∨
  (x.on = false ∧ wantedA ops x.ts x.o = some false ∧ x.out = ⟨undef, x.H, x.c, [], []⟩)
theorem RecOk.tidy (hc : CallsOk P G call) {ops : Array Oper} {x : Rec} (h : RecOk P call G ops x) : Tidy x.H x.c x.out := by
  rcases h with ⟨_, _, h⟩ | ⟨_, _, h⟩
  · exact evalOp_tidy hc h
  · rw [h]; exact ⟨Nat.le_refl _, by simp, by simp, fun _ _ _ => rfl⟩
/-- the last state of a list of records -/
def lastSt (n : Nat) : List Rec → T Value → T AObj → Nat → T Value × T AObj × Nat
  | [], ts, H, c => (ts, H, c)
  | x :: l, _, _, _ => lastSt n l (putT n x.o.dst x.out.v x.ts) x.out.H x.out.c
/-- records follow one another -/
inductive Chain (P : Program) (call : CallFn) (G n : Nat) (ops : Array Oper) : List Rec → T Value → T AObj → Nat → Prop where
  | nil {ts H c} : Chain P call G n ops [] ts H c
  | cons {x : Rec} {l : List Rec} : RecOk P call G ops x → Chain P call G n ops l (putT n x.o.dst x.out.v x.ts) x.out.H x.out.c → Chain P call G n ops (x :: l) x.ts x.H x.c
theorem recs_chain {ops : Array Oper} : ∀ (l : List Oper) (ts : T Value) (H : T AObj) (c : Nat) (rs : List Rec), recs P call G n ops l ts H c = some rs → Chain P call G n ops rs ts H c ∧ rs.map (·.o) = l
  | [], ts, H, c, rs, h => by simp only [recs] at h; cases h; exact ⟨.nil, rfl⟩
  | o :: l, ts, H, c, rs, h => by
    simp only [recs, valSeq_eq, T.seq_eq, natSeq_eq] at h
    split at h
    · rename_i hw
      split at h
      case h_2 => cases h
      rename_i out hout
      split at h
      case h_2 => cases h
      rename_i rs' hrs
      cases h
      obtain ⟨h1, h2⟩ := recs_chain l _ _ _ _ hrs
      exact ⟨.cons (x := ⟨o, out, ts, H, c, true⟩) (.inl ⟨rfl, hw, hout⟩) h1, by simp [h2]⟩
    · rename_i hw
      split at h
      case h_2 => cases h
      rename_i rs' hrs
      cases h
      obtain ⟨h1, h2⟩ := recs_chain l _ _ _ _ hrs
      exact ⟨.cons (x := ⟨o, ⟨undef, H, c, [], []⟩, ts, H, c, false⟩) (.inr ⟨rfl, hw, rfl⟩) h1, by simp [h2]⟩
    · cases h
end
end
end Go.Proofs.YtpcejpcbkjnlkaaGreatDoor.AE

namespace Go.Proofs.YtpcejpcbkjnlkaaGreatDoor.AE
noncomputable section
open Go.RowKit

/-- temporaries and heap -/
structure Ab where
  K : Nat → Option Value
  E : Heap
def updT (n : Nat) (d : Option Tmp) (v : Value) (K : Nat → Option Value) : Nat → Option Value :=
  match d with
  | none => K
  | some t => if t < n then upd K t (some v) else K
theorem putT_get (n : Nat) (d : Option Tmp) (v : Value) (ts : T Value) : (putT n d v ts).get = updT n d v ts.get := by
  cases d with
  | none => rfl
  | some t =>
    simp only [putT, updT, valSeq_eq]
    cases hb : Nat.blt t n with
    | true => rw [cond_true, T.get_put', if_pos (blt_lt hb)]
    | false =>
      have : ¬ t < n := fun hh => by have : Nat.blt t n = true := by simpa using hh
                                     rw [hb] at this; cases this
      rw [cond_false, if_neg this]
theorem updT_ne {n : Nat} {d : Option Tmp} {v : Value} {K : Nat → Option Value} {t : Nat} (h : d ≠ some t) : updT n d v K t = K t := by
  cases d with
  | none => rfl
  | some s =>
    simp only [updT]
    split
    · exact upd_ne _ _ _ (fun e => h (by rw [e]))
    · rfl
theorem updT_comm {n : Nat} {d e : Option Tmp} {v u : Value} {K : Nat → Option Value} (h : ∀ t, d = some t → e ≠ some t) : updT n d v (updT n e u K) = updT n e u (updT n d v K) := by
  funext t
  by_cases h1 : d = some t
  · have h2 : e ≠ some t := h t h1
    rw [updT_ne h2]
    subst h1
    simp only [updT]
    split
    · simp only [upd_same]
    · exact updT_ne h2
  · rw [updT_ne h1]
    by_cases h2 : e = some t
    · subst h2
      simp only [updT]
      split
      · simp only [upd_same]
      · exact (updT_ne h1).symm
    · rw [updT_ne h2, updT_ne h2, updT_ne h1]
theorem FrameIs.putK {σ σ' : Sig} {G n : Nat} {K : Nat → Option Value} {a : Act} (h : FrameIs σ G K n a) (hx : Ext σ σ') {v v' : Value} (hv : conc σ' v = some v') (d : Option Tmp) : FrameIs σ' G (updT n d v K) n (a.put d v') := by
  have h0 := h.ext hx
  cases d with
  | none => exact h0
  | some t =>
    refine ⟨by simp [Act.put, h.size], fun s u hu => ?_, h0.glob⟩
    simp only [updT] at hu
    by_cases hlt : t < n
    · rw [if_pos hlt] at hu
      by_cases hs : s = t
      · subst hs
        rw [upd_same] at hu; cases hu
        exact ⟨v', hv, by simp [Act.put, h.size, hlt]⟩
      · rw [upd_ne _ _ _ hs] at hu
        obtain ⟨u', h1, h2⟩ := h0.tmp s u hu
        refine ⟨u', h1, ?_⟩
        simp only [Act.put]
        rw [Array.getElem?_setIfInBounds_ne (Ne.symm hs)]
        exact h2
    · rw [if_neg hlt] at hu
      obtain ⟨u', h1, h2⟩ := h0.tmp s u hu
      refine ⟨u', h1, ?_⟩
      have hsn : s < n := by rw [← h.size]; exact (Array.getElem?_eq_some_iff.1 h2).1
      have hts : t ≠ s := fun e => hlt (e ▸ hsn)
      simp only [Act.put]
      rw [Array.getElem?_setIfInBounds_ne hts]
      exact h2
def app (n : Nat) (x : Rec) (s : Ab) : Ab := ⟨updT n x.o.dst x.out.v s.K, mix x.out.W x.c x.out.c x.out.H.get s.E⟩
/-- what an operation looks at is as it was -/
structure J (ops : Array Oper) (x : Rec) (s : Ab) : Prop where
  tmp : ∀ t, t ∈ x.o.looksAt ops → s.K t = x.ts.get t
  read : ∀ m ∈ x.out.R, s.E m = x.H.get m
structure Indep (ops : Array Oper) (x y : Rec) : Prop where
  apart : x.o.apart ops y.o = true
  wr : ∀ m ∈ x.out.W, m ∉ y.out.R
  ww : ∀ m ∈ x.out.W, m ∉ y.out.W
  rw : ∀ m ∈ y.out.W, m ∉ x.out.R
  nr : ∀ m ∈ y.out.R, ¬ (x.c ≤ m ∧ m < x.out.c)
  nw : ∀ m ∈ y.out.W, ¬ (x.c ≤ m ∧ m < x.out.c)
  le : x.out.c ≤ y.c
theorem swap {ops : Array Oper} {n : Nat} {x y : Rec} {s : Ab} (h : Indep ops x y) (tx : Tidy x.H x.c x.out) (h1 : J ops x s) (h2 : J ops y (app n x s)) : J ops y s ∧ J ops x (app n y s) ∧ app n y (app n x s) = app n x (app n y s) := by
  obtain ⟨a1, a2, a3⟩ := Oper.apart_spec h.apart
  have hle := tx.le
  refine ⟨⟨fun t ht => ?_, fun m hm => ?_⟩, ⟨fun t ht => ?_, fun m hm => ?_⟩, ?_⟩
  · rw [← h2.tmp t ht]
    exact (updT_ne (fun e => a1 t e ht)).symm
  · rw [← h2.read m hm]
    exact (mix_out (fun e => e.elim (fun e => h.wr m e hm) (h.nr m hm))).symm
  · rw [← h1.tmp t ht]
    exact updT_ne (fun e => a3 t e ht)
  · rw [← h1.read m hm]
    exact mix_out (fun e => e.elim (fun e => h.rw m e hm) (fun e => by have := tx.rlow m hm; have := h.le; omega))
  · have hK : updT n y.o.dst y.out.v (updT n x.o.dst x.out.v s.K) = updT n x.o.dst x.out.v (updT n y.o.dst y.out.v s.K) := updT_comm fun t e => fun e' => a2 t e' e
    have hE : mix y.out.W y.c y.out.c y.out.H.get (mix x.out.W x.c x.out.c x.out.H.get s.E) = mix x.out.W x.c x.out.c x.out.H.get (mix y.out.W y.c y.out.c y.out.H.get s.E) := by
      funext m
      by_cases hy : m ∈ y.out.W ∨ (y.c ≤ m ∧ m < y.out.c)
      · have hx : ¬ (m ∈ x.out.W ∨ (x.c ≤ m ∧ m < x.out.c)) := fun e => by
          rcases hy with hy | hy
          · exact e.elim (fun e => h.ww m e hy) (h.nw m hy)
          · have := h.le
            rcases e with e | e
            · have := tx.low m e; omega
            · omega
        rw [mix_in hy, mix_out hx, mix_in hy]
      · rw [mix_out hy]
        by_cases hx : m ∈ x.out.W ∨ (x.c ≤ m ∧ m < x.out.c)
        · rw [mix_in hx, mix_in hx]
        · rw [mix_out hx, mix_out hx, mix_out hy]
    unfold app
    rw [hK, hE]
def Valid (ops : Array Oper) (n : Nat) : Ab → List (Nat × Rec) → Ab → Prop
  | s, [], f => s = f
  | s, x :: l, f => J ops x.2 s ∧ Valid ops n (app n x.2 s) l f
theorem Valid.front {ops : Array Oper} {n : Nat} {x : Nat × Rec} {l2 : List (Nat × Rec)} {f : Ab} : ∀ (l1 : List (Nat × Rec)) (s : Ab), Valid ops n s (l1 ++ x :: l2) f → (∀ y ∈ l1, Indep ops y.2 x.2 ∧ Tidy y.2.H y.2.c y.2.out) → J ops x.2 s ∧ Valid ops n (app n x.2 s) (l1 ++ l2) f
  | [], s, h, _ => h
  | y :: l1, s, h, hi => by
    obtain ⟨h1, h2⟩ := h
    obtain ⟨h3, h4⟩ := Valid.front l1 _ h2 fun z hz => hi z (by simp [hz])
    obtain ⟨i1, i2⟩ := hi y (by simp)
    obtain ⟨s1, s2, s3⟩ := swap i1 i2 h1 h3
    rw [s3] at h4
    exact ⟨s1, s2, h4⟩

/-! ### the order is any -/
/-- an earlier and a later record -/
def Ord (ops : Array Oper) (ms : List Nat) (x y : Nat × Rec) : Prop := x.1 < y.1 ∧ x.2.out.c ≤ y.2.c ∧ (Nat.testBit (ms.getD y.1 0) x.1 = true ∨ Indep ops x.2 y.2)
section
variable {P : Program} {call : CallFn} {G n : Nat} {d0 : List Deferred}
theorem getD_both {listed : Array Bool} {i : Nat} (h : i < listed.size) (a b : Bool) : listed.getD i a = listed.getD i b := by
  simp [h]
open Classical in
theorem draw_any (hP : NamesOk P) (hc : CallsOk P G call) {ops : Array Oper} {ms : List Nat} {all : List (Nat × Rec)} {Q : Exit → Act → World → Prop} {f : Ab} {σr : Sig} {wr : World} {Er : Heap} {cr cN : Nat}
    (hms : ∀ S, Closed ops S → Marks ops S ms) (hmlen : ms.length = ops.size)
    (hall : ∀ p ∈ all, ops[p.1]? = some p.2.o ∧ RecOk P call G ops p.2 ∧ cr ≤ p.2.c ∧ p.2.out.c ≤ cN) (hedge : ∀ p ∈ all, ∀ e ∈ p.2.o.after.toList, Region.binds .any e = true → e.on < p.1)
    (hf : Fresh σr cr cN)
    (hQ : ∀ σ' a' w' Wp, FrameIs σ' G f.K n a' → a'.defers = d0 → Run σr wr Er cr Wp cN f.E σ' w' → (∀ m, Wp m → ∃ p ∈ all, m ∈ p.2.out.W) → (∀ p ∈ all, ∀ m ∈ p.2.out.W, Wp m) → Q .normal a' w') :
    ∀ (fuel : Nat) (listed : Array Bool) (l : List (Nat × Rec)) (s : Ab) (σ : Sig) (a : Act) (w : World) (Wp : Nat → Prop), l.length ≤ fuel → l.Sublist all → l.Pairwise (Ord ops ms) → listed.size = ops.size →
      (∀ i, i < ops.size → (listed.getD i true = false ↔ ∃ x, (i, x) ∈ l)) → Closed ops (fun k => listed.getD k false = true) →
      Run σr wr Er cr Wp cN s.E σ w → (∀ m, Wp m → ∃ p ∈ all, m ∈ p.2.out.W) → (∀ p ∈ all, p ∉ l → ∀ m ∈ p.2.out.W, Wp m) →
      (∀ p ∈ l, ∀ m, p.2.c ≤ m → m < p.2.out.c → σ m = none) → FrameIs σ G s.K n a → a.defers = d0 → Valid ops n s l f → wpAny P .any ops Q fuel listed a w := by
  intro fuel
  induction fuel with
  | zero =>
    intro listed l s σ a w Wp hlen hsub hpw hsz hun hcl hrun hw1 hw2 hfr hfrm hd hv
    have hl : l = [] := List.eq_nil_of_length_eq_zero (by omega)
    subst hl
    have hv : s = f := hv
    subst hv
    refine ⟨?_, hQ σ a w Wp hfrm hd hrun hw1 (fun p hp => hw2 p hp (by simp))⟩
    refine List.eq_nil_iff_forall_not_mem.2 fun i hi => ?_
    obtain ⟨h1, o, ho, _⟩ := mem_ready.1 hi
    have hlt : i < ops.size := (Array.getElem?_eq_some_iff.1 ho).1
    obtain ⟨x, hx⟩ := (hun i hlt).1 h1
    simp at hx
  | succ fuel ih =>
    intro listed l s σ a w Wp hlen hsub hpw hsz hun hcl hrun hw1 hw2 hfr hfrm hd hv
    refine ⟨fun hnil => ?_, fun i hi => ?_⟩
    · cases l with
      | nil =>
        have hv : s = f := hv
        subst hv
        exact hQ σ a w Wp hfrm hd hrun hw1 (fun p hp => hw2 p hp (by simp))
      | cons p l =>
        exfalso
        have hpa : p ∈ all := hsub.subset (by simp)
        obtain ⟨ho, _⟩ := hall p hpa
        have hlt : p.1 < ops.size := (Array.getElem?_eq_some_iff.1 ho).1
        have : p.1 ∈ Region.ready .any ops listed := mem_ready.2 ⟨(hun p.1 hlt).2 ⟨p.2, by simp⟩, _, ho, fun e he hb => by
          have h1 := hedge p hpa e (by simpa using he) hb
          have h2 : e.on < ops.size := by omega
          rw [getD_both (by omega) false true]
          cases hq : listed.getD e.on true with
          | true => rfl
          | false =>
            obtain ⟨x, hx⟩ := (hun e.on h2).1 hq
            rcases List.mem_cons.1 hx with hx | hx
            · rw [← hx] at h1; simp at h1
            · have := (List.pairwise_cons.1 hpw).1 _ hx
              have := this.1
              simp only at this
              omega⟩
        rw [hnil] at this
        cases this
    · obtain ⟨h1, o, ho, hafter⟩ := mem_ready.1 hi
      have hlt : i < ops.size := (Array.getElem?_eq_some_iff.1 ho).1
      obtain ⟨x, hx⟩ := (hun i hlt).1 h1
      obtain ⟨l1, l2, rfl⟩ := List.append_of_mem hx
      have hxa : (i, x) ∈ all := hsub.subset (by simp)
      obtain ⟨ho', hrec, hcr, hcN⟩ := hall _ hxa
      simp only at ho' hrec hcr hcN
      rw [ho] at ho'
      cases ho'
      have hpw1 := List.pairwise_append.1 hpw
      have hpw2 := List.pairwise_cons.1 hpw1.2.1
      have hind : ∀ y ∈ l1, Indep ops y.2 x ∧ Tidy y.2.H y.2.c y.2.out := fun y hy => by
        have hya : y ∈ all := hsub.subset (by simp [hy])
        obtain ⟨hyo, hyr, _⟩ := hall y hya
        refine ⟨?_, hyr.tidy hc⟩
        obtain ⟨o1, o2, o3⟩ := hpw1.2.2 y hy (i, x) (by simp)
        simp only at o1 o2 o3
        refine o3.resolve_left fun hbit => ?_
        have hylt : y.1 < ops.size := (Array.getElem?_eq_some_iff.1 hyo).1
        have hyun : listed.getD y.1 true = false := (hun y.1 hylt).2 ⟨y.2, by simp [hy]⟩
        have hm : ms[i]? = some (ms.getD i 0) := by simp [List.getD_eq_getElem?_getD, hmlen, hlt]
        have := hms _ hcl i _ x.o hm ho (fun e he hb => hafter e (by simpa using he) hb) y.1 hbit
        rw [getD_both (by omega) false true, hyun] at this
        cases this
      obtain ⟨hJ, hv'⟩ := Valid.front (x := (i, x)) l1 s hv hind
      simp only at hJ hv'
      have hnotin : ∀ y ∈ l1 ++ l2, y.1 ≠ i := fun y hy => by
        rcases List.mem_append.1 hy with hy | hy
        · have := (hpw1.2.2 y hy (i, x) (by simp)).1; simp only at this; omega
        · have := (hpw2.1 y hy).1; simp only at this; omega
      have hxtidy := hrec.tidy hc
      -- what holds behind the operation
      have rest : ∀ σ' a' w', Run σ w s.E x.c (· ∈ x.out.W) x.out.c (app n x s).E σ' w' → FrameIs σ' G (app n x s).K n a' → a'.defers = d0 → wpAny P .any ops Q fuel (listed.setIfInBounds i true) a' w' := fun σ' a' w' hr hfr' hd' => by
        refine ih (listed.setIfInBounds i true) (l1 ++ l2) (app n x s) σ' a' w' (fun m => Wp m ∨ m ∈ x.out.W) ?_ (List.Sublist.trans (List.Sublist.append (List.Sublist.refl l1) (List.sublist_cons_self (i, x) l2)) hsub) ?_ (by simpa using hsz) (fun k hk => ?_) (fun k o' hk hSk e he hb => ?_) (Run.seq_in hf hrun hr hcr hcN) (fun m hm => ?_) (fun p hp hpn m hm => ?_) (fun p hp m hm1 hm2 => ?_) hfr' hd' hv'
        · simp at hlen ⊢; omega
        · exact List.pairwise_append.2 ⟨hpw1.1, hpw2.2, fun y hy z hz => hpw1.2.2 y hy z (by simp [hz])⟩
        · by_cases hki : k = i
          · subst hki
            constructor
            · intro h2; simp [hsz, hlt] at h2
            · rintro ⟨z, hz⟩; exact absurd rfl (hnotin _ hz)
          · rw [getD_set_ne true (Ne.symm hki), hun k hk]
            constructor
            · rintro ⟨z, hz⟩
              refine ⟨z, ?_⟩
              simp only [List.mem_append, List.mem_cons, Prod.mk.injEq] at hz ⊢
              rcases hz with hz | hz | hz
              · exact .inl hz
              · exact absurd hz.1 hki
              · exact .inr hz
            · rintro ⟨z, hz⟩
              refine ⟨z, ?_⟩
              simp only [List.mem_append, List.mem_cons] at hz ⊢
              rcases hz with hz | hz
              · exact .inl hz
              · exact .inr (.inr hz)
        · by_cases hki : k = i
          · subst hki
            rw [ho] at hk
            cases hk
            exact getD_set_true (hafter e (by simpa using he) hb)
          · have hSk : listed.getD k false = true := by
              have h3 : (listed.setIfInBounds i true).getD k false = true := hSk
              rwa [getD_set_ne false (Ne.symm hki)] at h3
            exact getD_set_true (hcl k o' hk hSk e he hb)
        · rcases hm with hm | hm
          · exact hw1 m hm
          · exact ⟨_, hxa, hm⟩
        · by_cases hpx : p = (i, x)
          · subst hpx; exact .inr hm
          · refine .inl (hw2 p hp (fun h2 => hpn ?_) m hm)
            simp only [List.mem_append, List.mem_cons] at h2 ⊢
            rcases h2 with h2 | h2 | h2
            · exact .inl h2
            · exact absurd h2 hpx
            · exact .inr h2
        · have hpl : p ∈ l1 ++ (i, x) :: l2 := by
            simp only [List.mem_append, List.mem_cons] at hp ⊢
            rcases hp with hp | hp
            · exact .inl hp
            · exact .inr (.inr hp)
          rw [hr.same m (fun hn => ?_)]
          · exact hfr p hpl m hm1 hm2
          · rcases List.mem_append.1 hp with hp | hp
            · have h2 := (hpw1.2.2 p hp (i, x) (by simp)).2.1
              have := hn.1; simp only at h2; omega
            · have h2 := (hpw2.1 p hp).2.1
              have := hn.2; simp only at h2; omega
      unfold wpOp
      simp only [ho]
      have hguard : ∀ g want t, x.o.guard = some (g, want) → (ops[g]?).bind (·.dst) = some t → s.K t = x.ts.get t := fun g want t hg ht => hJ.tmp t (by simp [Oper.looksAt, hg, ht])
      rcases hrec with ⟨hon, hwant, heval⟩ | ⟨hoff, hwant, hout⟩
      · rw [if_pos (wantedA_ok hwant hfrm hguard)]
        let ev' : Operand → Option Value := fun y => if y ∈ x.o.op.operands then evOf G x.ts y else none
        have heval' : evalOp P call ev' x.H x.c x.o = some x.out := by
          rw [← heval]
          exact evalOp_congr fun y hy => if_pos hy
        have hknows : Knows σ ev' a.eval := by
          intro y v hy
          by_cases hin : y ∈ x.o.op.operands
          · have hy2 : evOf G x.ts y = some v := by rw [← hy]; exact (if_pos hin).symm
            cases y with
            | tmp t =>
              have hk := hJ.tmp t (by
                unfold Oper.looksAt
                exact List.mem_append_left _ (List.mem_filterMap.2 ⟨.tmp t, by simpa using hin, rfl⟩))
              obtain ⟨v', g1, g2⟩ := hfrm.tmp t v (hk.trans hy2)
              rw [g1]; simp [Act.eval, g2]
            | const u =>
              simp only [evOf] at hy2
              cases hb : plainV u with
              | false => rw [hb] at hy2; cases hy2
              | true => rw [hb, cond_true] at hy2; cases hy2; exact plain_conc σ _ hb
            | global g =>
              simp only [evOf] at hy2
              cases hb : Nat.blt g G with
              | false => rw [hb] at hy2; cases hy2
              | true =>
                rw [hb, cond_true] at hy2
                cases hy2
                obtain ⟨cap, hg⟩ := hfrm.glob g (blt_lt hb)
                simp only [conc, hg]
                rfl
            | func f => simp only [evOf] at hy2; cases hy2; simp [conc, concA, concL]; rfl
          · rw [show ev' y = none from if_neg hin] at hy; cases hy
        refine .inl (evalOp_ok hP hc heval' σ w s.E a hrun.sat (fun m hm => hfr (i, x) (by simp) m hm.1 hm.2) hJ.read hknows hfrm.glob _ _ fun σ' w' v' hv2 hr => ?_)
        have hx2 := hr.ext (fun m hm => hfr (i, x) (by simp) m hm.1 hm.2)
        refine rest σ' _ w' hr ?_ ?_
        · exact hfrm.putK hx2 hv2 x.o.dst
        · rw [← hd]; cases x.o.dst <;> rfl
      · have hwf := wantedA_ok hwant hfrm hguard
        rw [hwf]
        simp only [Bool.false_eq_true, if_false]
        have hE : (app n x s).E = s.E := by
          funext m
          refine mix_out fun e => ?_
          rw [hout] at e
          simp only [List.not_mem_nil, false_or] at e
          omega
        refine rest σ _ w ?_ ?_ ?_
        · rw [hE, hout]
          exact (Run.stay hrun.sat).congr (fun _ h => h.elim) (fun _ => rfl) (fun m hm => by simp at hm) (fun _ _ _ => trivial)
        · have := hfrm.putK (n := n) (Ext.refl σ) (conc_undef σ) x.o.dst
          show FrameIs σ G (updT n x.o.dst x.out.v s.K) n _
          rw [hout]; exact this
        · rw [← hd]; cases x.o.dst <;> rfl
end
end
end Go.Proofs.YtpcejpcbkjnlkaaGreatDoor.AE

namespace Go.Proofs.YtpcejpcbkjnlkaaGreatDoor.AE
noncomputable section
open Go.RowKit

def disj (l m : List Nat) : Bool := l.all fun a => m.all fun b => !(Nat.beq a b)
theorem disj_ok {l m : List Nat} (h : disj l m = true) {a : Nat} (ha : a ∈ l) : a ∉ m := fun hb => by
  have h1 := List.all_eq_true.1 h a ha
  have h2 := List.all_eq_true.1 h1 a hb
  simp at h2
def outside (lo hi : Nat) (l : List Nat) : Bool := l.all fun m => Nat.blt m lo || Nat.ble hi m
theorem outside_ok {lo hi : Nat} {l : List Nat} (h : outside lo hi l = true) {m : Nat} (hm : m ∈ l) : ¬ (lo ≤ m ∧ m < hi) := fun ⟨h1, h2⟩ => by
  have h3 := List.all_eq_true.1 h m hm
  simp only [Bool.or_eq_true] at h3
  rcases h3 with h3 | h3
  · have := blt_lt h3; omega
  · have := Nat.le_of_ble_eq_true h3; omega
def indepB (x y : Rec) : Bool := disj x.out.W y.out.R && disj x.out.W y.out.W && disj y.out.W x.out.R && outside x.c x.out.c y.out.R && outside x.c x.out.c y.out.W
def quietR (x : Rec) : Bool := x.out.W.isEmpty && x.out.R.isEmpty && Nat.beq x.c x.out.c
def number {α : Type} : Nat → List α → List (Nat × α)
  | _, [] => []
  | i, x :: l => (i, x) :: number (i + 1) l
def pairs {α : Type} (r : α → α → Bool) : List α → Bool
  | [] => true
  | x :: l => l.all (r x) && pairs r l
theorem pairs_ok {α : Type} {r : α → α → Bool} : ∀ {l : List α}, pairs r l = true → l.Pairwise fun x y => r x y = true
  | [], _ => .nil
  | x :: l, h => by
    simp only [pairs, Bool.and_eq_true] at h
    exact .cons (fun y hy => List.all_eq_true.1 h.1 y hy) (pairs_ok h.2)
theorem number_mem {α : Type} : ∀ {l : List α} {i : Nat} {p : Nat × α}, p ∈ number i l → i ≤ p.1 ∧ l[p.1 - i]? = some p.2
  | [], _, _, h => by simp [number] at h
  | x :: l, i, p, h => by
    simp only [number, List.mem_cons] at h
    rcases h with h | h
    · subst h; simp
    · obtain ⟨h1, h2⟩ := number_mem h
      refine ⟨by omega, ?_⟩
      have : p.1 - i = (p.1 - (i + 1)) + 1 := by omega
      rw [this]; simpa using h2
theorem mem_number {α : Type} : ∀ {l : List α} {i j : Nat} {x : α}, l[j]? = some x → (i + j, x) ∈ number i l
  | [], _, _, _, h => by simp at h
  | y :: l, i, j, x, h => by
    cases j with
    | zero => simp at h; subst h; simp [number]
    | succ j =>
      simp at h
      have := mem_number (i := i + 1) h
      simp only [number, List.mem_cons]
      right
      rw [show i + (j + 1) = i + 1 + j by omega]
      exact this
theorem number_lt {α : Type} : ∀ (l : List α) (i : Nat), (number i l).Pairwise fun x y => x.1 < y.1
  | [], _ => .nil
  | x :: l, i => .cons (fun y hy => by have := (number_mem hy).1; simp only; omega) (number_lt l (i + 1))
theorem number_map {α β : Type} (f : α → β) : ∀ (l : List α) (i : Nat), (number i l).map (fun p => (p.1, f p.2)) = number i (l.map f)
  | [], _ => rfl
  | x :: l, i => by simp [number, number_map f l]
def edgesOk : Nat → List Oper → Bool
  | _, [] => true
  | i, o :: l => o.after.toList.all (fun e => !Region.binds .any e || Nat.blt e.on i) && edgesOk (i + 1) l
theorem edgesOk_ok : ∀ {l : List Oper} {i j : Nat} {o : Oper}, edgesOk i l = true → l[j]? = some o → ∀ e ∈ o.after.toList, Region.binds .any e = true → e.on < i + j
  | [], _, _, _, _, h => by simp at h
  | x :: l, i, j, o, h, hj => by
    simp only [edgesOk, Bool.and_eq_true] at h
    cases j with
    | zero =>
      simp at hj; subst hj
      intro e he hb
      have := List.all_eq_true.1 h.1 e he
      rw [hb] at this
      simpa using this
    | succ j =>
      simp at hj
      intro e he hb
      have := edgesOk_ok h.2 hj e he hb
      omega
def staticOk (ops : Array Oper) : Bool :=
  edgesOk 0 ops.toList && pairs (fun x y => Nat.testBit ((masks [] ops.toList).getD y.1 0) x.1 || x.2.apart ops y.2) (number 0 ops.toList)
section
variable {P : Program} {call : CallFn} {G n : Nat} {B : Start}
def rcat : List Rec → List Nat
  | [] => []
  | x :: l => x.out.R ++ rcat l
def wcat : List Rec → List Nat
  | [] => []
  | x :: l => x.out.W ++ wcat l
theorem mem_rcat {m : Nat} : ∀ {l : List Rec}, m ∈ rcat l ↔ ∃ x ∈ l, m ∈ x.out.R
  | [] => by simp [rcat]
  | x :: l => by simp [rcat, mem_rcat (l := l)]
theorem mem_wcat {m : Nat} : ∀ {l : List Rec}, m ∈ wcat l ↔ ∃ x ∈ l, m ∈ x.out.W
  | [] => by simp [wcat]
  | x :: l => by simp [wcat, mem_wcat (l := l)]
def runDraw (P : Program) (call : CallFn) (G n c0 : Nat) (ops : Array Oper) (st : St) : Option St :=
  bif staticOk ops then
    (match recs P call G n ops ops.toList st.ts st.H st.c with
    | some rs =>
      bif pairs (fun x y => Nat.testBit ((masks [] ops.toList).getD y.1 0) x.1 || indepB x.2 y.2) ((number 0 rs).filter fun x => !quietR x.2) then
        (match lastSt n rs st.ts st.H st.c with
        | (ts, H, c) => some ⟨ts, H, c, low c0 (rcat rs) ++ st.rl, low c0 (low st.c (wcat rs)) ++ st.wl⟩)
      else none
    | none => none)
  else none
theorem Chain.le (hc : CallsOk P G call) {ops : Array Oper} {rs : List Rec} {ts : T Value} {H : T AObj} {c : Nat} (h : Chain P call G n ops rs ts H c) : c ≤ (lastSt n rs ts H c).2.2 ∧ ∀ x ∈ rs, RecOk P call G ops x ∧ c ≤ x.c ∧ x.out.c ≤ (lastSt n rs ts H c).2.2 := by
  induction h with
  | nil => exact ⟨Nat.le_refl _, by simp⟩
  | cons hx hl ih =>
    have hle := (hx.tidy hc).le
    refine ⟨Nat.le_trans hle ih.1, fun y hy => ?_⟩
    rcases List.mem_cons.1 hy with hy | hy
    · subst hy; exact ⟨hx, Nat.le_refl _, ih.1⟩
    · obtain ⟨a, b, c⟩ := ih.2 y hy
      exact ⟨a, Nat.le_trans hle b, c⟩
theorem Chain.pairwise (hc : CallsOk P G call) {ops : Array Oper} {rs : List Rec} {ts : T Value} {H : T AObj} {c : Nat} (h : Chain P call G n ops rs ts H c) : ∀ i, (number i rs).Pairwise fun x y => x.2.out.c ≤ y.2.c := by
  induction h with
  | nil => intro i; exact .nil
  | cons hx hl ih =>
    intro i
    refine .cons (fun y hy => ?_) (ih (i + 1))
    obtain ⟨_, h2⟩ := number_mem hy
    exact ((hl.le hc).2 y.2 (List.mem_of_getElem? h2)).2.1
theorem chain_valid (hc : CallsOk P G call) {ops : Array Oper} {Er Hr : Heap} {cr : Nat} {rs : List Rec} {ts : T Value} {H : T AObj} {c : Nat} (h : Chain P call G n ops rs ts H c) : ∀ (i : Nat) (s : Ab) (Wd : List Nat), cr ≤ c → s.K = ts.get →
    (∀ m, (m ∈ Wd ∨ (cr ≤ m ∧ m < c)) → s.E m = H.get m) → (∀ m, m ∉ Wd → ¬ (cr ≤ m ∧ m < c) → s.E m = Er m ∧ H.get m = Hr m) → (∀ m ∈ rcat rs, m < cr → Er m = Hr m) →
    ∃ EN, Valid ops n s (number i rs) ⟨(lastSt n rs ts H c).1.get, EN⟩ ∧
      (∀ m, (m ∈ Wd ∨ m ∈ wcat rs ∨ (cr ≤ m ∧ m < (lastSt n rs ts H c).2.2)) → EN m = (lastSt n rs ts H c).2.1.get m) ∧
      (∀ m, m ∉ Wd → m ∉ wcat rs → ¬ (cr ≤ m ∧ m < (lastSt n rs ts H c).2.2) → EN m = Er m ∧ (lastSt n rs ts H c).2.1.get m = Hr m) := by
  induction h with
  | nil =>
    intro i s Wd hcr hK hA hO hR
    refine ⟨s.E, ?_, fun m hm => hA m ?_, fun m h1 _ h3 => hO m h1 h3⟩
    · cases s
      exact congrArg (fun K => Ab.mk K _) hK
    · rcases hm with hm | hm | hm
      · exact .inl hm
      · simp [wcat] at hm
      · exact .inr hm
  | @cons x l hx hl ih =>
    intro i s Wd hcr hK hA hO hR
    have ht := hx.tidy hc
    have hle := ht.le
    have hJ : J ops x s := ⟨fun t _ => by rw [hK], fun m hm => by
      have hmc := ht.rlow m hm
      by_cases hw : m ∈ Wd ∨ (cr ≤ m ∧ m < x.c)
      · exact hA m hw
      · have h1 : m ∉ Wd := fun e => hw (.inl e)
        obtain ⟨h3, h4⟩ := hO m h1 (fun e => hw (.inr e))
        have hlt : m < cr := by rcases Nat.lt_or_ge m cr with h5 | h5; exact h5; exact absurd (.inr ⟨h5, hmc⟩) hw
        rw [h3, h4]
        exact hR m (by simp [rcat, hm]) hlt⟩
    have hA' : ∀ m, (m ∈ x.out.W ++ Wd ∨ (cr ≤ m ∧ m < x.out.c)) → (app n x s).E m = x.out.H.get m := fun m hm => by
      by_cases hin : m ∈ x.out.W ∨ (x.c ≤ m ∧ m < x.out.c)
      · exact mix_in hin
      · show mix x.out.W x.c x.out.c x.out.H.get s.E m = _
        rw [mix_out hin, hA m (by
          rcases hm with hm | hm
          · rcases List.mem_append.1 hm with hm | hm
            · exact absurd (.inl hm) hin
            · exact .inl hm
          · refine .inr ⟨hm.1, ?_⟩
            rcases Nat.lt_or_ge m x.c with h5 | h5
            · exact h5
            · exact absurd (.inr ⟨h5, hm.2⟩) hin)]
        exact (ht.keep m (fun e => hin (.inl e)) (fun e => hin (.inr e))).symm
    have hO' : ∀ m, m ∉ x.out.W ++ Wd → ¬ (cr ≤ m ∧ m < x.out.c) → (app n x s).E m = Er m ∧ x.out.H.get m = Hr m := fun m h1 h2 => by
      simp only [List.mem_append, not_or] at h1
      have hin : ¬ (m ∈ x.out.W ∨ (x.c ≤ m ∧ m < x.out.c)) := fun e => by
        rcases e with e | e
        · exact h1.1 e
        · exact h2 ⟨by omega, e.2⟩
      obtain ⟨h3, h4⟩ := hO m h1.2 (fun e => h2 ⟨e.1, by omega⟩)
      refine ⟨(mix_out hin).trans h3, ?_⟩
      rw [ht.keep m (fun e => hin (.inl e)) (fun e => hin (.inr e)), h4]
    obtain ⟨EN, v1, v2, v3⟩ := ih (i + 1) (app n x s) (x.out.W ++ Wd) (Nat.le_trans hcr hle) (by simp only [app]; rw [hK, ← putT_get]) hA' hO' (fun m hm => hR m (by simp [rcat, hm]))
    refine ⟨EN, ⟨hJ, v1⟩, fun m hm => v2 m ?_, fun m h1 h2 h3 => v3 m ?_ ?_ h3⟩
    · rcases hm with hm | hm | hm
      · exact .inl (List.mem_append_right _ hm)
      · simp only [wcat, List.mem_append] at hm
        rcases hm with hm | hm
        · exact .inl (List.mem_append_left _ hm)
        · exact .inr (.inl hm)
      · exact .inr (.inr hm)
    · simp only [wcat, List.mem_append, not_or] at h2 ⊢
      exact ⟨h2.1, h1⟩
    · simp only [wcat, List.mem_append, not_or] at h2
      exact h2.2
theorem Run.drew {σ σ' : Sig} {w w' : World} {H H' : Heap} {c c' : Nat} {W : Nat → Prop} (h : Run σ w H c W c' H' σ' w') : Run σ w H c W c' H' σ' w'.drew :=
  ⟨h.le, h.sat.drew, h.same, ⟨h.fr.os, h.fr.tape, h.fr.output, h.fr.size, h.fr.block⟩, h.keep, h.dom, h.new⟩
theorem Inv.drew {st : St} {σ : Sig} {E : Heap} {a : Act} {w : World} (h : Inv B G n (AllIdle P) st σ E a w) : Inv B G n (AllIdle P) st σ E a w.drew := ⟨h.run.drew, h.agree, h.old, h.wlow, h.frame, h.defers⟩
theorem runDraw_ok (hP : NamesOk P) (hm : P.follows .mixedOrders = true) (hc : CallsOk P G call) {ops : Array Oper} {id : Nat} {Q : Exit → Act → World → Prop} {st st' : St} (h : runDraw P call G n B.c ops st = some st')
    {σ : Sig} {E : Heap} {a : Act} {w : World} (hi : Inv B G n (AllIdle P) st σ E a w) (hf : Fresh B.σ B.c st'.c) (hread : ∀ m ∈ st'.rl, B.E m = B.H.get m) (hQ : ∀ σ' E' a' w', Inv B G n (AllIdle P) st' σ' E' a' w' → Q .normal a' w') :
    (Code.region id ops true).wp P Q a w := by
  unfold runDraw at h
  cases hst : staticOk ops with
  | false => rw [hst] at h; cases h
  | true =>
    rw [hst, cond_true] at h
    split at h
    case h_2 => cases h
    rename_i rs hrs
    cases hpr : pairs (fun x y => Nat.testBit ((masks [] ops.toList).getD y.1 0) x.1 || indepB x.2 y.2) ((number 0 rs).filter fun x => !quietR x.2) with
    | false => rw [hpr] at h; cases h
    | true =>
      rw [hpr, cond_true] at h
      obtain ⟨hch, hos⟩ := recs_chain _ _ _ _ _ hrs
      obtain ⟨hcle, hchain⟩ := hch.le hc
      have hlast : lastSt n rs st.ts st.H st.c = ((lastSt n rs st.ts st.H st.c).1, (lastSt n rs st.ts st.H st.c).2.1, (lastSt n rs st.ts st.H st.c).2.2) := rfl
      rw [hlast] at h
      simp only at h
      cases h
      simp only [staticOk, Bool.and_eq_true] at hst
      have hedges := hst.1
      have hapart := pairs_ok hst.2
      have hdyn := List.pairwise_filter.1 (pairs_ok hpr)
      have hlen : rs.length = ops.size := by
        have := congrArg List.length hos
        simpa using this
      -- reads
      have hlook : ∀ m ∈ rcat rs, m < st.c → E m = st.H.get m := fun m hm hlt => hi.look hlt fun h1 h2 => hread m (List.mem_append_left _ (mem_low.2 ⟨hm, h1⟩))
      obtain ⟨EN, v1, v2, v3⟩ := chain_valid hc hch 0 ⟨st.ts.get, E⟩ [] (Nat.le_refl _) rfl (fun m hm => by simp at hm; omega) (fun m _ _ => ⟨rfl, rfl⟩) hlook
      have hEN : EN = mix (low st.c (wcat rs)) st.c (lastSt n rs st.ts st.H st.c).2.2 (lastSt n rs st.ts st.H st.c).2.1.get E := by
        funext m
        by_cases hin : m ∈ low st.c (wcat rs) ∨ (st.c ≤ m ∧ m < (lastSt n rs st.ts st.H st.c).2.2)
        · rw [mix_in hin]
          refine v2 m (.inr ?_)
          rcases hin with hin | hin
          · exact .inl (mem_low.1 hin).1
          · exact .inr hin
        · rw [mix_out hin]
          refine (v3 m (by simp) (fun e => ?_) (fun e => hin (.inr e))).1
          rcases Nat.lt_or_ge m st.c with h1 | h1
          · exact hin (.inl (mem_low.2 ⟨e, h1⟩))
          · obtain ⟨x, hx, hm⟩ := mem_wcat.1 e
            obtain ⟨r1, r2, r3⟩ := hchain x hx
            have h4 := (r1.tidy hc).low m hm
            have h5 := (r1.tidy hc).le
            exact hin (.inr ⟨h1, by omega⟩)
      have htidy : Tidy st.H st.c ⟨undef, (lastSt n rs st.ts st.H st.c).2.1, (lastSt n rs st.ts st.H st.c).2.2, [], low st.c (wcat rs)⟩ := by
        refine ⟨hcle, fun m hm => (mem_low.1 hm).2, by simp, fun m h1 h2 => ?_⟩
        refine (v3 m (by simp) (fun e => ?_) h2).2
        rcases Nat.lt_or_ge m st.c with h3 | h3
        · exact h1 (mem_low.2 ⟨e, h3⟩)
        · obtain ⟨x, hx, hm⟩ := mem_wcat.1 e
          obtain ⟨r1, r2, r3⟩ := hchain x hx
          have h4 := (r1.tidy hc).low m hm
          have h5 := (r1.tidy hc).le
          exact h2 ⟨h3, by simp only; omega⟩
      have hfr : Fresh σ st.c (lastSt n rs st.ts st.H st.c).2.2 := hi.fresh hf
      have hget : ∀ p ∈ number 0 rs, ops[p.1]? = some p.2.o := fun p hp => by
        obtain ⟨_, h2⟩ := number_mem hp
        have h3 : (rs.map (·.o))[p.1]? = some p.2.o := by rw [List.getElem?_map]; simp at h2; rw [h2]; rfl
        rw [hos] at h3
        simpa using h3
      have hstart : Run σ w.drew E st.c (fun _ => False) (lastSt n rs st.ts st.H st.c).2.2 E σ w.drew :=
        ⟨hcle, hi.drew.run.sat, fun _ _ => rfl, Fr.refl _ _ _, fun _ _ _ => rfl, fun _ h => h.elim, fun m p hm hp => by rw [hfr m hm] at hp; cases hp⟩
      refine wp_region_any hm (draw_any (all := number 0 rs) (ms := masks [] ops.toList) (f := ⟨(lastSt n rs st.ts st.H st.c).1.get, EN⟩) (σr := σ) (wr := w.drew) (Er := E) (cr := st.c) (cN := (lastSt n rs st.ts st.H st.c).2.2) (d0 := a.defers) hP hc
        (fun S hS => masks_ok hS ops.toList [] (fun k m o hk => by simp at hk) (fun j o hj => by simpa using hj)) ?_ (fun p hp => ⟨hget p hp, ?_⟩) (fun p hp e he hb => ?_) hfr (fun σ' a' w' Wp h1 h2 h3 h4 h5 => ?_)
        ops.size (Array.replicate ops.size false) (number 0 rs) ⟨st.ts.get, E⟩ σ a w.drew (fun _ => False) ?_ (List.Sublist.refl _) ?_ (by simp) (fun i hlt => ?_) (fun k o hk hSk => ?_) hstart (fun _ h => h.elim) (fun p hp hn => absurd hp hn) (fun p hp m h1 h2 => ?_) hi.frame rfl v1)
      · have : ∀ (l : List Oper) (acc : List Nat), (masks acc l).length = acc.length + l.length := by
          intro l
          induction l with
          | nil => intro acc; simp [masks]
          | cons o l ih => intro acc; simp only [masks, ih]; simp; omega
        rw [this]; simp
      · obtain ⟨_, h2⟩ := number_mem hp
        exact hchain p.2 (List.mem_of_getElem? h2)
      · obtain ⟨_, h2⟩ := number_mem hp
        have h3 := hget p hp
        have := edgesOk_ok hedges (j := p.1) (o := p.2.o) (by simpa using h3) e he hb
        simpa using this
      · refine hQ σ' _ a' w' (hi.drew.step (v := undef) (R := []) htidy hf ?_ h1 h2 _)
        simp only at h3
        rw [← hEN]
        refine Run.drop h3 hfr (fun m hm => ?_) (fun m hm => ?_)
        · obtain ⟨p, hp, hmp⟩ := h4 m hm
          obtain ⟨_, h6⟩ := number_mem hp
          have hmem := List.mem_of_getElem? h6
          rcases Nat.lt_or_ge m st.c with h7 | h7
          · exact .inl (mem_low.2 ⟨mem_wcat.2 ⟨p.2, hmem, hmp⟩, h7⟩)
          · obtain ⟨r1, r2, r3⟩ := hchain p.2 hmem
            have h8 := (r1.tidy hc).low m hmp
            have h9 := (r1.tidy hc).le
            exact .inr ⟨h7, by omega⟩
        · obtain ⟨x, hx, hmx⟩ := mem_wcat.1 (mem_low.1 hm).1
          obtain ⟨j, hj⟩ := List.mem_iff_getElem?.1 hx
          exact h5 (0 + j, x) (mem_number hj) m hmx
      · have : ∀ (l : List Rec) (i : Nat), (number i l).length = l.length := by
          intro l
          induction l with
          | nil => intro i; rfl
          | cons o l ih => intro i; simp [number, ih]
        rw [this]; omega
      · have hA := number_lt rs 0
        have hB := hch.pairwise hc 0
        have hC : (number 0 rs).Pairwise fun x y => (Nat.testBit ((masks [] ops.toList).getD y.1 0) x.1 || x.2.o.apart ops y.2.o) = true := by
          have h1 := number_map (fun x : Rec => x.o) rs 0
          rw [hos] at h1
          rw [← h1] at hapart
          exact List.pairwise_map.1 hapart
        refine ((hA.and hB).and (hC.and hdyn)).imp fun {x y} hxy => ?_
        obtain ⟨⟨q1, q2⟩, q3, q4⟩ := hxy
        refine ⟨q1, q2, ?_⟩
        cases hbit : Nat.testBit ((masks [] ops.toList).getD y.1 0) x.1 with
        | true => exact .inl rfl
        | false =>
          right
          rw [hbit, Bool.false_or] at q3
          have triv : ∀ z : Rec, quietR z = true → z.out.W = [] ∧ z.out.R = [] ∧ z.c = z.out.c := fun z hz => by
            simp only [quietR, Bool.and_eq_true, List.isEmpty_iff] at hz
            exact ⟨hz.1.1, hz.1.2, Nat.eq_of_beq_eq_true hz.2⟩
          by_cases hx : quietR x.2 = true
          · obtain ⟨t1, t2, t3⟩ := triv _ hx
            exact ⟨q3, by rw [t1]; simp, by rw [t1]; simp, fun m _ => by rw [t2]; simp, fun m _ => by omega, fun m _ => by omega, q2⟩
          · by_cases hy : quietR y.2 = true
            · obtain ⟨t1, t2, t3⟩ := triv _ hy
              exact ⟨q3, fun m _ => by rw [t2]; simp, fun m _ => by rw [t1]; simp, by rw [t1]; simp, by rw [t2]; simp, by rw [t1]; simp, q2⟩
            · have := q4 (by simpa using hx) (by simpa using hy)
              rw [hbit, Bool.false_or] at this
              simp only [indepB, Bool.and_eq_true] at this
              obtain ⟨⟨⟨⟨z1, z2⟩, z3⟩, z4⟩, z5⟩ := this
              exact ⟨q3, fun m hm => disj_ok z1 hm, fun m hm => disj_ok z2 hm, fun m hm => disj_ok z3 hm, fun m hm => outside_ok z4 hm, fun m hm => outside_ok z5 hm, q2⟩
      · constructor
        · intro _
          have hlt' : i < rs.length := by omega
          exact ⟨rs[i], by have := mem_number (i := 0) (List.getElem?_eq_getElem hlt'); simpa using this⟩
        · intro _; simp [hlt]
      · exfalso
        have hlt : k < ops.size := (Array.getElem?_eq_some_iff.1 hk).1
        simp [hlt] at hSk
      · obtain ⟨_, h3⟩ := number_mem hp
        obtain ⟨r1, r2, r3⟩ := hchain p.2 (List.mem_of_getElem? h3)
        exact hfr m ⟨by omega, by omega⟩
end
end
end Go.Proofs.YtpcejpcbkjnlkaaGreatDoor.AE

/- Submit. Submit, walked. Cancel, Answer, Sync, Synced, Log. What a tick keeps of the requests, in plain words. Numbers of a model as bytes. The bytes of a model. -/
import Derived.Test.YtedkfehdfmimoaaGreatKc24
import Derived.Deep.RegionHeld3
import Derived.Deep.DeepCutAuto
import Derived.Test.YtedkfehdfmimoaaGreatKc23
import Derived.Deep.LoopGhost
import Derived.Test.YtedkfehdfmimoaaGreatKc5
import Derived.StillTailTactics
namespace Go.Proofs.YtedkfehdfmimoaaGreat
open Go.RowKit

abbrev askReq (r : Ask) : Req := newReq r
def newOwn (w w' : World) (own : Nat → Slot) (g : Nat) (vt : Value) (i : Nat) (b : Nat) : Slot :=
  if b = g then .req i else if vt.ownBlock = some b then .tokens i else if w.heap.size ≤ b ∧ b < w'.heap.size then .prompt else own b
def newPtrs (P : Ptrs) (g : Nat) (vp vt : Value) (i : Nat) : Ptrs :=
  { P with rb := fun j => if j = i then g else P.rb j, vtok := setAt P.vtok i vt, vhold := setAt P.vhold i (.slice none 0 0), vprompt := setAt P.vprompt i vp }
theorem newPtrs_far (P : Ptrs) (g : Nat) (vp vt : Value) (i j : Nat) (h : j ≠ i) : (newPtrs P g vp vt i).rb j = P.rb j ∧ (newPtrs P g vp vt i).vtok j = P.vtok j ∧ (newPtrs P g vp vt i).vhold j = P.vhold j ∧ (newPtrs P g vp vt i).vprompt j = P.vprompt j :=
  ⟨if_neg h, if_neg h, if_neg h, if_neg h⟩
theorem idMap_new (P : Ptrs) (s : Srv) (r : Req) (g : Nat) (vp vt : Value) : idMap (newPtrs P g vp vt s.reqs.length) { s with reqs := s.reqs ++ [r] } = idMap P s ++ [(r.id, g)] := by
  unfold idMap
  simp only [List.zipIdx_append, List.map_append, List.zipIdx_singleton, List.map_cons, List.map_nil, Nat.zero_add]
  congr 1
  · apply List.map_congr_left
    rintro ⟨q, j⟩ hm
    have hj : j < s.reqs.length := by
      rw [List.mem_zipIdx_iff_getElem?] at hm
      exact (List.getElem?_eq_some_iff.1 hm).1
    show (q.id, (newPtrs P g vp vt s.reqs.length).rb j) = (q.id, P.rb j)
    rw [(newPtrs_far P g vp vt _ j (by omega)).1]
  · show [(r.id, (newPtrs P g vp vt s.reqs.length).rb s.reqs.length)] = _
    rw [show (newPtrs P g vp vt s.reqs.length).rb s.reqs.length = g from if_pos rfl]
theorem Rep.addReq {w w' : World} {own : Nat → Slot} {P : Ptrs} {s : Srv} (h : Rep w own P s) (r : Ask) (g : Nat) (vp vt : Value) (k : Keeps (fun b => own b = .map) w w') (hm : MapIs w' P.ma (idMap P s ++ [(r.id, g)]))
    (hb : Blk w' g 75 #[.int .i64 r.id, .int .i64 r.deadline, vp, .int .i64 r.most, .int .i64 r.seed, vt, .int .i64 0, .slice none 0 0, .int .i64 0, .bool false, .int .i64 0, .int .i64 0, .bool false, .bool false]) (hg : w.heap.size ≤ g)
    (Tp Tt : Nat → Prop) (hp : Slc w' Tp vp r.prompt) (hTp : ∀ b, Tp b → w.heap.size ≤ b ∧ b ≠ g ∧ vt.ownBlock ≠ some b) (ht : Own w' Tt 3 1 vt r.prompt.length (ints r.prompt)) (hTt : ∀ b, Tt b → w.heap.size ≤ b ∧ b ≠ g) :
    Rep w' (newOwn w w' own g vt s.reqs.length) (newPtrs P g vp vt s.reqs.length) { s with reqs := s.reqs ++ [askReq r] } ∧ Step w own P w' (newOwn w w' own g vt s.reqs.length) (newPtrs P g vp vt s.reqs.length) s.reqs.length := by
  have ho : ∀ b, b < w.heap.size → newOwn w w' own g vt s.reqs.length b = own b := by
    intro b hlt
    unfold newOwn
    rw [if_neg (by omega), if_neg (fun e => by have := (hTt b (ht.2 b e)).1; omega), if_neg (by omega)]
  have hn : ∀ {sl : Slot}, sl ≠ .map → ∀ b, own b = sl → ¬ own b = .map := fun hsl b e e' => hsl (e.symm.trans e')
  have hgl := hb.lt
  refine ⟨⟨k.blk h.server (hn (by intro h; cases h) _ h.oserver), (ho _ h.server.lt).trans h.oserver, ?_, (ho _ h.map.lt).trans h.omap, fun j hj => ?_,
    k.blk h.pages (hn (by intro h; cases h) _ h.opages), (ho _ h.pages.lt).trans h.opages,
    fun j hj => (h.page j hj).step k ho (hn (by intro h; cases h)), h.log.step k ho (hn (by intro h; cases h)), h.model.step k ho (hn (by intro h; cases h)), ?_⟩, ⟨k.mono (fun b _ e => (by rw [e]; intro h; cases h)), ho, rfl, fun j hj => if_neg (by omega), rfl, rfl⟩⟩
  · have := idMap_new P s (askReq r) g vp vt
    show MapIs w' P.ma (idMap (newPtrs P g vp vt s.reqs.length) { s with reqs := s.reqs ++ [askReq r] })
    rw [this]
    exact hm
  · have hq : (s.reqs ++ [askReq r])[j]? = some (s.reqs ++ [askReq r])[j] := List.getElem?_eq_getElem hj
    show ReqRep _ _ _ j (s.reqs ++ [askReq r])[j]
    generalize (s.reqs ++ [askReq r])[j] = q at hq ⊢
    by_cases e : j < s.reqs.length
    · rw [List.getElem?_append_left e, List.getElem?_eq_getElem e] at hq
      injection hq with hq
      subst hq
      obtain ⟨e1, e2, e3, e4⟩ := newPtrs_far P g vp vt s.reqs.length j (by omega)
      exact ((h.req j e).step k ho fun b e' => by rcases e' with e' | e' | e' | e' <;> exact hn (by intro h; cases h) b e').move e1 e2 e3 e4
    · have hjl : j = s.reqs.length := by simp at hj; omega
      subst hjl
      rw [List.getElem?_append_right (Nat.le_refl _), Nat.sub_self] at hq
      simp only [List.getElem?_cons_zero, Option.some.injEq] at hq
      subst hq
      have e1 : (newPtrs P g vp vt s.reqs.length).rb s.reqs.length = g := if_pos rfl
      have e2 : (newPtrs P g vp vt s.reqs.length).vtok s.reqs.length = vt := if_pos rfl
      have e3 : (newPtrs P g vp vt s.reqs.length).vhold s.reqs.length = .slice none 0 0 := if_pos rfl
      have e4 : (newPtrs P g vp vt s.reqs.length).vprompt s.reqs.length = vp := if_pos rfl
      refine ⟨?_, ?_, ?_, ?_, ?_⟩
      · rw [e1]
        have : reqCells (newPtrs P g vp vt s.reqs.length) s.reqs.length (askReq r) = #[.int .i64 r.id, .int .i64 r.deadline, vp, .int .i64 r.most, .int .i64 r.seed, vt, .int .i64 0, .slice none 0 0, .int .i64 0, .bool false, .int .i64 0, .int .i64 0, .bool false, .bool false] := by
          unfold reqCells
          rw [e2, e3, e4]
          rfl
        rw [this]; exact hb
      · rw [e1]; exact if_pos rfl
      · rw [e4]
        refine hp.more fun b hb' hT => ?_
        obtain ⟨a1, a2, a3⟩ := hTp b hT
        unfold newOwn
        rw [if_neg a2, if_neg a3, if_pos ⟨a1, hb'⟩]
      · rw [e2]
        refine ⟨ht.1, fun b hb' => ?_⟩
        have := (hTt b (ht.2 b hb')).2
        show newOwn _ _ _ _ _ _ b = _
        unfold newOwn
        rw [if_neg this, if_pos hb']
      · rw [e3]; exact Own.nil_ _ _ _ _
  · intro b hb'
    unfold newOwn
    rw [if_neg (by omega), if_neg (fun e => by have := ht.lt e; omega), if_neg (by omega)]
    exact h.beyond b (Nat.le_trans k.size hb')

theorem wpList_put_map {w : World} {b : Nat} {m : List (Int × Nat)} {ops : Array Oper} {rest : List Oper} {o : Oper} {a : Act} {Q : Exit → Act → World → Prop} (h : MapIs w b m) (hgd : o.guard = none) (mo x v : Operand) (hop : o.op = Op.mapUpdate 67 mo x v)
    (hm : a.eval mo = .map (some b)) (k : Int) (hk : (Lit.int .i64 k).wf = true) (g : Nat) (hx : a.eval x = .int .i64 k) (hv : a.eval v = .pointer (some ⟨g, 0, none⟩)) (hn : m.lookup k = none) (hl : m.length < 1000000)
    (hK : ∀ w', MapIs w' b (m ++ [(k, g)]) → w.grownBy w' (some b) → wpList Tryz.prog ops Q rest (a.put o.dst undef) w') : wpList Tryz.prog ops Q (o :: rest) a w := by
  refine wpList_plain hgd fun K' hK' => ?_
  obtain ⟨w', hrun, r1, r2⟩ := h.put k hk g hn hl
  unfold Oper.wp
  simp [execOp, hop, hm, hx, hv, hrun, Result.andThen]
  exact hK' _ _ (hK w' r1 r2)
theorem step_put_map {w : World} {b : Nat} {m : List (Int × Nat)} {ops : Array Oper} {o : Oper} {a : Act} {K : Act → World → Prop} {Q : Exit → Act → World → Prop} {E : Prop} (h : MapIs w b m) (hgd : o.guard = none) (mo x v : Operand) (hop : o.op = Op.mapUpdate 67 mo x v)
    (hm : a.eval mo = .map (some b)) (k : Int) (hk : (Lit.int .i64 k).wf = true) (g : Nat) (hx : a.eval x = .int .i64 k) (hv : a.eval v = .pointer (some ⟨g, 0, none⟩)) (hn : m.lookup k = none) (hl : m.length < 1000000)
    (hK : ∀ w', MapIs w' b (m ++ [(k, g)]) → w.grownBy w' (some b) → K (a.put o.dst undef) w') : if Region.wanted o (yielded ops a.tmps) = true then Oper.wp Tryz.prog o a w K Q else E := by
  have hw : Region.wanted o (yielded ops a.tmps) = true := by simp [Region.wanted, hgd]
  rw [if_pos hw]
  obtain ⟨w', hrun, r1, r2⟩ := h.put k hk g hn hl
  unfold Oper.wp
  simp [execOp, hop, hm, hx, hv, hrun, Result.andThen]
  exact hK w' r1 r2
theorem accErr_ok {s : Srv} {r : Ask} (h : s.accErr r = 0) : (1 ≤ r.id ∧ r.id ≤ 1000000 ∧ 0 ≤ r.deadline ∧ r.deadline ≤ 1000000 ∧ 1 ≤ r.most ∧ r.most ≤ 32 ∧ -2147483648 ≤ r.seed ∧ r.seed ≤ 2147483647) ∧ (1 ≤ r.prompt.length ∧ r.prompt.length ≤ 32) ∧
    r.prompt.any (badTok s.M.vocab) = false ∧ s.find r.id = none ∧ (s.now : Int) < r.deadline ∧ s.open_.length < s.c.queue := by
  unfold Srv.accErr at h
  split at h
  · cases h
  · rename_i h1
    split at h
    · cases h
    · rename_i h2
      split at h
      · cases h
      · rename_i h3
        split at h
        · cases h
        · rename_i h4
          split at h
          · cases h
          · rename_i h5
            split at h
            · cases h
            · split at h
              · cases h
              · rename_i h7
                refine ⟨by omega, by omega, ?_, ?_, by omega, by omega⟩
                · have : r.prompt.any (badTok s.M.vocab) = r.prompt.any (fun t => !decide (0 ≤ t ∧ t ≤ (s.M.vocab : Int) - 1)) := rfl
                  rw [this]; simpa using h3
                · cases hf : s.find r.id with
                  | none => rfl
                  | some i => rw [hf] at h4; simp at h4
end Go.Proofs.YtedkfehdfmimoaaGreat

namespace Go.Proofs.YtedkfehdfmimoaaGreat
open Go.RowKit

theorem MapIs.alloc {w : World} {b : Nat} {m : List (Int × Nat)} (h : MapIs w b m) (o : Obj) : MapIs (w.alloc o) b m := h.keep (Below.heap_alloc w o b h.lt)
theorem askWords_eq (r : Ask) : askWords r = 1 :: ([r.id, r.deadline, r.most, r.seed, (r.prompt.length : Int)] ++ r.prompt) := rfl
set_option maxRecDepth 100000 in
set_option maxHeartbeats 2000000 in
theorem submit_any (w : World) (own : Nat → Slot) (P : Ptrs) (s : Srv) (h : Rep w own P s) (hs : s.Ok) (hrec : s.records ≤ 9000) (r : Ask) (T : Nat → Prop) (vp : Value) (hp : Slc w T vp r.prompt) (hpl : r.prompt.length ≤ 1000) :
    Calls Tryz.prog 13 #[.pointer (some ⟨P.sa, 0, none⟩), askVal vp r] w fun e w' => e = .returned (.int .i64 (s.submit r).2) ∧ ∃ own' P', Rep w' own' P' (s.submit r).1 ∧ Step w own P w' own' P' s.reqs.length := by
  obtain ⟨A, c, rfl⟩ := hp.len
  have hp0 := hp.old
  have hb0 : Below w.heap.size w (w.alloc (.cells #[.int .i64 r.id, .int .i64 r.deadline, .slice A r.prompt.length c, .int .i64 r.most, .int .i64 r.seed] 41)) := (Below.refl _ _).alloc (Nat.le_refl _) _
  have kq := Blk.new w 41 #[.int .i64 r.id, .int .i64 r.deadline, .slice A r.prompt.length c, .int .i64 r.most, .int .i64 r.seed]
  have h1 := h.fresh hb0
  have hp1 := hp0.fresh hb0
  have hacc := acc_any (w.alloc (.cells #[.int .i64 r.id, .int .i64 r.deadline, .slice A r.prompt.length c, .int .i64 r.most, .int .i64 r.seed] 41)) own P s h1 hs hrec r _ _ hp1 hpl
  have HSUB : Hid (s.submit r = if s.accErr r = 0 then (({ s with reqs := s.reqs ++ [askReq r] }).rec_ (askWords r), 0) else (s, s.accErr r)) := Lib.hid rfl
  have HOK := Lib.hid (@accErr_ok s r)
  have HACC := Lib.hid hacc
  have HS := Lib.hid hs
  have HB0 := Lib.hid hb0
  have H1 := Lib.hid h1
  have HP1 := Lib.hid hp1
  have KQ := Lib.hid kq
  have HREC := Lib.hid hrec
  have H := Lib.hid h
  have hmaz := h.map.lt
  clear hacc hs hb0 h1 hp1 kq hp hp0 h hrec
  generalize s.submit r = res at *
  generalize s.accErr r = er at *
  obtain ⟨n, hn⟩ : ∃ n, n = r.prompt.length := ⟨_, rfl⟩
  rw [← hn] at HACC HB0 H1 HP1 KQ hpl
  have HN := Lib.hid hn
  unfold askVal at HACC ⊢
  rw [← hn]
  clear hn
  by_cases her : er = 0
  · subst her
    obtain ⟨a1, a2, a3, a4, a5, a6⟩ := HOK.out rfl
    obtain ⟨i1, i2, i3, i4, i5, i6, i7, i8⟩ := a1
    have HTOK : Hid (∀ t ∈ r.prompt, 0 ≤ t ∧ t < (s.M.vocab : Int)) := by
      intro t ht
      rw [List.any_eq_false] at a3
      have := a3 t ht
      unfold badTok at this
      simp at this
      omega
    have hnf : (idMap P s).lookup r.id = none := by rw [idMap_find HS.out.distinct, a4]; rfl
    have HNF := Lib.hid hnf
    have hwf : (Lit.int .i64 r.id).wf = true := WalkArith.wf_i64 (by omega)
    have HWF := Lib.hid hwf
    have hn32 : n ≤ 32 := by rw [HN.out]; exact a2.2
    clear hnf hwf a2 a3 a4 a5 a6 HOK
    go_enter Tryz.func13, Tryz.ntmps13
    go_wp2_with fail
    refine HACC.out.mono ?_
    rintro e w1 ⟨rfl, hb1⟩
    have hb01 := HB0.out.trans (hb1.mono HB0.out.size)
    have k1 := KQ.out.below hb1 (by simp)
    have q2 : w1.cell? ⟨w.heap.size, 2, none⟩ = some (.slice A n c) := k1.cell 2
    have zq := k1.lt
    obtain ⟨A', c', e, hr1, hc1, hc2, hA1⟩ := HP1.out
    injection e with e1 e2 e3
    subst e1 e3
    have hcl := clone_any w1 _ A n c (ints r.prompt) (by rw [HN.out]; exact hr1.fresh hb1) (ints_one _) (by omega) (by rw [HN.out]; exact hA1)
    have HCL := Lib.hid hcl
    have K1 := Lib.hid k1
    have HB1 := Lib.hid hb01
    clear hcl k1 hb1 hb01 hr1 hA1 e2 HP1
    go_wp2_with fail
    refine HCL.out.mono ?_
    rintro e w2 ⟨v2, rfl, ho2, hb2⟩
    obtain ⟨A2, c2, rfl, hc21, hc22⟩ := ho2.shape
    have k2 := K1.out.below hb2 zq
    have p2 : w2.cell? ⟨w.heap.size, 2, none⟩ = some (.slice A n c) := k2.cell 2
    have f2 := k2.frozen 2
    have k3 := k2.set_ 2 (.slice A2 n c2)
    have ho3 : Own (w2.setCell ⟨w.heap.size, 2, none⟩ (.slice A2 n c2)) (fun g => w1.heap.size ≤ g ∧ g < w2.heap.size) 3 1 (.slice A2 n c2) n (ints r.prompt) := (ho2.more fun g hg h => ⟨h, hg⟩).setCell (p := ⟨w.heap.size, 2, none⟩) (fun h => by have := h.1; dsimp only at this; omega) _
    have hb3 : Below w.heap.size w (w2.setCell ⟨w.heap.size, 2, none⟩ (.slice A2 n c2)) := (HB1.out.trans (hb2.mono HB1.out.size)).setCell (by simp) _
    have hz3 : (w2.setCell ⟨w.heap.size, 2, none⟩ (.slice A2 n c2)).heap.size = w2.heap.size := by simp
    have HO3 := Lib.hid ho3
    have HB3 := Lib.hid hb3
    have K3 := Lib.hid k3
    have HZ3 := Lib.hid hz3
    have hz12 : w1.heap.size ≤ w2.heap.size := hb2.size
    clear ho2 k2 hb2 k3 ho3 hb3 hz3
    go_upto_region 5 with (fail)
    have ho3 := HO3.out
    have hb3 := HB3.out
    have k3 := K3.out
    have hz3 := HZ3.out
    clear HO3 HB3 K3 HZ3 p2 f2 q2
    generalize w2.setCell ⟨w.heap.size, 2, none⟩ (.slice A2 n c2) = w3 at *
    have q0 : w3.cell? ⟨w.heap.size, 0, none⟩ = some (.int .i64 r.id) := k3.cell 0
    have q1 : w3.cell? ⟨w.heap.size, 1, none⟩ = some (.int .i64 r.deadline) := k3.cell 1
    have q2 : w3.cell? ⟨w.heap.size, 2, none⟩ = some (.slice A2 n c2) := k3.cell 2
    have q3 : w3.cell? ⟨w.heap.size, 3, none⟩ = some (.int .i64 r.most) := k3.cell 3
    have q4 : w3.cell? ⟨w.heap.size, 4, none⟩ = some (.int .i64 r.seed) := k3.cell 4
    have h3 := H.out.fresh hb3
    have c17 : w3.cell? ⟨P.sa, 17, none⟩ = some (.map (some P.ma)) := h3.scell 17
    have hA2 : A2 = none → n = 0 ∧ c2 = 0 := by
      obtain ⟨Ax, cx, e, -, -, -, hAx⟩ := ho3.slc
      injection e with e1 e2 e3
      subst e1 e3
      intro h
      have := hAx h
      rw [← HN.out] at this
      exact this
    have hcl2 := clone_any w3.drew _ A2 n c2 (ints r.prompt) ho3.reads.drew (ints_one _) (by omega) hA2
    have HCL2 := Lib.hid hcl2
    have HO3 := Lib.hid ho3
    have HB3 := Lib.hid hb3
    have K3 := Lib.hid k3
    have H3 := Lib.hid h3
    have hz3' : w2.heap.size ≤ w3.heap.size := by omega
    clear ho3 hb3 k3 h3 hcl2 hA2
    have hlen : (idMap P s).length < 1000000 := by
      have : (idMap P s).length = s.reqs.length := by simp [idMap]
      have := HS.out.nreqs
      omega
    have zsa := H3.out.server.lt
    have zq3 : w.heap.size < w3.heap.size := by omega
    have hsm : ¬ P.sa = P.ma := fun e => by have := H.out.omap; rw [← e, H.out.oserver] at this; cases this
    have hqm : ¬ w.heap.size = P.ma := by omega
    go_region_held3 (fun w' => w'.cell? ⟨P.sa, 17, none⟩ = some (.map (some P.ma)) ∧ w'.cell? ⟨w.heap.size, 0, none⟩ = some (.int .i64 r.id) ∧ w'.cell? ⟨w.heap.size, 1, none⟩ = some (.int .i64 r.deadline) ∧ w'.cell? ⟨w.heap.size, 2, none⟩ = some (.slice A2 n c2) ∧ w'.cell? ⟨w.heap.size, 3, none⟩ = some (.int .i64 r.most) ∧ w'.cell? ⟨w.heap.size, 4, none⟩ = some (.int .i64 r.seed))
      (first | go_keep | exact ⟨(bc _ _ zsa).trans c17, (bc _ _ zq3).trans q0, (bc _ _ zq3).trans q1, (bc _ _ zq3).trans q2, (bc _ _ zq3).trans q3, (bc _ _ zq3).trans q4⟩ | exact ⟨(bd _ _ (by omega) hsm).trans ((bc _ _ zsa).trans c17), (bd _ _ (by omega) hqm).trans ((bc _ _ zq3).trans q0), (bd _ _ (by omega) hqm).trans ((bc _ _ zq3).trans q1), (bd _ _ (by omega) hqm).trans ((bc _ _ zq3).trans q2), (bd _ _ (by omega) hqm).trans ((bc _ _ zq3).trans q3), (bd _ _ (by omega) hqm).trans ((bc _ _ zq3).trans q4)⟩) ((first
      | (go_at_call 29; refine HCL2.out.mono ?_; rintro e w5 ⟨v5, rfl, ho5, hb5⟩; obtain ⟨A5, c5, rfl, -, -⟩ := ho5.shape; have hb5' : Below w3.heap.size w3 w5 := hb5.drewed; have HMI := Lib.hid (H3.out.fresh hb5').map; have bc := (bcell hb5').1; have hz5 : w3.heap.size ≤ w5.heap.size := hb5.size; obtain ⟨w6, hput, hm6, hg6⟩ := MapIs.put (HMI.out.alloc (.cells #[.int .i64 r.id, .int .i64 r.deadline, .slice A2 n c2, .int .i64 r.most, .int .i64 r.seed, .slice A5 n c5, .int .i64 0, .slice none 0 0, .int .i64 0, .bool false, .int .i64 0, .int .i64 0, .bool false, .bool false] 75)) r.id HWF.out w5.heap.size HNF.out hlen; have bd : ∀ b o, b < w5.heap.size → ¬ b = P.ma → w6.cell? ⟨b, o, none⟩ = w5.cell? ⟨b, o, none⟩ := fun b o h1 h2 => far_cell hg6 ⟨b, o, none⟩ h1 (fun e => h2 (by injection e with e; exact e.symm)))))
    have HO5 := Lib.hid ho5
    have HB5 := Lib.hid hb5'
    clear ho5 hb5 hb5' q0 q1 q3 q4 c17
    obtain ⟨CS, hCS⟩ : ∃ CS : Array Value, CS = #[.int .i64 r.id, .int .i64 r.deadline, .slice A2 n c2, .int .i64 r.most, .int .i64 r.seed, .slice A5 n c5, .int .i64 0, .slice none 0 0, .int .i64 0, .bool false, .int .i64 0, .int .i64 0, .bool false, .bool false] := ⟨_, rfl⟩
    rw [← hCS] at hg6
    have hnq : some w.heap.size ≠ some P.ma := by simp; omega
    have k6 := ((K3.out.below HB5.out (by omega)).alloc (.cells CS 75)).grown hg6 hnq
    have kr6 := (Blk.new w5 75 CS).grown hg6 (by simp; omega)
    have hkeep : Keeps (fun b => own b = .map) w w6 := by
      refine ⟨hg6.os.trans (HB5.out.os.trans HB3.out.os), hg6.tape.trans (HB5.out.tape.trans HB3.out.tape), hg6.output.trans (HB5.out.output.trans HB3.out.output), Nat.le_trans HB3.out.size (Nat.le_trans HB5.out.size (Nat.le_trans (by simp) hg6.size)), fun b hb' hn' => ?_⟩
      have hbm : some b ≠ some P.ma := fun e => hn' (by injection e with e; rw [e]; exact H.out.omap)
      exact ((hg6.block b (by have := HB3.out.size; simp; omega) hbm).trans (Below.heap_alloc _ _ _ (by have := HB3.out.size; omega))).trans ((HB5.out.block b (by have := HB3.out.size; omega)).trans (HB3.out.block b hb'))
    have hmz3 : w.heap.size ≤ w3.heap.size := HB3.out.size
    have hzz : w.heap.size ≤ w1.heap.size := HB1.out.size
    have o3' := (HO3.out.fresh HB5.out).alloc (.cells CS 75)
    have o3'' : Own w6 (fun g => w1.heap.size ≤ g ∧ g < w2.heap.size) 3 1 (.slice A2 n c2) n (ints r.prompt) := o3'.grown hg6 (fun g e h => by injection e with e; omega)
    have o5'' : Own w6 (fun g => w3.heap.size ≤ g ∧ g < w5.heap.size) 3 1 (.slice A5 n c5) n (ints r.prompt) := (((HO5.out.more (T' := fun g => w3.heap.size ≤ g ∧ g < w5.heap.size) (fun g hg h => ⟨h, hg⟩)).alloc (.cells CS 75))).grown hg6 (fun g e h => by injection e with e; omega)
    have hadd := H.out.addReq r w5.heap.size (.slice A2 n c2) (.slice A5 n c5) hkeep hm6 (hCS ▸ kr6) (by omega) _ _ o3''.slc (fun b hb' => ⟨by omega, by omega, fun e => by have := (o5''.2 b e).1; omega⟩) (by rw [← HN.out]; exact o5'') (fun b hb' => ⟨by omega, by omega⟩)
    obtain ⟨h6, st6⟩ := hadd
    have q0 : w6.cell? ⟨w.heap.size, 0, none⟩ = some (.int .i64 r.id) := k6.cell 0
    have q1 : w6.cell? ⟨w.heap.size, 1, none⟩ = some (.int .i64 r.deadline) := k6.cell 1
    have q2' : w6.cell? ⟨w.heap.size, 2, none⟩ = some (.slice A2 n c2) := k6.cell 2
    have q3 : w6.cell? ⟨w.heap.size, 3, none⟩ = some (.int .i64 r.most) := k6.cell 3
    have q4 : w6.cell? ⟨w.heap.size, 4, none⟩ = some (.int .i64 r.seed) := k6.cell 4
    have hz6 : w3.heap.size ≤ w6.heap.size := by have := hg6.size; simp at this; omega
    have zq6 : w.heap.size < w6.heap.size := by omega
    have o3w := o3''.slc
    obtain ⟨Ax, cx, e, hr3, -, -, -⟩ := o3w
    injection e with e1 e2 e3
    subst e1 e3
    rw [← HN.out] at hr3
    have H6 := Lib.hid h6
    have ST6 := Lib.hid st6
    have HR3 := Lib.hid hr3
    have HCS := Lib.hid hCS
    have hbd6 : Below w.heap.size w w := Below.refl _ _
    clear hput bd bc hm6 hg6 k6 kr6 hkeep o3' o3'' o5'' h6 st6 hr3 hCS hbd6 e2 hlen zsa hsm hqm hnq q2
    obtain ⟨i0, hi0, hz0, hz1, hz2⟩ := info_parts int_info
    have hown0 := own_lit w6 (fun b => w6.heap.size ≤ b) 3 (ints [1, r.id, r.deadline, r.most, r.seed, (n : Int)]) 6 (by decide) rfl (Nat.le_refl _)
    have HOWN0 := Lib.hid hown0
    clear hown0
    go_wp2_with (first | (at_builtin; go_must (refine wpList_append_any _ rfl _ _ 22 rfl 3 i0 _ 1 8 Tryz.underlying22 hi0 hz0 hz1 hz2 rfl (by omega) (.slice (some ⟨w6.heap.size, 0, none⟩) 6 6) 6 _ rfl HOWN0.out _ n c2 _ rfl (HR3.out.alloc _) (ints_one _) (by unfold maxLen; omega) (by omega) ?_); intro v' w7 happ))
    obtain ⟨A7, c7, rfl, -, -⟩ := happ.1.shape
    have hb7 : Below w6.heap.size w6 w7 := ((Below.refl _ _).alloc (Nat.le_refl _) (.cells (ints [1, r.id, r.deadline, r.most, r.seed, (n : Int)]).toArray 3)).grown happ.2.1 (by simp) (fun g e => by simp [Value.ownBlock] at e; omega)
    have h7 := H6.out.fresh hb7
    have hsl : Slc w7 (fun g => (w6.heap.size ≤ g) ∨ g = (w6.alloc (.cells (ints [1, r.id, r.deadline, r.most, r.seed, (n : Int)]).toArray 3)).heap.size) (.slice A7 (6 + n) c7) (1 :: ([r.id, r.deadline, r.most, r.seed, (r.prompt.length : Int)] ++ r.prompt)) := by
      have ho := happ.1
      have e : ints [1, r.id, r.deadline, r.most, r.seed, (n : Int)] ++ ints r.prompt = ints (1 :: ([r.id, r.deadline, r.most, r.seed, (r.prompt.length : Int)] ++ r.prompt)) := by
        rw [← HN.out]; simp [ints]
      rw [e] at ho
      exact ho.slc
    have hreca := record_any w7 _ _ _ h7 _ _ 1 ([r.id, r.deadline, r.most, r.seed, (r.prompt.length : Int)] ++ r.prompt) hsl ⟨by omega, by omega⟩ (by
      intro x hx
      rcases List.mem_append.1 hx with hx | hx
      · simp at hx; rcases hx with rfl | rfl | rfl | rfl | rfl <;> first | omega | (rw [← HN.out]; omega)
      · have := HTOK.out x hx; have := HS.out.M.vocab; omega) (by rw [List.length_append, ← HN.out]; simp; omega) (by have := HREC.out; show s.records ≤ _; omega) (by have := HS.out.log; have := HREC.out; show s.log.length ≤ _; omega) s.reqs.length
    have hsa6 : (newPtrs P w5.heap.size (.slice A2 n c2) (.slice A5 n c5) s.reqs.length).sa = P.sa := rfl
    rw [hsa6] at hreca
    have HR := Lib.hid hreca
    have HB7 := Lib.hid hb7
    clear hreca h7 hsl hb7 happ q0 q1 q2' q3 q4
    go_wp2_with fail
    refine HR.out.mono ?_
    rintro e w8 ⟨rfl, own8, P8, h8, st8⟩
    have H8 := Lib.hid h8
    have ST8 := Lib.hid st8
    clear h8 st8
    go_wp2_with fail
    go_ret
    have e : res = (({ s with reqs := s.reqs ++ [askReq r] }).rec_ (askWords r), 0) := by rw [HSUB.out, if_pos trivial]
    exact ⟨by rw [e]; rfl, own8, P8, by rw [e]; exact H8.out, (ST6.out.tr (Step.fresh HB7.out _ _ _)).tr ST8.out⟩
  · have her' : (er != 0) = true := by simpa using her
    go_enter Tryz.func13, Tryz.ntmps13
    go_wp2_with fail
    refine HACC.out.mono ?_
    rintro e w1 ⟨rfl, hb1⟩
    have H2 := Lib.hid (H1.out.fresh hb1)
    have B2 := Lib.hid (HB0.out.trans (hb1.mono HB0.out.size))
    clear hb1
    go_wp2_with fail
    go_ret
    have e : res = (s, er) := by rw [HSUB.out, if_neg her]
    exact ⟨by rw [e]; rfl, own, P, by rw [e]; exact H2.out, Step.fresh B2.out _ _ _⟩
end Go.Proofs.YtedkfehdfmimoaaGreat

namespace Go.Proofs.YtedkfehdfmimoaaGreat
open Go.RowKit

theorem Srv.Ok.settle_distinct {s : Srv} (h : s.Distinct) (l : List Int) : (s.rec_ l).Distinct := fun i j hi hj e => h i j hi hj e
theorem end_distinct {s : Srv} (h : s.Ok) (i : Nat) (hi : i < s.reqs.length) (e : Int) : (s.end_ i e).Distinct := (h.end_ i hi e).distinct
set_option maxRecDepth 100000 in
set_option maxHeartbeats 1000000 in
theorem cancel_any (w : World) (own : Nat → Slot) (P : Ptrs) (s : Srv) (h : Rep w own P s) (hs : s.Ok) (hrec : s.records ≤ 9000) (id : Int) (hid : 0 ≤ id ∧ id ≤ 1000000) (m : Nat) (hm : s.reqs.length ≤ m) :
    Calls Tryz.prog 21 #[.pointer (some ⟨P.sa, 0, none⟩), .int .i64 id] w fun e w' => e = .returned (.int .i64 (s.cancel id).2) ∧ ∃ own' P', Rep w' own' P' (s.cancel id).1 ∧ Step w own P w' own' P' m := by
  have c17 : w.cell? ⟨P.sa, 17, none⟩ = some (.map (some P.ma)) := h.scell 17
  have hlk : (Instr.lookup 67 (.map (some P.ma)) (.int .i64 id) false).run Tryz.prog w = .ok (match (idMap P s).lookup id with | some g => .pointer (some ⟨g, 0, none⟩) | none => .pointer none) w := MapIs.look h.map id (WalkArith.wf_i64 (by omega))
  rw [idMap_find hs.distinct] at hlk
  have HF := Lib.hid (fun i => @find_some s id i)
  have HC : Hid (s.cancel id = match s.find id with
    | none => (s, 13)
    | some i => if (s.req i).ended then (s, 17) else (((s.end_ i 19).rec_ [2, id]).settle, 0)) := Lib.hid rfl
  have HFULL := Lib.hid (full_no w own P s h (by omega))
  have H := Lib.hid h
  have HS := Lib.hid hs
  have HM := Lib.hid hm
  have HREC := Lib.hid hrec
  clear h hs hm hrec
  generalize s.cancel id = res at *
  generalize s.find id = fo at *
  cases fo with
  | none =>
    simp only [Option.map_none] at hlk
    go_enter Tryz.func21, Tryz.ntmps21
    go_wp2_with fail
    go_ret
    exact ⟨by rw [HC.out]; rfl, own, P, by rw [HC.out]; exact H.out, Step.refl _ _ _ _⟩
  | some i =>
    simp only [Option.map_some] at hlk
    obtain ⟨hi, hid2⟩ := HF.out i rfl
    have HI := Lib.hid hi
    have hir := s.req_get i hi
    have c9 : w.cell? ⟨P.rb i, 9, none⟩ = some (.bool (s.req i).ended) := H.out.rcell i _ hir 9
    obtain ⟨en, hen⟩ : ∃ en, en = (s.req i).ended := ⟨_, rfl⟩
    rw [← hen] at c9
    have HEN := Lib.hid hen
    have HEND := Lib.hid (end_any w own P s H.out i hi (HS.out.reqs i hi).holds 19 m (Nat.lt_of_lt_of_le hi HM.out))
    have hok2 := Lib.hid (HS.out.end_ i hi 19)
    clear hi hid2 hir hen
    cases en
    · go_enter Tryz.func21, Tryz.ntmps21
      go_wp2_with (go_at_call 34; refine HFULL.out.mono ?_; rintro e w' ⟨rfl, rfl⟩)
      refine HEND.out.mono ?_
      rintro e w1 ⟨rfl, own1, P1, h1, st1⟩
      have hreca := record_any (w1.alloc (.cells #[.int .i64 2, .int .i64 id] 3)) own1 P1 (s.end_ i 19) (h1.alloc _) (· = w1.heap.size) (.slice (some ⟨w1.heap.size, 0, none⟩) 2 2) 2 [id] (lit_slc w1 3 [2, id] 2 rfl (by decide)) ⟨by omega, by omega⟩ (fun x hx => by simp at hx; omega) (by simp) (by have := hok2.out.records; omega) (by have := hok2.out.records; have := hok2.out.log; omega) m
      rw [st1.sa] at hreca
      have HR := Lib.hid hreca
      have ST1 := Lib.hid st1
      clear hreca h1 st1 hlk c17 c9
      go_wp2_with fail
      refine HR.out.mono ?_
      rintro e w2 ⟨rfl, own2, P2, h2, st2⟩
      have hset := settle_any w2 own2 P2 _ h2 (Srv.Ok.settle_distinct hok2.out.distinct _) m
      rw [st2.sa, ST1.out.sa] at hset
      have HSE := Lib.hid hset
      have ST2 := Lib.hid st2
      clear hset h2 st2
      go_wp2_with fail
      refine HSE.out.mono ?_
      rintro e w3 ⟨rfl, h3, st3⟩
      have H3 := Lib.hid h3
      have ST3 := Lib.hid st3
      clear h3 st3
      go_wp2_with fail
      go_ret
      have e : res = (((s.end_ i 19).rec_ [2, id]).settle, 0) := by rw [HC.out, if_neg (by rw [← HEN.out]; exact Bool.false_ne_true)]
      exact ⟨by rw [e]; rfl, own2, P2, by rw [e]; exact H3.out, ((ST1.out.tr (Step.fresh ((Below.refl _ _).alloc (Nat.le_refl _) _) own1 P1 m)).tr ST2.out).tr ST3.out⟩
    · go_enter Tryz.func21, Tryz.ntmps21
      go_wp2_with fail
      go_ret
      have e : res = (s, 17) := by rw [HC.out, if_pos HEN.out.symm]
      exact ⟨by rw [e]; rfl, own, P, by rw [e]; exact H.out, Step.refl _ _ _ _⟩
set_option maxHeartbeats 400000 in
theorem sync_any (w : World) (own : Nat → Slot) (P : Ptrs) (s : Srv) (h : Rep w own P s) (m : Nat) :
    Calls Tryz.prog 16 #[.pointer (some ⟨P.sa, 0, none⟩)] w fun e w' => e = .returned (.tuple #[]) ∧ Rep w' own P { s with synced := s.log.length } ∧ Step w own P w' own P m := by
  obtain ⟨A, c, hv, -, -⟩ := h.log.shape
  have c19 : w.cell? ⟨P.sa, 19, none⟩ = some (.slice A s.log.length c) := by rw [← hv]; exact h.scell 19
  have c21 : w.cell? ⟨P.sa, 21, none⟩ = some (.int .i64 s.synced) := h.scell 21
  have f21 := h.sfree 21
  have H := Lib.hid (h.setServer 21 (.int .i64 s.log.length) { s with synced := s.log.length } rfl rfl rfl rfl rfl)
  have ST := Lib.hid (Step.server h 21 (.int .i64 s.log.length) m)
  clear h hv
  go_enter Tryz.func16, Tryz.ntmps16
  go_wp2_with fail
  go_end0
  exact ⟨rfl, H.out, ST.out⟩
set_option maxHeartbeats 400000 in
theorem synced_any (w : World) (own : Nat → Slot) (P : Ptrs) (s : Srv) (h : Rep w own P s) :
    Calls Tryz.prog 24 #[.pointer (some ⟨P.sa, 0, none⟩)] w fun e w' => e = .returned (.int .i64 s.synced) ∧ w = w' := by
  have c21 : w.cell? ⟨P.sa, 21, none⟩ = some (.int .i64 s.synced) := h.scell 21
  clear h
  go_enter Tryz.func24, Tryz.ntmps24
  go_wp2_with fail
  go_ret
  exact ⟨rfl, rfl⟩

/-- what Answer tells -/
def Srv.answer (s : Srv) (id : Int) : List Int × Int × Bool := match s.find id with
  | none => ([], 13, false)
  | some i => if s.told (s.req i) then (if (s.req i).err ≠ 0 then ([], (s.req i).err, true) else ((s.req i).tokens.drop (s.req i).prompt.length, 0, true)) else ([], 17, false)
def AnsRes (w : World) (r : List Int × Int × Bool) (e : Ending) (w' : World) : Prop := ∃ v, e = .returned (.tuple #[v, .int .i64 r.2.1, .bool r.2.2]) ∧ Own w' (fun g => w.heap.size ≤ g) 3 1 v r.1.length (ints r.1) ∧ Below w.heap.size w w'
set_option maxRecDepth 100000 in
set_option maxHeartbeats 1000000 in
theorem answer_any (w : World) (own : Nat → Slot) (P : Ptrs) (s : Srv) (h : Rep w own P s) (hs : s.Ok) (id : Int) (hid : -1 ≤ id ∧ id ≤ 1000000) :
    Calls Tryz.prog 17 #[.pointer (some ⟨P.sa, 0, none⟩), .int .i64 id] w (AnsRes w (s.answer id)) := by
  have c17 : w.cell? ⟨P.sa, 17, none⟩ = some (.map (some P.ma)) := h.scell 17
  have hlk : (Instr.lookup 67 (.map (some P.ma)) (.int .i64 id) false).run Tryz.prog w = .ok (match (idMap P s).lookup id with | some g => .pointer (some ⟨g, 0, none⟩) | none => .pointer none) w := MapIs.look h.map id (WalkArith.wf_i64 (by omega))
  rw [idMap_find hs.distinct] at hlk
  have HF := Lib.hid (fun i => @find_some s id i)
  have HC : Hid (s.answer id = match s.find id with
    | none => ([], 13, false)
    | some i => if s.told (s.req i) then (if (s.req i).err ≠ 0 then ([], (s.req i).err, true) else ((s.req i).tokens.drop (s.req i).prompt.length, 0, true)) else ([], 17, false)) := Lib.hid rfl
  have H := Lib.hid h
  have HS := Lib.hid hs
  clear h hs
  generalize s.answer id = res at *
  generalize s.find id = fo at *
  cases fo with
  | none =>
    simp only [Option.map_none] at hlk
    go_enter Tryz.func17, Tryz.ntmps17
    go_wp2_with fail
    go_ret3
    have e : res = ([], 13, false) := HC.out
    rw [e]
    exact ⟨_, rfl, Own.nil_ _ _ _ _, Below.refl _ _⟩
  | some i =>
    simp only [Option.map_some] at hlk
    obtain ⟨hi, hid2⟩ := HF.out i rfl
    have hir := s.req_get i hi
    have hq := H.out.req i hi
    have hri : s.reqs[i] = s.req i := by rw [List.getElem?_eq_getElem hi] at hir; injection hir
    rw [hri] at hq
    have hok := HS.out.reqs i hi
    obtain ⟨A, c, hv, hc1, hc2⟩ := hq.tokens.shape
    obtain ⟨B, d, hvp⟩ := hq.prompt.len
    have c10 : w.cell? ⟨P.rb i, 10, none⟩ = some (.int .i64 (s.req i).err) := H.out.rcell i _ hir 10
    have c5 : w.cell? ⟨P.rb i, 5, none⟩ = some (.slice A (s.req i).tokens.length c) := by rw [← hv]; exact H.out.rcell i _ hir 5
    have c2 : w.cell? ⟨P.rb i, 2, none⟩ = some (.slice B (s.req i).prompt.length d) := by rw [← hvp]; exact H.out.rcell i _ hir 2
    have zrb := hq.blk.lt
    have htk := hq.tokens
    rw [hv] at htk
    have hrd := htk.reads
    have HT := Lib.hid (told_any w own P s H.out i hi)
    replace HC : Hid (res = if s.told (s.req i) then (if (s.req i).err ≠ 0 then ([], (s.req i).err, true) else ((s.req i).tokens.drop (s.req i).prompt.length, 0, true)) else ([], 17, false)) := HC
    generalize s.told (s.req i) = td at *
    have hlen := hok.tokens
    have h64 := hok.tok64
    have hpl := hok.prompt
    obtain ⟨er, her⟩ : ∃ er, er = (s.req i).err := ⟨_, rfl⟩
    obtain ⟨n, hn⟩ : ∃ n, n = (s.req i).tokens.length := ⟨_, rfl⟩
    obtain ⟨p, hp⟩ : ∃ p, p = (s.req i).prompt.length := ⟨_, rfl⟩
    rw [← her] at c10 HC
    rw [← hn] at c5 hrd hlen h64 hc1
    rw [← hp] at c2 hlen hpl HC
    have hpn : p ≤ n := by omega
    have HN := Lib.hid hn
    have HRD := Lib.hid hrd
    clear hid2 hir hq hri hok hv hvp htk hrd her hn hp hlen hi
    cases td
    · have e : res = ([], 17, false) := HC.out
      have HE := Lib.hid e
      clear e HC
      go_enter Tryz.func17, Tryz.ntmps17
      go_wp2_with fail
      refine HT.out.mono ?_
      rintro e w1 ⟨rfl, nd, rfl⟩
      go_wp2_with fail
      go_ret3
      rw [HE.out]
      exact ⟨_, rfl, Own.nil_ _ _ _ _, belowN (Below.refl _ _) _⟩
    · by_cases he : er = 0
      · subst he
        have e : res = ((s.req i).tokens.drop p, 0, true) := by rw [HC.out]; simp
        have HE := Lib.hid e
        clear e HC
        have y1 : (p : Int) ≤ n := by omega
        have y2 : (n : Int) ≤ c := by omega
        have y3 : (0 : Int) ≤ p := by omega
        have y4 : 0 < n := by omega
        obtain ⟨ad, rfl, -⟩ := HRD.out.2 y4
        have hcl : ∀ k : Nat, Calls Tryz.prog 29 #[.slice (if c = p then some ad else some (ad.add p)) (n - p) (c - p)] (w.drewN k) (RetFresh (w.drewN k) 3 1 (n - p) (ints ((s.req i).tokens.drop p))) := fun k => by
          have hr := (HRD.out.cut (k := p) (cap := c) (by omega) hc1).drewN k
          rw [Nat.mul_one] at hr
          have e1 : (ints (s.req i).tokens).drop p = ints ((s.req i).tokens.drop p) := by simp [ints, List.map_drop]
          rw [e1] at hr
          have e2 : (if c = p then some ad else (some ad : Option Addr).map (·.add p)) = if c = p then some ad else some (ad.add p) := rfl
          rw [e2] at hr
          exact clone_any (w.drewN k) _ _ (n - p) (c - p) _ hr (ints_one _) (by omega) (fun h => by split at h <;> cases h)
        have HCL := Lib.hid hcl
        clear hcl
        by_cases hcp : c = p
        · rw [if_pos hcp, show c - p = 0 by omega, show n - p = 0 by omega] at HCL
          subst hcp
          go_enter Tryz.func17, Tryz.ntmps17
          go_wp2_with fail
          refine HT.out.mono ?_
          rintro e w1 ⟨rfl, nd, rfl⟩
          go_wp2_with fail
          go_region_held3 (fun w' => w'.cell? ⟨P.rb i, 5, none⟩ = some (.slice (some ad) n c) ∧ w'.cell? ⟨P.rb i, 2, none⟩ = some (.slice B c d)) (first | go_keep | exact ⟨(bc _ _ zrb).trans c5, (bc _ _ zrb).trans c2⟩) ((go_at_call 29; refine (HCL.out _).mono ?_; rintro e w2 ⟨v, rfl, hfr, hb2⟩; have bc := (bcell hb2).1))
          all_goals
            go_wp2_with fail
            go_ret3
            rw [HE.out]
            refine ⟨_, rfl, ?_, ⟨hb2.os, hb2.tape, hb2.output, hb2.size, hb2.block⟩⟩
            show Own _ _ _ _ v ((s.req i).tokens.drop c).length _
            rw [List.length_drop, ← HN.out]
            rw [show n - c = 0 by omega]
            exact hfr
        · rw [if_neg hcp] at HCL
          go_enter Tryz.func17, Tryz.ntmps17
          go_wp2_with fail
          refine HT.out.mono ?_
          rintro e w1 ⟨rfl, nd, rfl⟩
          go_wp2_with fail
          go_region_held3 (fun w' => w'.cell? ⟨P.rb i, 5, none⟩ = some (.slice (some ad) n c) ∧ w'.cell? ⟨P.rb i, 2, none⟩ = some (.slice B p d)) (first | go_keep | exact ⟨(bc _ _ zrb).trans c5, (bc _ _ zrb).trans c2⟩) ((go_at_call 29; refine (HCL.out _).mono ?_; rintro e w2 ⟨v, rfl, hfr, hb2⟩; have bc := (bcell hb2).1))
          all_goals
            go_wp2_with fail
            go_ret3
            rw [HE.out]
            refine ⟨_, rfl, ?_, ⟨hb2.os, hb2.tape, hb2.output, hb2.size, hb2.block⟩⟩
            show Own _ _ _ _ v ((s.req i).tokens.drop p).length _
            rw [List.length_drop, ← HN.out]
            exact hfr
      · have he' : (er != 0) = true := by simpa using he
        have e : res = ([], er, true) := by rw [HC.out]; simp [he]
        have HE := Lib.hid e
        clear e HC
        go_enter Tryz.func17, Tryz.ntmps17
        go_wp2_with fail
        refine HT.out.mono ?_
        rintro e w1 ⟨rfl, nd, rfl⟩
        go_wp2_with fail
        go_quiet (fail)
        go_wp2_with fail
        go_ret3
        rw [HE.out]
        exact ⟨_, rfl, Own.nil_ _ _ _ _, belowN (belowN (Below.refl _ _) _) _⟩
end Go.Proofs.YtedkfehdfmimoaaGreat

namespace Go.Proofs.YtedkfehdfmimoaaGreat
open Go.RowKit

theorem core_id {r r' : Req} (h : core r' = core r) : r'.id = r.id ∧ r'.deadline = r.deadline ∧ r'.prompt = r.prompt ∧ r'.most = r.most ∧ r'.seed = r.seed ∧ r'.tokens = r.tokens ∧ r'.made = r.made ∧ r'.ended = r.ended ∧ r'.err = r.err ∧ r'.kept = r.kept := by
  have e1 : r'.tokens = r.tokens := by have := congrArg Req.tokens h; exact this
  have e2 : r'.seed = r.seed := by have := congrArg Req.seed h; exact this
  have e3 : r'.made = r.made := by have := congrArg Req.made h; exact this
  have e4 : r'.most = r.most := by have := congrArg Req.most h; exact this
  have e5 : r'.id = r.id := by have := congrArg Req.id h; exact this
  have e6 : r'.deadline = r.deadline := by have := congrArg Req.deadline h; exact this
  have e7 : r'.prompt = r.prompt := by have := congrArg Req.prompt h; exact this
  have e8 : r'.ended = r.ended := by have := congrArg Req.ended h; exact this
  have e9 : r'.err = r.err := by have := congrArg Req.err h; exact this
  have e10 : r'.kept = r.kept := by have := congrArg Req.kept h; exact this
  exact ⟨e5, e6, e7, e4, e2, e1, e3, e8, e9, e10⟩

/-- A property of requests that each piece of a tick keeps. -/
structure Closed (M : Model) (now : Nat) (Q : Nat → Req → Prop) : Prop where
  core : ∀ i r r', core r' = core r → Q i r → Q i r'
  made : ∀ i r, r.ended = false → ¬ stops M r → Q i r → Q i (madeReq M r)
  fin : ∀ i r, r.ended = false → stops M r → Q i r → Q i (finReq M r)
  late : ∀ i r, r.ended = false → r.deadline < (now : Int) → Q i r → Q i (lateReq r)
theorem Closed.step {M : Model} {now : Nat} {Q : Nat → Req → Prop} (h : Closed M now Q) {i : Nat} {r r' : Req} (hs : RStep M r r') (hq : Q i r) : Q i r' := by
  rcases hs with hs | ⟨h1, h2, h3⟩ | ⟨h1, h2, h3⟩
  · exact h.core i r r' hs hq
  · exact h.core i _ r' h3 (h.made i r h1 h2 hq)
  · exact h.core i _ r' h3 (h.fin i r h1 h2 hq)

theorem late_all (Q : Nat → Req → Prop) (L : List Nat) : ∀ s : Srv, s.Ok → (∀ i ∈ L, i < s.reqs.length) → L.Nodup → (∀ i ∈ L, (s.req i).ended = false) → Closed s.M s.now Q →
    (L.foldl Srv.late1 s).Ok ∧ Stat s (L.foldl Srv.late1 s) ∧ (∀ i, Q i (s.req i) → Q i ((L.foldl Srv.late1 s).req i)) ∧
    ∀ i, (i ∈ L ∨ ((s.req i).ended = false → (s.now : Int) ≤ (s.req i).deadline)) → ((L.foldl Srv.late1 s).req i).ended = false → (s.now : Int) ≤ ((L.foldl Srv.late1 s).req i).deadline := by
  induction L with
  | nil =>
    intro s hs _ _ _ _
    refine ⟨hs, Stat.refl s, fun i h => h, fun i h he => ?_⟩
    rcases h with h | h
    · cases h
    · exact h he
  | cons a L ih =>
    intro s hs hL hnd hop hc
    have ha := hL a List.mem_cons_self
    have hnd' := List.nodup_cons.1 hnd
    obtain ⟨k1, k2, k3, k4⟩ := late1_ok hs a ha
    obtain ⟨i1, i2, i3, i4⟩ := ih (s.late1 a) k1 (fun i hi => by rw [k2.nreqs]; exact hL i (List.mem_cons_of_mem _ hi)) hnd'.2 (fun i hi => by rw [k4 i (fun e => hnd'.1 (e ▸ hi))]; exact hop i (List.mem_cons_of_mem _ hi)) (by rw [k2.M, k2.now]; exact hc)
    refine ⟨i1, k2.trans i2, fun i hq => i3 i ?_, fun i h he => ?_⟩
    · by_cases e : i = a
      · subst e
        by_cases hd : (s.req i).deadline < s.now
        · rw [if_pos hd] at k3
          exact hc.core i _ _ k3 (hc.late i _ (hop i List.mem_cons_self) hd hq)
        · rw [if_neg hd] at k3
          exact hc.core i _ _ k3 hq
      · rw [k4 i e]; exact hq
    · have := i4 i ?_ he
      · rwa [k2.now] at this
      · by_cases e : i = a
        · subst e
          refine Or.inr fun he1 => ?_
          rw [k2.now]
          by_cases hd : (s.req i).deadline < s.now
          · rw [if_pos hd] at k3
            have := (core_id k3).2.2.2.2.2.2.2.1
            rw [he1] at this
            cases this
          · rw [if_neg hd] at k3
            rw [(core_id k3).2.1]
            omega
        · rcases h with h | h
          · rcases List.mem_cons.1 h with h | h
            · exact absurd h e
            · exact Or.inl h
          · refine Or.inr ?_
            rw [k4 i e, k2.now]
            exact h
theorem workL_all (Q : Nat → Req → Prop) (L : List Nat) : ∀ (n : Nat) (s : Srv), s.Ok → (∀ i ∈ L, i < s.reqs.length) → L.Nodup → (∀ i ∈ L, (s.req i).ended = false) → Closed s.M s.now Q →
    (Srv.workL L n s).Ok ∧ Stat s (Srv.workL L n s) ∧ ∀ i, Q i (s.req i) → Q i ((Srv.workL L n s).req i) := by
  induction L with
  | nil => intro n s hs _ _ _ _; exact ⟨hs, Stat.refl s, fun _ h => h⟩
  | cons a L ih =>
    intro n s hs hL hnd hop hc
    have ha := hL a List.mem_cons_self
    have hnd' := List.nodup_cons.1 hnd
    simp only [Srv.workL]
    split
    · exact ⟨hs, Stat.refl s, fun _ h => h⟩
    · split
      · exact ih n s hs (fun i hi => hL i (List.mem_cons_of_mem _ hi)) hnd'.2 (fun i hi => hop i (List.mem_cons_of_mem _ hi)) hc
      · obtain ⟨w1, w2, w3, w4⟩ := work_ok hs a ha L (fun i hi => hL i (List.mem_cons_of_mem _ hi)) hnd'.1 (hop a List.mem_cons_self)
        obtain ⟨i1, i2, i3⟩ := ih (if ((s.work a L).req a).worked then n + 1 else n) (s.work a L) w1 (fun i hi => by rw [w2.nreqs]; exact hL i (List.mem_cons_of_mem _ hi)) hnd'.2
          (fun i hi => by rw [core_ended (w4 i (fun e => hnd'.1 (e ▸ hi)))]; exact hop i (List.mem_cons_of_mem _ hi)) (by rw [w2.M, w2.now]; exact hc)
        refine ⟨i1, w2.trans i2, fun i hq => i3 i ?_⟩
        by_cases e : i = a
        · subst e; exact hc.step w3 hq
        · exact hc.core i _ _ (w4 i e) hq
theorem Srv.open_mem (s : Srv) (i : Nat) : i ∈ s.open_ ↔ i < s.reqs.length ∧ (s.req i).ended = false := by
  rw [Srv.open_eq, (isort_perm _ _).mem_iff, Srv.openList_mem]
theorem Srv.open_nodup (s : Srv) : s.open_.Nodup := by
  rw [Srv.open_eq, (isort_perm _ _).nodup_iff]
  exact List.Nodup.sublist List.filter_sublist List.nodup_range
theorem recF_four (n : Nat) : (recF n [4]).length = 11 := by
  have : (bodyF 4 []).length = 1 := by rw [bodyF_length]; rfl
  simp [recF, sealF_length, lowF_length, this]
theorem Srv.settle_req (s : Srv) (i : Nat) (hi : i < s.reqs.length) : s.settle.req i = settleReq s.log.length (s.req i) := by
  unfold Srv.settle Srv.req
  simp only [List.getD_eq_getElem?_getD, List.getElem?_map, List.getElem?_eq_getElem hi, Option.map_some, Option.getD_some]
theorem ReqOk.settled {s : Srv} {r : Req} (h : ReqOk s r) (n : Nat) (hn : n = s.log.length) : ReqOk s (settleReq n r) := by
  unfold settleReq
  split
  · exact ⟨h.id, h.dl, h.prompt, h.most, h.seed, h.made, h.yet, h.tokens, h.toks, h.holds, h.ent, h.last, h.few, by subst hn; dsimp only; omega⟩
  · exact h
theorem Srv.Ok.settle {s : Srv} (h : s.Ok) : s.settle.Ok := by
  have hl : s.settle.reqs.length = s.reqs.length := by simp [Srv.settle]
  refine ⟨h.M, h.kind, h.c, h.npages, by rw [hl]; exact h.nreqs, ?_, ?_, h.ptok, h.records, h.now, h.log⟩
  · intro a b ha hb e
    rw [hl] at ha hb
    rw [s.settle_req a ha, s.settle_req b hb, settleReq_id, settleReq_id] at e
    exact h.distinct a b ha hb e
  · intro i hi
    rw [hl] at hi
    rw [s.settle_req i hi]
    exact ((h.reqs i hi).settled _ rfl).move rfl rfl rfl (Nat.le_refl _)
theorem Srv.Ok.recd {s : Srv} (h : s.Ok) (l : List Int) (hl : (recF s.records l).length ≤ 500) (hr : s.records ≤ 9999) : (s.rec_ l).Ok := by
  refine ⟨h.M, h.kind, h.c, h.npages, h.nreqs, h.distinct, fun i hi => (h.reqs i hi).move rfl rfl rfl ?_, h.ptok, ?_, ?_, ?_⟩
  · show s.log.length ≤ (s.log ++ _).length
    simp
  · show s.records + 1 ≤ _
    omega
  · show s.now ≤ s.records + 1 + 1
    have := h.now
    omega
  · show (s.log ++ _).length ≤ 1000 + 500 * (s.records + 1)
    rw [List.length_append]
    have := h.log
    omega
/-- what a tick leaves -/
structure Ticked (s s' : Srv) : Prop where
  ok : s'.Ok
  M : s'.M = s.M
  c : s'.c = s.c
  now : s'.now = s.now + 1
  records : s'.records = s.records + 1
  synced : s'.synced = s.synced
  replay : s'.replay = s.replay
  nreqs : s'.reqs.length = s.reqs.length
  log : s'.log = s.log ++ recF s.records [4]
theorem tick_all (Q : Nat → Req → Prop) (s : Srv) (hs : s.Ok) (hnow : s.now ≤ s.records) (hrec : s.records ≤ 9000) (hc : Closed s.M (s.now + 1) Q) :
    Ticked s s.tick ∧ (∀ i, Q i (s.req i) → i < s.reqs.length → ∃ r, Q i r ∧ s.tick.req i = settleReq s.tick.log.length r) ∧ ∀ i, i < s.reqs.length → (s.tick.req i).ended = false → (s.now : Int) + 1 ≤ (s.tick.req i).deadline := by
  have h0 := hs.later hnow
  obtain ⟨a1, a2, a3, a4⟩ := late_all Q ({ s with now := s.now + 1 } : Srv).open_ { s with now := s.now + 1 } h0 (fun i hi => (Srv.open_mem _ i).1 hi |>.1) (Srv.open_nodup _) (fun i hi => (Srv.open_mem _ i).1 hi |>.2) hc
  have e1 : s.tick1 = ({ s with now := s.now + 1 } : Srv).open_.foldl Srv.late1 { s with now := s.now + 1 } := rfl
  rw [← e1] at a1 a2 a3 a4
  have hop : ∀ i, i < s.reqs.length → (s.tick1.req i).ended = false → (s.now : Int) + 1 ≤ (s.tick1.req i).deadline := by
    intro i hi he
    have := a4 i ?_ he
    · have e : (({ s with now := s.now + 1 } : Srv).now : Int) = (s.now : Int) + 1 := by show ((s.now + 1 : Nat) : Int) = _; omega
      rwa [e] at this
    · by_cases e : (s.req i).ended = false
      · exact Or.inl ((Srv.open_mem _ i).2 ⟨hi, e⟩)
      · exact Or.inr fun h => absurd h e
  have hc1 : Closed s.tick1.M s.tick1.now Q := by rw [a2.M, a2.now]; exact hc
  obtain ⟨b1, b2, b3⟩ := workL_all Q s.tick1.open_ 0 s.tick1 a1 (fun i hi => (Srv.open_mem _ i).1 hi |>.1) (Srv.open_nodup _) (fun i hi => (Srv.open_mem _ i).1 hi |>.2) hc1
  obtain ⟨-, -, b4⟩ := workL_all (fun _ r => r.ended = false → (s.now : Int) + 1 ≤ r.deadline) s.tick1.open_ 0 s.tick1 a1 (fun i hi => (Srv.open_mem _ i).1 hi |>.1) (Srv.open_nodup _) (fun i hi => (Srv.open_mem _ i).1 hi |>.2)
    ⟨fun i r r' h hq he => by obtain ⟨-, d, -, -, -, -, -, e, -⟩ := core_id h; rw [e] at he; rw [d]; exact hq he, fun i r h1 h2 hq he => hq he, fun i r h1 h2 hq he => (by cases he), fun i r _ h hq he => (by cases he)⟩
  have e2 : s.tick2 = Srv.workL s.tick1.open_ 0 s.tick1 := rfl
  have ht : s.tick = (s.tick2.rec_ [4]).settle := rfl
  rw [← e2] at b1 b2 b3 b4
  rw [ht]
  have st : Stat { s with now := s.now + 1 } s.tick2 := a2.trans b2
  have b5 : ∀ i, i < s.reqs.length → (s.tick2.req i).ended = false → (s.now : Int) + 1 ≤ (s.tick2.req i).deadline := fun i hi => b4 i (hop i hi)
  have b6 : ∀ i, Q i (s.req i) → Q i (s.tick2.req i) := fun i hq => b3 i (a3 i hq)
  clear a1 a2 a3 a4 e1 hop hc1 b2 b3 b4 e2 ht
  generalize s.tick2 = t at *
  obtain ⟨sM, sc, sn, sl, sr, ss, sy, sq⟩ := st
  have er : t.records = s.records := sr
  have hn : t.reqs.length = s.reqs.length := sq
  have c1 := b1.recd [4] (by rw [recF_four]; omega) (by rw [er]; omega)
  have hreq : ∀ i, i < s.reqs.length → (t.rec_ [4]).settle.req i = settleReq (t.rec_ [4]).log.length (t.req i) := fun i hi => (t.rec_ [4]).settle_req i (by show i < t.reqs.length; rw [hn]; exact hi)
  refine ⟨⟨c1.settle, sM, sc, sn, ?_, ss, sy, ?_, ?_⟩, fun i hq hi => ?_, fun i hi he => ?_⟩
  · show t.records + 1 = _
    rw [er]
  · show (t.reqs.map _).length = _
    rw [List.length_map, hn]
  · show t.log ++ recF t.records [4] = _
    rw [er, sl]
  · rw [hreq i hi]
    exact ⟨_, b6 i hq, rfl⟩
  · rw [hreq i hi] at he ⊢
    have e3 : (settleReq (t.rec_ [4]).log.length (t.req i)).ended = (t.req i).ended := by unfold settleReq; split <;> rfl
    have e4 : (settleReq (t.rec_ [4]).log.length (t.req i)).deadline = (t.req i).deadline := by unfold settleReq; split <;> rfl
    rw [e3] at he
    rw [e4]
    exact b5 i hi he

/-! ### a new request -/
theorem find_iff (s : Srv) (id : Int) : s.find id = none ↔ ∀ i, i < s.reqs.length → (s.req i).id ≠ id := by
  unfold Srv.find
  rw [List.findIdx?_eq_none_iff]
  constructor
  · intro h i hi
    have := h _ (List.getElem_mem hi)
    have e := s.req_get i hi
    rw [List.getElem?_eq_getElem hi] at e
    injection e with e
    rw [e] at this
    simpa using this
  · intro h r hr
    obtain ⟨i, hi, rfl⟩ := List.mem_iff_getElem.1 hr
    have e := s.req_get i hi
    rw [List.getElem?_eq_getElem hi] at e
    injection e with e
    rw [e]
    simpa using h i hi
theorem add_req (s : Srv) (r : Req) (i : Nat) : (({ s with reqs := s.reqs ++ [r] } : Srv).req i) = if i < s.reqs.length then s.req i else if i = s.reqs.length then r else zeroReq := by
  unfold Srv.req
  simp only [List.getD_eq_getElem?_getD, List.getElem?_append]
  split
  · rfl
  · split
    · rename_i h; subst h; simp
    · rename_i h1 h2
      rw [List.getElem?_eq_none (by simp; omega)]
      rfl
theorem flat4_length (l : List Int) : (l.flatMap fun n => lowF n 4).length = 4 * l.length := by
  induction l with
  | nil => rfl
  | cons a l ih => rw [List.flatMap_cons, List.length_append, ih, lowF_length]; simp; omega
theorem recF_ask (n : Nat) (r : Ask) : (recF n (askWords r)).length = 31 + 4 * r.prompt.length := by
  rw [askWords_eq]
  simp only [recF, sealF_length, List.length_append, lowF_length, bodyF_length]
  simp
  omega
/-- ids of the requests: few -/
def Srv.Ids (s : Srv) : Prop := ∀ i, i < s.reqs.length → 1 ≤ (s.req i).id ∧ (s.req i).id ≤ 9
theorem nodup_few (m : Nat) : ∀ l : List Nat, l.Nodup → (∀ x ∈ l, x < m) → l.length ≤ m := by
  induction m with
  | zero =>
    intro l _ h
    cases l with
    | nil => simp
    | cons a l => exact absurd (h a List.mem_cons_self) (by omega)
  | succ m ih =>
    intro l hn h
    by_cases hm : m ∈ l
    · have h1 := ih (l.erase m) (hn.erase m) (fun x hx => by
        have := h x (List.mem_of_mem_erase hx)
        have : x ≠ m := fun e => by subst e; exact (List.Nodup.not_mem_erase hn) hx
        omega)
      rw [List.length_erase_of_mem hm] at h1
      omega
    · have := ih l hn (fun x hx => by
        have := h x hx
        have : x ≠ m := fun e => by subst e; exact hm hx
        omega)
      omega
theorem ids_few {n : Nat} (f : Nat → Int) (hr : ∀ i, i < n → 1 ≤ f i ∧ f i ≤ 9) (hd : ∀ i j, i < n → j < n → f i = f j → i = j) : n ≤ 9 := by
  have h1 : ((List.range n).map fun i => (f i).toNat).Nodup := by
    rw [List.nodup_iff_pairwise_ne, List.pairwise_map, List.pairwise_iff_getElem]
    intro i j hi hj hij e
    simp only [List.getElem_range, List.length_range] at hi hj e
    have := hr i hi
    have := hr j hj
    have := hd i j hi hj (by omega)
    omega
  have h2 : ∀ x ∈ (List.range n).map fun i => (f i).toNat, x < 10 ∧ 1 ≤ x := by
    intro x hx
    obtain ⟨i, hi, rfl⟩ := List.mem_map.1 hx
    have := hr i (List.mem_range.1 hi)
    omega
  have := nodup_few 10 _ h1 (fun x hx => (h2 x hx).1)
  have h3 : ¬ 0 ∈ (List.range n).map fun i => (f i).toNat := fun h => by have := (h2 0 h).2; omega
  have h4 := nodup_few 10 (0 :: (List.range n).map fun i => (f i).toNat) (List.nodup_cons.2 ⟨h3, h1⟩) (fun x hx => by
    rcases List.mem_cons.1 hx with e | e
    · omega
    · exact (h2 x e).1)
  simp at h4
  omega
theorem submit_ok (s : Srv) (hs : s.Ok) (hids : s.Ids) (hrec : s.records ≤ 9000) (r : Ask) (hr : r.id ≤ 9) (h0 : s.accErr r = 0) :
    (s.submit r).1.Ok ∧ (s.submit r).1.Ids ∧ (s.submit r).1 = ({ s with reqs := s.reqs ++ [newReq r] } : Srv).rec_ (askWords r) := by
  obtain ⟨a1, a2, a3, a4, a5, a6⟩ := accErr_ok h0
  have e : (s.submit r).1 = ({ s with reqs := s.reqs ++ [newReq r] } : Srv).rec_ (askWords r) := by unfold Srv.submit; rw [if_pos h0]
  have hfn := (find_iff s r.id).1 a4
  have hlen : ({ s with reqs := s.reqs ++ [newReq r] } : Srv).reqs.length = s.reqs.length + 1 := by simp
  have hd : ({ s with reqs := s.reqs ++ [newReq r] } : Srv).Distinct := by
    intro i j hi hj eq
    rw [hlen] at hi hj
    rw [add_req, add_req] at eq
    by_cases h1 : i < s.reqs.length
    · rw [if_pos h1] at eq
      by_cases h2 : j < s.reqs.length
      · rw [if_pos h2] at eq; exact hs.distinct i j h1 h2 eq
      · rw [if_neg h2, if_pos (by omega)] at eq; exact absurd eq (hfn i h1)
    · rw [if_neg h1, if_pos (by omega)] at eq
      by_cases h2 : j < s.reqs.length
      · rw [if_pos h2] at eq; exact absurd eq.symm (hfn j h2)
      · omega
  have hid : ({ s with reqs := s.reqs ++ [newReq r] } : Srv).Ids := by
    intro i hi
    rw [hlen] at hi
    rw [add_req]
    by_cases h1 : i < s.reqs.length
    · rw [if_pos h1]; exact hids i h1
    · rw [if_neg h1, if_pos (by omega)]
      exact ⟨a1.1, hr⟩
  have hn9 := ids_few (n := s.reqs.length + 1) (fun i => (({ s with reqs := s.reqs ++ [newReq r] } : Srv).req i).id) (fun i hi => hid i (by rw [hlen]; exact hi)) (fun i j hi hj e => hd i j (by rw [hlen]; exact hi) (by rw [hlen]; exact hj) e)
  have htok : ∀ t ∈ r.prompt, 0 ≤ t ∧ t < (s.M.vocab : Int) := by
    intro t ht
    rw [List.any_eq_false] at a3
    have := a3 t ht
    unfold badTok at this
    simp at this
    omega
  have hok : ({ s with reqs := s.reqs ++ [newReq r] } : Srv).Ok := by
    refine ⟨hs.M, hs.kind, hs.c, hs.npages, by rw [hlen]; omega, hd, fun i hi => ?_, hs.ptok, hs.records, hs.now, hs.log⟩
    rw [hlen] at hi
    rw [add_req]
    by_cases h1 : i < s.reqs.length
    · rw [if_pos h1]; exact (hs.reqs i h1).move rfl rfl rfl (Nat.le_refl _)
    · rw [if_neg h1, if_pos (by omega)]
      obtain ⟨i1, i2, i3, i4, i5, i6, i7, i8⟩ := a1
      exact ⟨⟨i1, i2⟩, ⟨i3, i4⟩, a2, ⟨i5, i6⟩, ⟨i7, i8⟩, (by show ((0 : Nat) : Int) ≤ r.most; omega), fun _ => (by show ((0 : Nat) : Int) < r.most; omega), rfl, htok, fun k hk => (by cases hk), Nat.zero_le _, fun h => absurd (Nat.zero_mod _) h, Nat.le_refl _,
        (by show (-1 : Int) ≤ 0; omega), (by show (0 : Int) ≤ _; omega)⟩
  rw [e]
  exact ⟨hok.recd _ (by rw [recF_ask]; omega) (by show s.records ≤ _; omega), hid, rfl⟩
end Go.Proofs.YtedkfehdfmimoaaGreat

namespace Go.Proofs.YtedkfehdfmimoaaGreat
open Go.RowKit

def zigF (n : Int) : Nat := if n < 0 then (-2 * n - 1).toNat else (2 * n).toNat
def varF : Nat → Nat → List Int
  | 0, u => [(u : Int) % 256]
  | f + 1, u => if u < 128 then [(u : Int) % 256] else bits .or .u8 ((u : Int) % 256) 128 :: varF f (u / 128)
def numF (n : Int) : List Int := varF 10 (zigF n)
theorem varF_last (f u : Nat) (h : u < 128) : varF f u = [(u : Int) % 256] := by
  cases f with
  | zero => rfl
  | succ f => simp [varF, h]
theorem varF_more (f u : Nat) (h : ¬ u < 128) : varF (f + 1) u = bits .or .u8 ((u : Int) % 256) 128 :: varF f (u / 128) := by simp [varF, h]
theorem varF_bytes : ∀ f u, isBytes (varF f u) := by
  intro f
  induction f with
  | zero => intro u x hx; simp [varF] at hx; omega
  | succ f ih =>
    intro u x hx
    unfold varF at hx
    split at hx
    · simp at hx; omega
    · rcases List.mem_cons.1 hx with rfl | hx
      · exact ⟨bits_lo_u8 _ _ _, bits_hi_u8 _ _ _⟩
      · exact ih _ x hx
theorem varF_length : ∀ f u, (varF f u).length ≤ f + 1 := by
  intro f
  induction f with
  | zero => intro u; simp [varF]
  | succ f ih =>
    intro u
    unfold varF
    split
    · simp
    · have := ih (u / 128); simp; omega
/-- a writer at p; the blocks of R are not its own -/
structure Wr (w : World) (R : Nat → Prop) (p : Nat) (xs : List Int) : Prop where
  blk : ∃ v, Blk w p 130 #[v] ∧ Own w (fun g => ¬ R g) 5 1 v xs.length (bytes xs)
  base : ¬ R p
theorem Wr.fresh {w w' : World} {R : Nat → Prop} {p : Nat} {xs : List Int} (h : Wr w R p xs) (hb : Below w.heap.size w w') : Wr w' R p xs := by
  obtain ⟨v, h1, h2⟩ := h.blk
  exact ⟨⟨v, h1.below hb h1.lt, h2.fresh hb⟩, h.base⟩
theorem Wr.push {w W w' : World} {R : Nat → Prop} {p : Nat} {A : Option Addr} {c : Nat} {xs : List Int} {o : Obj} (hW : W = w.alloc o) (hblk : Blk w p 130 #[.slice A xs.length c]) (hown : Own w (fun g => ¬ R g) 5 1 (.slice A xs.length c) xs.length (bytes xs)) (hbp : ¬ R p) (hR : ∀ g, R g → g < w.heap.size) (x : Int) {A' : Option Addr} {n c' : Nat} (hn : n = xs.length + 1)
    (happ : Appended W w' (fun g => ¬ R g) 5 1 (.slice A xs.length c) (.slice A' n c') n (bytes xs ++ bytes [x])) :
    Blk w' p 130 #[.slice A xs.length c] ∧ Wr (w'.setCell ⟨p, 0, none⟩ (.slice A' n c')) R p (xs ++ [x]) ∧ Keeps (fun g => ¬ R g) w (w'.setCell ⟨p, 0, none⟩ (.slice A' n c')) := by
  subst hW
  subst hn
  have hpz := hblk.lt
  have hne := hown.ne_blk hblk (by decide)
  have kb : Blk w' p 130 #[.slice A xs.length c] := (hblk.alloc _).grown happ.2.1 (fun e => hne e.symm)
  have o1 := happ.1.more (T' := fun g => ¬ R g) fun g _ h => by
    rcases h with h | h
    · exact h
    · intro hr
      have := hR g hr
      simp at h
      omega
  have ne2 := o1.ne_blk kb (by decide)
  have o3 : Own w' (fun g => ¬ R g ∧ g ≠ p) 5 1 (.slice A' (xs.length + 1) c') (xs.length + 1) (bytes xs ++ bytes [x]) := ⟨o1.1, fun g hg => ⟨o1.2 g hg, fun e => ne2 (e ▸ hg)⟩⟩
  have hk : Keeps (fun g => ¬ R g) w w' := ((Keeps.refl (fun g => ¬ R g) w).alloc o).grown happ.2.1 (fun k e _ => hown.2 k e)
  refine ⟨kb, ⟨⟨_, kb.set_ 0 _, ?_⟩, hbp⟩, Keeps.setCell hk (p := ⟨p, 0, none⟩) (fun _ => hbp) _⟩
  rw [bytes_append, List.length_append]
  exact (o3.setCell (p := ⟨p, 0, none⟩) (fun h => h.2 rfl) _).more fun g _ h => h.1
set_option maxRecDepth 100000 in
set_option maxHeartbeats 1000000 in
theorem number_w (w : World) (R : Nat → Prop) (p : Nat) (xs : List Int) (h : Wr w R p xs) (hR0 : ∀ g, R g → g < w.heap.size) (n : Int) (hn : -2147483648 ≤ n ∧ n ≤ 2147483648) (hl : xs.length ≤ 1000000) :
    Calls Tryz.prog 102 #[.pointer (some ⟨p, 0, none⟩), .int .i64 n] w fun e w' => e = .returned (.tuple #[]) ∧ Wr w' R p (xs ++ numF n) ∧ Keeps (fun g => ¬ R g) w w' := by
  obtain ⟨i0, hi, hz0, hz1, hz2⟩ := info_parts u8_info
  obtain ⟨n1, n2⟩ := hn
  have HZ : Hid (zigF n = if n < 0 then (-2 * n - 1).toNat else (2 * n).toNat) := Lib.hid rfl
  have HNF : Hid (numF n = varF 10 (zigF n)) := Lib.hid rfl
  generalize numF n = nf at *
  generalize zigF n = z at *
  have HH := Lib.hid h
  have HR0 := Lib.hid hR0
  clear h hR0
  have hzb : z < 8589934592 := by have := HZ.out; split at this <;> omega
  by_cases hneg : n < 0
  · have hz : ((z : Nat) : Int) = -2 * n - 1 := by have := HZ.out; rw [if_pos hneg] at this; omega
    go_enter Tryz.func102, Tryz.ntmps102
    go_wp2_with fail
    have HST : Hid ([] ++ varF 10 z = nf ∧ z < 128 ^ (10 + 1)) := by
      refine And.intro (by rw [HNF.out]; rfl) ?_
      have : (128 : Nat) ^ (10 + 1) = 151115727451828646838272 := by decide
      omega
    go_loopg [4] 10 (fun f x wr => ∃ (u : Nat) (done : List Int), x = .int .u64 u ∧ Wr wr R p (xs ++ done) ∧ Keeps (fun g => ¬ R g) w wr ∧ done.length + f ≤ 10 ∧ u < 8589934592 ∧ Hid (done ++ varF f u = nf ∧ u < 128 ^ (f + 1)))
    case atStart => exact ⟨z, [], by rw [hz], by rw [List.append_nil]; exact HH.out, Keeps.refl _ _, by simp, hzb, HST.out⟩
    obtain ⟨u, done, rfl, hw, hb, hdl, hub, HX⟩ := hrel
    obtain ⟨⟨v, hblk, hown⟩, hbp⟩ := hw
    obtain ⟨A, c, rfl, -, -⟩ := hown.shape
    have hwz := hb.size
    obtain ⟨N, hN⟩ : ∃ N, N = (xs ++ done).length := ⟨_, rfl⟩
    have hlen : N ≤ 1000010 := by rw [hN, List.length_append]; omega
    have hpush : ∀ (x : Int) A' c' w', Appended (wr.alloc (.cells #[.int .u8 x] 5)) w' (fun g => ¬ R g) 5 1 (.slice A N c) (.slice A' (N + 1) c') (N + 1) (bytes (xs ++ done) ++ bytes [x]) →
        Blk w' p 130 #[.slice A N c] ∧ Wr (w'.setCell ⟨p, 0, none⟩ (.slice A' (N + 1) c')) R p ((xs ++ done) ++ [x]) ∧ Keeps (fun g => ¬ R g) wr (w'.setCell ⟨p, 0, none⟩ (.slice A' (N + 1) c')) := by
      intro x A' c' w' h
      rw [hN] at h ⊢
      exact Wr.push rfl hblk hown hbp (fun g hg => Nat.lt_of_lt_of_le (HR0.out g hg) hwz) x rfl h
    rw [← hN] at hblk hown
    have c0 : wr.cell? ⟨p, 0, none⟩ = some (.slice A N c) := hblk.cell 0
    have hpz := hblk.lt
    have HPUSH := Lib.hid hpush
    have HB := Lib.hid hb
    have HOWN := Lib.hid hown
    clear hb hown hblk hN hpush hz hneg
    by_cases hlt : u < 128
    · have hlt' : (u : Int) < 128 := by omega
      have HLT := Lib.hid hlt
      go_wp2_with (first | (at_builtin; go_must (refine wpList_append_any _ rfl _ _ 130 rfl 5 i0 _ 1 1 Tryz.underlying130 hi hz0 hz1 hz2 rfl (by omega) (.slice A N c) _ _ rfl (HOWN.out.alloc _) _ 1 1 _ rfl (bytes_new _ _ [_] 1 rfl) (bytes_one _) (by unfold maxLen; omega) (by omega) ?_); intro v' w2 happ; obtain ⟨A', c', rfl, -, -⟩ := happ.1.shape; obtain ⟨kb, hwr, hbl⟩ := HPUSH.out _ _ _ _ happ; have kc := kb.cell 0; have kf := kb.frozen 0))
      go_end0
      refine ⟨rfl, ?_, HB.out.tr hbl⟩
      have e : nf = done ++ [(u : Int) % 256] := by rw [← HX.out.1, varF_last _ _ HLT.out]
      rw [e, ← List.append_assoc, show (u : Int) % 256 = u by omega]
      exact hwr
    · have hlt' : (128 : Int) ≤ u := by omega
      have HLT := Lib.hid hlt
      clear hlt
      go_wp2_with (first | (at_builtin; go_must (refine wpList_append_any _ rfl _ _ 130 rfl 5 i0 _ 1 1 Tryz.underlying130 hi hz0 hz1 hz2 rfl (by omega) (.slice A N c) _ _ rfl (HOWN.out.alloc _) _ 1 1 _ rfl (bytes_new _ _ [_] 1 rfl) (bytes_one _) (by unfold maxLen; omega) (by omega) ?_); intro v' w2 happ; obtain ⟨A', c', rfl, -, -⟩ := happ.1.shape; obtain ⟨kb, hwr, hbl⟩ := HPUSH.out _ _ _ _ happ; have kc := kb.cell 0; have kf := kb.frozen 0))
      have hgk : 1 ≤ gk := by
        rcases Nat.eq_zero_or_pos gk with h | h
        · have := HX.out.2; rw [h] at this; simp at this; omega
        · exact h
      go_roundg (gk - 1)
      case measure => omega
      case rel =>
        refine ⟨u / 128, done ++ [bits .or .u8 ((u : Int) % 256) 128], ?_, ?_, HB.out.tr hbl, by simp; omega, by omega, ?_⟩
        · rw [Int.natCast_ediv]; rfl
        · rw [← List.append_assoc]; exact hwr
        · refine And.intro ?_ ?_
          · rw [List.append_assoc]
            have := HX.out.1
            rw [show gk = (gk - 1) + 1 by omega, varF_more _ _ HLT.out] at this
            exact this
          · have := HX.out.2
            rw [show gk + 1 = (gk - 1 + 1) + 1 by omega, Nat.pow_succ] at this
            omega
  · have hz : ((z : Nat) : Int) = 2 * n := by have := HZ.out; rw [if_neg hneg] at this; omega
    go_enter Tryz.func102, Tryz.ntmps102
    go_wp2_with fail
    have HST : Hid ([] ++ varF 10 z = nf ∧ z < 128 ^ (10 + 1)) := by
      refine And.intro (by rw [HNF.out]; rfl) ?_
      have : (128 : Nat) ^ (10 + 1) = 151115727451828646838272 := by decide
      omega
    go_loopg [4] 10 (fun f x wr => ∃ (u : Nat) (done : List Int), x = .int .u64 u ∧ Wr wr R p (xs ++ done) ∧ Keeps (fun g => ¬ R g) w wr ∧ done.length + f ≤ 10 ∧ u < 8589934592 ∧ Hid (done ++ varF f u = nf ∧ u < 128 ^ (f + 1)))
    case atStart => exact ⟨z, [], by rw [hz], by rw [List.append_nil]; exact HH.out, Keeps.refl _ _, by simp, hzb, HST.out⟩
    obtain ⟨u, done, rfl, hw, hb, hdl, hub, HX⟩ := hrel
    obtain ⟨⟨v, hblk, hown⟩, hbp⟩ := hw
    obtain ⟨A, c, rfl, -, -⟩ := hown.shape
    have hwz := hb.size
    obtain ⟨N, hN⟩ : ∃ N, N = (xs ++ done).length := ⟨_, rfl⟩
    have hlen : N ≤ 1000010 := by rw [hN, List.length_append]; omega
    have hpush : ∀ (x : Int) A' c' w', Appended (wr.alloc (.cells #[.int .u8 x] 5)) w' (fun g => ¬ R g) 5 1 (.slice A N c) (.slice A' (N + 1) c') (N + 1) (bytes (xs ++ done) ++ bytes [x]) →
        Blk w' p 130 #[.slice A N c] ∧ Wr (w'.setCell ⟨p, 0, none⟩ (.slice A' (N + 1) c')) R p ((xs ++ done) ++ [x]) ∧ Keeps (fun g => ¬ R g) wr (w'.setCell ⟨p, 0, none⟩ (.slice A' (N + 1) c')) := by
      intro x A' c' w' h
      rw [hN] at h ⊢
      exact Wr.push rfl hblk hown hbp (fun g hg => Nat.lt_of_lt_of_le (HR0.out g hg) hwz) x rfl h
    rw [← hN] at hblk hown
    have c0 : wr.cell? ⟨p, 0, none⟩ = some (.slice A N c) := hblk.cell 0
    have hpz := hblk.lt
    have HPUSH := Lib.hid hpush
    have HB := Lib.hid hb
    have HOWN := Lib.hid hown
    clear hb hown hblk hN hpush hz hneg
    by_cases hlt : u < 128
    · have hlt' : (u : Int) < 128 := by omega
      have HLT := Lib.hid hlt
      go_wp2_with (first | (at_builtin; go_must (refine wpList_append_any _ rfl _ _ 130 rfl 5 i0 _ 1 1 Tryz.underlying130 hi hz0 hz1 hz2 rfl (by omega) (.slice A N c) _ _ rfl (HOWN.out.alloc _) _ 1 1 _ rfl (bytes_new _ _ [_] 1 rfl) (bytes_one _) (by unfold maxLen; omega) (by omega) ?_); intro v' w2 happ; obtain ⟨A', c', rfl, -, -⟩ := happ.1.shape; obtain ⟨kb, hwr, hbl⟩ := HPUSH.out _ _ _ _ happ; have kc := kb.cell 0; have kf := kb.frozen 0))
      go_end0
      refine ⟨rfl, ?_, HB.out.tr hbl⟩
      have e : nf = done ++ [(u : Int) % 256] := by rw [← HX.out.1, varF_last _ _ HLT.out]
      rw [e, ← List.append_assoc, show (u : Int) % 256 = u by omega]
      exact hwr
    · have hlt' : (128 : Int) ≤ u := by omega
      have HLT := Lib.hid hlt
      clear hlt
      go_wp2_with (first | (at_builtin; go_must (refine wpList_append_any _ rfl _ _ 130 rfl 5 i0 _ 1 1 Tryz.underlying130 hi hz0 hz1 hz2 rfl (by omega) (.slice A N c) _ _ rfl (HOWN.out.alloc _) _ 1 1 _ rfl (bytes_new _ _ [_] 1 rfl) (bytes_one _) (by unfold maxLen; omega) (by omega) ?_); intro v' w2 happ; obtain ⟨A', c', rfl, -, -⟩ := happ.1.shape; obtain ⟨kb, hwr, hbl⟩ := HPUSH.out _ _ _ _ happ; have kc := kb.cell 0; have kf := kb.frozen 0))
      have hgk : 1 ≤ gk := by
        rcases Nat.eq_zero_or_pos gk with h | h
        · have := HX.out.2; rw [h] at this; simp at this; omega
        · exact h
      go_roundg (gk - 1)
      case measure => omega
      case rel =>
        refine ⟨u / 128, done ++ [bits .or .u8 ((u : Int) % 256) 128], ?_, ?_, HB.out.tr hbl, by simp; omega, by omega, ?_⟩
        · rw [Int.natCast_ediv]; rfl
        · rw [← List.append_assoc]; exact hwr
        · refine And.intro ?_ ?_
          · rw [List.append_assoc]
            have := HX.out.1
            rw [show gk = (gk - 1) + 1 by omega, varF_more _ _ HLT.out] at this
            exact this
          · have := HX.out.2
            rw [show gk + 1 = (gk - 1 + 1) + 1 by omega, Nat.pow_succ] at this
            omega

def listTo (l : List Int) (k : Nat) : List Int := numF l.length ++ (l.take k).flatMap numF
def listF (l : List Int) : List Int := numF l.length ++ l.flatMap numF
theorem listTo_succ (l : List Int) (k : Nat) (h : k < l.length) : listTo l (k + 1) = listTo l k ++ numF l[k] := by
  unfold listTo
  rw [List.take_succ_eq_append_getElem h, List.flatMap_append]
  simp
theorem numF_length (n : Int) : (numF n).length ≤ 11 := varF_length _ _
theorem flatNum_length (l : List Int) : (l.flatMap numF).length ≤ 11 * l.length := by
  induction l with
  | nil => simp
  | cons x l ih => simp only [List.flatMap_cons, List.length_append, List.length_cons]; have := numF_length x; omega
theorem listTo_length (l : List Int) (k : Nat) : (listTo l k).length ≤ 11 + 11 * l.length := by
  unfold listTo
  rw [List.length_append]
  have h1 := numF_length l.length
  have h2 := flatNum_length (l.take k)
  have h3 : (l.take k).length ≤ l.length := List.length_take_le' _ _
  omega
theorem listF_length (l : List Int) : (listF l).length ≤ 11 + 11 * l.length := by
  have := listTo_length l l.length
  unfold listTo at this
  rw [List.take_length] at this
  exact this
set_option maxRecDepth 100000 in
set_option maxHeartbeats 1000000 in
theorem list_w (w : World) (R : Nat → Prop) (p : Nat) (xs : List Int) (h : Wr w R p xs) (hR0 : ∀ g, R g → g < w.heap.size) (T : Nat → Prop) (v : Value) (l : List Int) (hv : Slc w T v l) (hT : ∀ b, T b → R b) (hr : inRange (-2147483648) 2147483647 l) (hl : xs.length ≤ 500000) (hll : l.length ≤ 10000) :
    Calls Tryz.prog 104 #[.pointer (some ⟨p, 0, none⟩), v, .func (.func 102) #[.pointer (some ⟨p, 0, none⟩)] #[]] w fun e w' => e = .returned (.tuple #[]) ∧ Wr w' R p (xs ++ listF l) ∧ Keeps (fun g => ¬ R g) w w' := by
  obtain ⟨A, c, rfl⟩ := hv.len
  have HN1 := Lib.hid (number_w w R p xs h hR0 (l.length : Int) ⟨by omega, by omega⟩ (by omega))
  have HV := Lib.hid hv
  have HR := Lib.hid hr
  have HR0 := Lib.hid hR0
  obtain ⟨n, hn⟩ : ∃ n, n = l.length := ⟨_, rfl⟩
  rw [← hn] at hv HN1 HV hll
  have HN := Lib.hid hn
  rw [← hn]
  clear h hr hn hv hR0
  go_enter Tryz.func104, Tryz.ntmps104
  go_wp2_with fail
  refine HN1.out.mono ?_
  rintro e w1 ⟨rfl, hw1, hb1⟩
  have hst : Wr w1 R p (xs ++ listTo l 0) := by
    unfold listTo
    rw [← HN.out]
    simpa using hw1
  have HST := Lib.hid hst
  have HB1 := Lib.hid hb1
  clear hw1 hb1 hst
  go_wp2_with fail
  go_loopw [14] (fun i wr => ∃ k : Nat, k ≤ n ∧ i = .int .i64 k ∧ Wr wr R p (xs ++ listTo l k) ∧ Keeps (fun g => ¬ R g) w wr) (fun i _ => n - (intOf i).toNat)
  case atStart => exact ⟨0, by omega, rfl, HST.out, HB1.out⟩
  obtain ⟨k, hk, rfl, hw, hb⟩ := hrel
  by_cases hlt : k < n
  · have hkl : k < l.length := by rw [← HN.out]; exact hlt
    have hs := HV.out.keeps hb (fun i h hn => hn (hT i h))
    obtain ⟨-, ad, rfl, hc⟩ := hs.at_ k hkl
    have hx := HR.out _ (List.getElem_mem hkl)
    have HSU := Lib.hid (listTo_succ l k hkl)
    generalize l[k] = x at *
    have HNX := Lib.hid (number_w wr R p _ hw (fun g hg => Nat.lt_of_lt_of_le (HR0.out g hg) hb.size) x ⟨by omega, by omega⟩ (by rw [List.length_append]; have := listTo_length l k; rw [← HN.out] at this; omega))
    have HB := Lib.hid hb
    clear hs hx hw hb hkl
    go_wp2_with fail
    refine HNX.out.mono ?_
    rintro e w2 ⟨rfl, hw2, hb2⟩
    have HW2 := Lib.hid hw2
    have HB2 := Lib.hid (HB.out.tr hb2)
    clear hw2 hb2
    go_wp2_with fail
    go_roundw
    case rel => exact ⟨k + 1, by omega, by go_num, by rw [HSU.out, ← List.append_assoc]; exact HW2.out, HB2.out⟩
    case measure => simp [intOf]; omega
  · obtain rfl : k = n := by omega
    have HW := Lib.hid hw
    have HB := Lib.hid hb
    clear hw hb
    go_wp2_with fail
    go_end0
    refine ⟨rfl, ?_, HB.out⟩
    have e : listTo l k = listF l := by unfold listTo listF; rw [HN.out, List.take_length]
    rw [← e]; exact HW.out
end Go.Proofs.YtedkfehdfmimoaaGreat

namespace Go.Proofs.YtedkfehdfmimoaaGreat
open Go.RowKit

def Model.ls (M : Model) : List (List Int) := [M.cuts, M.embed, M.place, M.mix, M.out, M.soft, M.odds]
def Model.ns (M : Model) : List Int := [M.kind, M.vocab, M.width, M.top]
def modelBytes (M : Model) : List Int := M.ns.flatMap numF ++ M.ls.flatMap listF
theorem Wr.moreR {w : World} {R R' : Nat → Prop} {p : Nat} {xs : List Int} (h : Wr w R p xs) (hR : ∀ g, g < w.heap.size → R' g → R g) : Wr w R' p xs := by
  obtain ⟨⟨v, h1, h2⟩, h3⟩ := h
  exact ⟨⟨v, h1, h2.more fun g hg hn hr => hn (hR g hg hr)⟩, fun hr => h3 (hR p h1.lt hr)⟩
theorem MSl.rows {w : World} {T : Nat → Prop} {M : Model} {v4 v5 v6 v7 v8 v9 v10 : Value} (h : MSl w T M v4 v5 v6 v7 v8 v9 v10) : Rows w T [v4, v5, v6, v7, v8, v9, v10] M.ls := by
  have r := (((((((Rows.nil_ w T).snoc h.cuts).snoc h.embed).snoc h.place).snoc h.mix).snoc h.out).snoc h.soft).snoc h.odds
  exact r
set_option maxRecDepth 100000 in
set_option maxHeartbeats 1000000 in
theorem lists_any (w : World) (b : Nat) (cs : Array Value) (hb : Blk w b 27 cs) :
    Calls Tryz.prog 103 #[.pointer (some ⟨b, 0, none⟩)] w fun e w' => e = .returned (.slice (some ⟨w.heap.size, 0, none⟩) 7 7) ∧ w' = (w.drew.alloc (.cells #[.pointer (some ⟨b, 4, none⟩), .pointer (some ⟨b, 5, none⟩), .pointer (some ⟨b, 6, none⟩), .pointer (some ⟨b, 7, none⟩), .pointer (some ⟨b, 8, none⟩), .pointer (some ⟨b, 9, none⟩), .pointer (some ⟨b, 10, none⟩)] 64)) := by
  have hlt := hb.lt
  go_enter Tryz.func103, Tryz.ntmps103
  go_wp2_with fail
  go_still_tail 21, (by kernel_rfl)
  change wpList _ _ _ _ _ w.drew
  go_wp2_with fail
  go_ret
  exact ⟨rfl, rfl⟩

def nsTo (M : Model) (k : Nat) : List Int := (M.ns.take k).flatMap numF
def lsTo (M : Model) (k : Nat) : List Int := M.ns.flatMap numF ++ (M.ls.take k).flatMap listF
theorem nsTo_succ (M : Model) (k : Nat) (h : k < M.ns.length) : nsTo M (k + 1) = nsTo M k ++ numF M.ns[k] := by
  unfold nsTo
  rw [List.take_succ_eq_append_getElem h, List.flatMap_append]
  simp
theorem lsTo_succ (M : Model) (k : Nat) (h : k < M.ls.length) : lsTo M (k + 1) = lsTo M k ++ listF M.ls[k] := by
  unfold lsTo
  rw [List.take_succ_eq_append_getElem h, List.flatMap_append]
  simp
theorem nsTo_length (M : Model) (k : Nat) : (nsTo M k).length ≤ 44 := by
  unfold nsTo
  have h1 := flatNum_length (M.ns.take k)
  have h2 : (M.ns.take k).length ≤ M.ns.length := List.length_take_le' _ _
  have h3 : M.ns.length = 4 := rfl
  omega
theorem flatList_length (L : List (List Int)) (h : ∀ l ∈ L, l.length ≤ 10000) : (L.flatMap listF).length ≤ 110011 * L.length := by
  induction L with
  | nil => simp
  | cons x L ih =>
    simp only [List.flatMap_cons, List.length_append, List.length_cons]
    have h1 := listF_length x
    have h2 := h x (by simp)
    have h3 := ih fun l hl => h l (by simp [hl])
    omega
theorem Model.Ok.small {M : Model} (hM : M.Ok) (hk : M.kind = 1) : ∀ l ∈ M.ls, l.length ≤ 1000 ∧ inRange (-2147483648) 2147483647 l := by
  have hv := hM.vocab
  have hw := hM.width
  have hm : M.vocab * M.width ≤ 16 * 5 := Nat.mul_le_mul hv.2 hw.2
  have h3 : 3 * M.width * M.width ≤ 3 * 5 * 5 := Nat.mul_le_mul (Nat.mul_le_mul (Nat.le_refl 3) hw.2) hw.2
  intro l hl
  simp only [Model.ls, List.mem_cons, List.not_mem_nil, or_false] at hl
  rcases hl with rfl | rfl | rfl | rfl | rfl | rfl | rfl
  · exact ⟨by have := hM.lcuts; omega, fun x hx => by have := hM.cuts x hx; omega⟩
  · exact ⟨by have := hM.lembed; omega, fun x hx => by have := hM.embed x hx; omega⟩
  · obtain ⟨t, t1, t2, ht⟩ := hM.lplace
    have : t * M.width ≤ 16 * 5 := Nat.mul_le_mul t2 hw.2
    exact ⟨by omega, fun x hx => by have := hM.place x hx; omega⟩
  · exact ⟨by have := hM.attend hk; omega, fun x hx => by have := hM.mix x hx; omega⟩
  · exact ⟨by have := hM.lout; omega, fun x hx => by have := hM.out x hx; omega⟩
  · exact ⟨by have := hM.lsoft; omega, fun x hx => by have := hM.soft x hx; omega⟩
  · exact ⟨by have := hM.lodds; omega, fun x hx => by have := hM.odds x hx; omega⟩
theorem lsTo_length (M : Model) (hM : M.Ok) (hk : M.kind = 1) (k : Nat) : (lsTo M k).length ≤ 400000 := by
  have key : ∀ L : List (List Int), (∀ l ∈ L, l.length ≤ 1000) → (L.flatMap listF).length ≤ 11011 * L.length := by
    intro L
    induction L with
    | nil => intro _; simp
    | cons x L ih =>
      intro h
      simp only [List.flatMap_cons, List.length_append, List.length_cons]
      have h1 := listF_length x
      have h2 := h x (by simp)
      have h3 := ih fun l hl => h l (by simp [hl])
      omega
  unfold lsTo
  rw [List.length_append]
  have h1 := flatNum_length M.ns
  have h3 : M.ns.length = 4 := rfl
  have h2 := key (M.ls.take k) fun l hl => (hM.small hk l (List.mem_of_mem_take hl)).1
  have h4 : (M.ls.take k).length ≤ M.ls.length := List.length_take_le' _ _
  have h5 : M.ls.length = 7 := rfl
  have h6 : 11011 * (M.ls.take k).length ≤ 11011 * 7 := Nat.mul_le_mul (Nat.le_refl _) (by omega)
  omega
theorem modelBytes_bytes (M : Model) : isBytes (modelBytes M) := by
  have h1 : ∀ n, isBytes (numF n) := fun n => varF_bytes _ _
  have h2 : ∀ l : List Int, isBytes (l.flatMap numF) := by
    intro l x hx
    obtain ⟨n, -, h⟩ := List.mem_flatMap.1 hx
    exact h1 n x h
  refine isBytes_append (h2 _) ?_
  intro x hx
  obtain ⟨l, -, h⟩ := List.mem_flatMap.1 hx
  exact isBytes_append (h1 _) (h2 l) x h
theorem modelBytes_length (M : Model) (hM : M.Ok) (hk : M.kind = 1) : (modelBytes M).length ≤ 800000 := by
  unfold modelBytes
  rw [List.length_append]
  have h1 := flatNum_length M.ns
  have h3 : M.ns.length = 4 := rfl
  have h2 := flatList_length M.ls fun l hl => by have := (hM.small hk l hl).1; omega
  have h4 : M.ls.length = 7 := rfl
  rw [h4] at h2
  omega
def mcell (M : Model) (vs : List Value) : Array Value := #[.int .i64 M.kind, .int .i64 M.vocab, .int .i64 M.width, .int .i64 M.top] ++ vs.toArray
set_option maxRecDepth 100000 in
set_option maxHeartbeats 2000000 in
theorem bytesOf_any (w : World) (T : Nat → Prop) (M : Model) (v4 v5 v6 v7 v8 v9 v10 : Value) (h : MSl w T M v4 v5 v6 v7 v8 v9 v10) (hM : M.Ok) (hk : M.kind = 1) :
    Calls Tryz.prog 86 #[.agg #[.int .i64 M.kind, .int .i64 M.vocab, .int .i64 M.width, .int .i64 M.top, v4, v5, v6, v7, v8, v9, v10]] w (RetFresh w 5 1 (modelBytes M).length (bytes (modelBytes M))) := by
  have hold := h.old
  have HR0 := Lib.hid hold.rows
  have HM := Lib.hid hM
  have HK := Lib.hid hk
  have hkk := hM.kind
  have hvv := hM.vocab
  have hww := hM.width
  have htt := hM.top
  have n1 : (1 : Int) ≤ M.kind := hkk.1
  have n2 : M.kind ≤ 3 := hkk.2
  clear h hold hM hk hkk
  go_enter Tryz.func86, Tryz.ntmps86
  go_upto_region 2 with (fail)
  have kb := (Blk.new w 27 #[.int .i64 M.kind, .int .i64 M.vocab, .int .i64 M.width, .int .i64 M.top, v4, v5, v6, v7, v8, v9, v10]).alloc (.cells #[.slice none 0 0] 130)
  have kp := Blk.new (w.alloc (.cells #[.int .i64 M.kind, .int .i64 M.vocab, .int .i64 M.width, .int .i64 M.top, v4, v5, v6, v7, v8, v9, v10] 27)) 130 #[.slice none 0 0]
  have hb0 : Below w.heap.size w ((w.alloc (.cells #[.int .i64 M.kind, .int .i64 M.vocab, .int .i64 M.width, .int .i64 M.top, v4, v5, v6, v7, v8, v9, v10] 27)).alloc (.cells #[.slice none 0 0] 130)) := ((Below.refl _ _).alloc (Nat.le_refl _) _).alloc (by simp) _
  have hz0' : ((w.alloc (.cells #[.int .i64 M.kind, .int .i64 M.vocab, .int .i64 M.width, .int .i64 M.top, v4, v5, v6, v7, v8, v9, v10] 27)).alloc (.cells #[.slice none 0 0] 130)).heap.size = w.heap.size + 2 := by simp
  rw [show (w.alloc (.cells #[.int .i64 M.kind, .int .i64 M.vocab, .int .i64 M.width, .int .i64 M.top, v4, v5, v6, v7, v8, v9, v10] 27)).heap.size = w.heap.size + 1 by simp] at kp
  generalize (w.alloc (.cells #[.int .i64 M.kind, .int .i64 M.vocab, .int .i64 M.width, .int .i64 M.top, v4, v5, v6, v7, v8, v9, v10] 27)).alloc (.cells #[.slice none 0 0] 130) = W at *
  obtain ⟨b, hb⟩ : ∃ b, b = w.heap.size := ⟨_, rfl⟩
  have e0 : W.cell? ⟨b, 0, none⟩ = some (.int .i64 M.kind) := by rw [hb]; exact kb.cell 0
  have e1 : W.cell? ⟨b, 1, none⟩ = some (.int .i64 M.vocab) := by rw [hb]; exact kb.cell 1
  have e2 : W.cell? ⟨b, 2, none⟩ = some (.int .i64 M.width) := by rw [hb]; exact kb.cell 2
  have e3 : W.cell? ⟨b, 3, none⟩ = some (.int .i64 M.top) := by rw [hb]; exact kb.cell 3
  rw [← hb] at kb kp hz0' ⊢
  have hWz : b + 1 < W.heap.size := by omega
  have hWz2 : W.heap.size ≤ b + 2 := by omega
  have HB0 := Lib.hid hb0
  have HBE := Lib.hid hb
  have KB := Lib.hid kb
  have KP := Lib.hid kp
  clear hb0 hb kb kp hz0'
  go_wp2_with fail
  have hs1 := lit_slc W 3 M.ns 4 rfl (by decide)
  have hst : Wr (W.alloc (.cells #[.int .i64 M.kind, .int .i64 M.vocab, .int .i64 M.width, .int .i64 M.top] 3)) (fun g => g < b + 1 ∨ g = W.heap.size) (b + 1) (nsTo M 0) :=
    ⟨⟨_, KP.out.alloc _, Own.nil_ _ _ _ _⟩, fun h => by omega⟩
  have hs1' : Slc (W.alloc (.cells #[.int .i64 M.kind, .int .i64 M.vocab, .int .i64 M.width, .int .i64 M.top] 3)) (· = W.heap.size) (.slice (some ⟨W.heap.size, 0, none⟩) 4 4) M.ns := hs1
  have hbW := Below.alloc (Below.refl W.heap.size W) (Nat.le_refl _) (.cells #[.int .i64 M.kind, .int .i64 M.vocab, .int .i64 M.width, .int .i64 M.top] 3)
  have hz1' : (W.alloc (.cells #[.int .i64 M.kind, .int .i64 M.vocab, .int .i64 M.width, .int .i64 M.top] 3)).heap.size = W.heap.size + 1 := by simp
  generalize W.alloc (.cells #[.int .i64 M.kind, .int .i64 M.vocab, .int .i64 M.width, .int .i64 M.top] 3) = W1 at *
  have hW1z : W.heap.size < W1.heap.size := by omega
  have HST := Lib.hid hst
  have HS1 := Lib.hid hs1'
  have HBW := Lib.hid hbW
  have HZ1 := Lib.hid hz1'
  clear hst hs1 hs1' hbW hz1' e0 e1 e2 e3
  go_loopw [5, 18] (fun _ i wr => ∃ k : Nat, k ≤ 4 ∧ i = .int .i64 k ∧ Wr wr (fun g => g < b + 1 ∨ g = W.heap.size) (b + 1) (nsTo M k) ∧ Keeps (fun g => ¬ (g < b + 1 ∨ g = W.heap.size)) W1 wr) (fun _ i _ => 4 - (intOf i).toNat)
  case atStart => exact ⟨0, by omega, rfl, HST.out, Keeps.refl _ _⟩
  obtain ⟨k, hk4, rfl, hw, hkp⟩ := hrel
  have hwz := hkp.size
  by_cases hlt : k < 4
  · have hkl : k < M.ns.length := hlt
    have hs := HS1.out.keeps hkp (fun i h hn => hn (Or.inr h))
    obtain ⟨-, ad, e, hc⟩ := hs.at_ k hkl
    injection e with e
    subst e
    rw [Addr.add_lit, Nat.zero_add] at hc
    have hx : -2147483648 ≤ M.ns[k] ∧ M.ns[k] ≤ 2147483648 := by
      have : ∀ x ∈ M.ns, -2147483648 ≤ x ∧ x ≤ 2147483648 := by
        intro x hx
        simp only [Model.ns, List.mem_cons, List.not_mem_nil, or_false] at hx
        omega
      exact this _ (List.getElem_mem hkl)
    have HSU := Lib.hid (nsTo_succ M k hkl)
    generalize M.ns[k] = x at *
    have HNX := Lib.hid (number_w wr _ (b + 1) _ hw (fun g hg => by rcases hg with hg | hg <;> omega) x hx (by have := nsTo_length M k; omega))
    have HKP := Lib.hid hkp
    clear hs hw hkp hkl hx
    go_wp2_with fail
    refine HNX.out.mono ?_
    rintro e w2 ⟨rfl, hw2, hb2⟩
    have HW2 := Lib.hid hw2
    have HB2 := Lib.hid (HKP.out.tr hb2)
    clear hw2 hb2
    go_wp2_with fail
    go_roundw
    case rel => exact ⟨k + 1, by omega, by go_num, by rw [HSU.out]; exact HW2.out, HB2.out⟩
    case measure => simp [intOf]; omega
  · obtain rfl : k = 4 := by omega
    have kb2 : Blk wr b 27 #[.int .i64 M.kind, .int .i64 M.vocab, .int .i64 M.width, .int .i64 M.top, v4, v5, v6, v7, v8, v9, v10] := hkp.blk (KB.out.below HBW.out (by omega)) (fun hn => hn (Or.inl (by omega)))
    have hRw : Rows wr (· < w.heap.size) [v4, v5, v6, v7, v8, v9, v10] M.ls := ((HR0.out.fresh HB0.out).fresh HBW.out).keeps hkp fun i h hn => hn (Or.inl (by rw [HBE.out]; omega))
    have hkb : Keeps (fun _ => False) w wr := by
      have hz := HB0.out.size
      have hbb := HBE.out
      exact ⟨hkp.os.trans (HBW.out.os.trans HB0.out.os), hkp.tape.trans (HBW.out.tape.trans HB0.out.tape), hkp.output.trans (HBW.out.output.trans HB0.out.output), Nat.le_trans hz (Nat.le_trans HBW.out.size hkp.size),
        fun g hg _ => (hkp.block g (by omega) (fun hn => hn (Or.inl (by omega)))).trans ((HBW.out.block g (by omega)).trans (HB0.out.block g hg))⟩
    have HL := Lib.hid (lists_any wr b _ kb2)
    have KB2 := Lib.hid kb2
    have HRW := Lib.hid hRw
    have HW := Lib.hid hw
    have HKB := Lib.hid hkb
    clear kb2 hRw hw hkp hkb
    go_wp2_with fail
    refine HL.out.mono ?_
    rintro e w2 ⟨rfl, hw2⟩
    have hb2 : Below wr.heap.size wr w2 := by rw [hw2]; exact ((Below.refl _ _).drew).alloc (by simp) _
    have kq : Blk w2 wr.heap.size 64 #[.pointer (some ⟨b, 4, none⟩), .pointer (some ⟨b, 5, none⟩), .pointer (some ⟨b, 6, none⟩), .pointer (some ⟨b, 7, none⟩), .pointer (some ⟨b, 8, none⟩), .pointer (some ⟨b, 9, none⟩), .pointer (some ⟨b, 10, none⟩)] := by rw [hw2]; exact Blk.new wr.drew _ _
    have hz2' : w2.heap.size = wr.heap.size + 1 := by rw [hw2]; simp
    have hst2 : Wr w2 (fun g => g < b + 1 ∨ g = wr.heap.size) (b + 1) (lsTo M 0) := by
      have h1 := (HW.out.moreR (R' := fun g => g < b + 1 ∨ g = wr.heap.size) fun g hg h => by
        rcases h with h | h
        · exact Or.inl h
        · omega).fresh hb2
      have e : lsTo M 0 = nsTo M 4 := by unfold lsTo nsTo; simp [Model.ns]
      rw [e]; exact h1
    have HKQ := Lib.hid kq
    have HST2 := Lib.hid hst2
    have HKB2 := Lib.hid (HKB.out.to_below.trans (hb2.mono HKB.out.size))
    have KB3 := Lib.hid (KB2.out.below hb2 KB2.out.lt)
    have HR2 := Lib.hid (HRW.out.fresh hb2)
    have hbz : b + 1 < wr.heap.size := by omega
    have hz2'' : wr.heap.size < w2.heap.size := by omega
    clear hw2 hb2 kq hz2' hst2
    go_wp2_with fail
    obtain ⟨wo, rfl⟩ : ∃ wo : World, wo = wr := ⟨_, rfl⟩
    go_loopw [7, 27] (fun _ i wx => ∃ k : Nat, k ≤ 7 ∧ i = .int .i64 k ∧ Wr wx (fun g => g < b + 1 ∨ g = wo.heap.size) (b + 1) (lsTo M k) ∧ Keeps (fun g => ¬ (g < b + 1 ∨ g = wo.heap.size)) w2 wx) (fun _ i _ => 7 - (intOf i).toNat)
    case atStart => exact ⟨0, by omega, rfl, HST2.out, Keeps.refl _ _⟩
    obtain ⟨k, hk7, rfl, hw, hkp⟩ := hrel
    have hwz2 := hkp.size
    by_cases hlt : k < 7
    · have hkl : k < M.ls.length := hlt
      have kb4 := hkp.blk KB3.out (fun hn => hn (Or.inl (by omega)))
      have kq4 := hkp.blk HKQ.out (fun hn => hn (Or.inr rfl))
      have hrow := HR2.out.keeps hkp (fun i h hn => hn (Or.inl (by rw [HBE.out]; omega)))
      obtain ⟨v, hv, hslc⟩ := hrow.2 k hkl
      have hsm := HM.out.small HK.out _ (List.getElem_mem hkl)
      have HSU := Lib.hid (lsTo_succ M k hkl)
      have hlen := lsTo_length M HM.out HK.out k
      obtain ⟨l, hl⟩ : ∃ l, l = M.ls[k] := ⟨_, rfl⟩
      rw [← hl] at hslc hsm HSU
      have c1 : wr.cell? ⟨wo.heap.size, k, none⟩ = some (.pointer (some ⟨b, 4 + k, none⟩)) := by
        rw [kq4.cell k]
        match k, hlt with
        | 0, _ => rfl
        | 1, _ => rfl
        | 2, _ => rfl
        | 3, _ => rfl
        | 4, _ => rfl
        | 5, _ => rfl
        | 6, _ => rfl
      have c2 : wr.cell? ⟨b, 4 + k, none⟩ = some v := by
        rw [kb4.cell (4 + k), ← hv]
        match k, hlt with
        | 0, _ => rfl
        | 1, _ => rfl
        | 2, _ => rfl
        | 3, _ => rfl
        | 4, _ => rfl
        | 5, _ => rfl
        | 6, _ => rfl
      obtain ⟨Av, cv, rfl⟩ := hslc.len
      have HLX := Lib.hid (list_w wr _ (b + 1) _ hw (fun g hg => by rcases hg with hg | hg <;> omega) (· < w.heap.size) _ l hslc (fun g hg => Or.inl (by rw [HBE.out]; omega)) hsm.2 (by omega) (by omega))
      have HKP := Lib.hid hkp
      clear kb4 kq4 hrow hv hslc hsm hlen hl hw hkp hkl
      go_wp2_with fail
      refine HLX.out.mono ?_
      rintro e w3 ⟨rfl, hw3, hb3⟩
      have HW3 := Lib.hid hw3
      have HB3 := Lib.hid (HKP.out.tr hb3)
      clear hw3 hb3
      go_wp2_with fail
      go_roundw
      case rel => exact ⟨k + 1, by omega, by go_num, by rw [HSU.out]; exact HW3.out, HB3.out⟩
      case measure => simp [intOf]; omega
    · obtain rfl : k = 7 := by omega
      obtain ⟨⟨v, hvb, hown⟩, -⟩ := hw
      obtain ⟨Av, cv, rfl, -, -⟩ := hown.shape
      have c0 : wr.cell? ⟨b + 1, 0, none⟩ = some (.slice Av (lsTo M 7).length cv) := hvb.cell 0
      have e : lsTo M 7 = modelBytes M := rfl
      rw [e] at c0 hown
      have HOWN := Lib.hid hown
      have hbel : Below w.heap.size w wr := by
        have h1 := HKB2.out
        have hbb := HBE.out
        exact ⟨hkp.os.trans h1.os, hkp.tape.trans h1.tape, hkp.output.trans h1.output, Nat.le_trans h1.size hkp.size, fun g hg => (hkp.block g (by have := h1.size; omega) (fun hn => hn (Or.inl (by omega)))).trans (h1.block g hg)⟩
      have HBEL := Lib.hid hbel
      clear hvb hown e hbel hkp
      go_wp2_with fail
      go_ret
      exact ⟨_, rfl, HOWN.out.more fun g _ h => by
        have hbb := HBE.out
        have : ¬ g < b + 1 := fun h' => h (Or.inl h')
        omega, HBEL.out⟩
end Go.Proofs.YtedkfehdfmimoaaGreat

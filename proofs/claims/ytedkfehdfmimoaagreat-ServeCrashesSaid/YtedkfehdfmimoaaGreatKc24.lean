/- acceptable, walked. -/
import Derived.Test.YtedkfehdfmimoaaGreatKc23
import Derived.Deep.RegionWith
namespace Go.Proofs.YtedkfehdfmimoaaGreat
open Go.RowKit

set_option maxRecDepth 100000 in
set_option maxHeartbeats 2000000 in
theorem acc_any (w : World) (own : Nat → Slot) (P : Ptrs) (s : Srv) (h : Rep w own P s) (hs : s.Ok) (hrec : s.records ≤ 9000) (r : Ask) (T : Nat → Prop) (vp : Value) (hp : Slc w T vp r.prompt) (hpl : r.prompt.length ≤ 1000) :
    Calls Tryz.prog 32 #[.pointer (some ⟨P.sa, 0, none⟩), askVal vp r] w fun e w' => e = .returned (.int .i64 (s.accErr r)) ∧ Below w.heap.size w w' := by
  have W1 := Lib.hid (fun w => swithin_any r.id 1 1000000 w)
  have W2 := Lib.hid (fun w => swithin_any r.deadline 0 1000000 w)
  have W3 := Lib.hid (fun w => swithin_any r.most 1 32 w)
  have W4 := Lib.hid (fun w => sword_any r.seed w)
  have W5 := Lib.hid (fun w => swithin_any (r.prompt.length : Int) 1 32 w)
  have HACC := Lib.hid (acc_eq s r)
  obtain ⟨A, c, rfl, hr, hc1, hc2, -⟩ := hp
  have HM3 : Hid (win r.most 1 32 = true → 1 ≤ r.most ∧ r.most ≤ 32) := fun h => by unfold win at h; simp at h; exact h
  have HM1 : Hid (win r.id 1 1000000 = true → (Lit.int .i64 r.id).wf = true) := fun h => by
    unfold win at h; simp at h; exact WalkArith.wf_i64 (by omega)
  generalize win r.id 1 1000000 = b1 at *
  generalize win r.deadline 0 1000000 = b2 at *
  generalize win r.most 1 32 = b3 at *
  generalize win r.seed (-2147483648) 2147483647 = b4 at *
  generalize win (r.prompt.length : Int) 1 32 = b5 at *
  obtain ⟨n, hn⟩ : ∃ n, n = r.prompt.length := ⟨_, rfl⟩
  rw [← hn] at hr hc1 hpl W5 HACC ⊢
  have HN := Lib.hid hn
  clear hn
  have hvoc := hs.M.vocab
  have hb0 : Below w.heap.size w ((w.alloc (.cells #[.pointer (some ⟨P.sa, 0, none⟩)] 32)).alloc (.cells #[.int .i64 r.id, .int .i64 r.deadline, .slice A n c, .int .i64 r.most, .int .i64 r.seed] 41)) := ((Below.refl _ _).alloc (Nat.le_refl _) _).alloc (by simp) _
  have kq : Blk ((w.alloc (.cells #[.pointer (some ⟨P.sa, 0, none⟩)] 32)).alloc (.cells #[.int .i64 r.id, .int .i64 r.deadline, .slice A n c, .int .i64 r.most, .int .i64 r.seed] 41)) w.heap.size 32 #[.pointer (some ⟨P.sa, 0, none⟩)] := (Blk.new w _ _).alloc _
  have h1 := h.fresh hb0
  have W6 := Lib.hid (fun (_ : Nat) => contains_toks _ w.heap.size P.sa s.M.vocab (serverCells P s) kq h1.server rfl (by omega) T A n c r.prompt (hr.fresh hb0) (by omega))
  generalize r.prompt.any (badTok s.M.vocab) = b6 at *
  have H := Lib.hid h
  have HS := Lib.hid hs
  have HB0 := Lib.hid hb0
  have H1 := Lib.hid h1
  have HREC := Lib.hid hrec
  clear kq h1 hb0 h hs hr hvoc hrec
  generalize hres : s.accErr r = res at *
  clear hres
  unfold askVal
  go_enter Tryz.func32, Tryz.ntmps32
  cases b1
  · go_wp2_with (first | (go_at_call 28; ((with_reducible refine (W1.out _).mono ?_); rintro e w' ⟨rfl, rfl⟩)) | (go_at_call 28; ((with_reducible refine (W2.out _).mono ?_); rintro e w' ⟨rfl, rfl⟩)) | (go_at_call 28; ((with_reducible refine (W3.out _).mono ?_); rintro e w' ⟨rfl, rfl⟩)) | (go_at_call 61; ((with_reducible refine (W4.out _).mono ?_); rintro e w' ⟨rfl, rfl⟩)) | (go_at_call 28; ((with_reducible refine (W5.out _).mono ?_); rintro e w' ⟨rfl, rfl⟩)) | (go_at_call 62; ((with_reducible refine (W6.out 0).mono ?_); rintro e w' ⟨rfl, rfl⟩)))
    go_ret
    exact ⟨by rw [HACC.out]; rfl, HB0.out⟩
  cases b2
  · go_wp2_with (first | (go_at_call 28; ((with_reducible refine (W1.out _).mono ?_); rintro e w' ⟨rfl, rfl⟩)) | (go_at_call 28; ((with_reducible refine (W2.out _).mono ?_); rintro e w' ⟨rfl, rfl⟩)) | (go_at_call 28; ((with_reducible refine (W3.out _).mono ?_); rintro e w' ⟨rfl, rfl⟩)) | (go_at_call 61; ((with_reducible refine (W4.out _).mono ?_); rintro e w' ⟨rfl, rfl⟩)) | (go_at_call 28; ((with_reducible refine (W5.out _).mono ?_); rintro e w' ⟨rfl, rfl⟩)) | (go_at_call 62; ((with_reducible refine (W6.out 0).mono ?_); rintro e w' ⟨rfl, rfl⟩)))
    go_ret
    exact ⟨by rw [HACC.out]; rfl, HB0.out⟩
  cases b3
  · go_wp2_with (first | (go_at_call 28; ((with_reducible refine (W1.out _).mono ?_); rintro e w' ⟨rfl, rfl⟩)) | (go_at_call 28; ((with_reducible refine (W2.out _).mono ?_); rintro e w' ⟨rfl, rfl⟩)) | (go_at_call 28; ((with_reducible refine (W3.out _).mono ?_); rintro e w' ⟨rfl, rfl⟩)) | (go_at_call 61; ((with_reducible refine (W4.out _).mono ?_); rintro e w' ⟨rfl, rfl⟩)) | (go_at_call 28; ((with_reducible refine (W5.out _).mono ?_); rintro e w' ⟨rfl, rfl⟩)) | (go_at_call 62; ((with_reducible refine (W6.out 0).mono ?_); rintro e w' ⟨rfl, rfl⟩)))
    go_ret
    exact ⟨by rw [HACC.out]; rfl, HB0.out⟩
  cases b4
  · go_wp2_with (first | (go_at_call 28; ((with_reducible refine (W1.out _).mono ?_); rintro e w' ⟨rfl, rfl⟩)) | (go_at_call 28; ((with_reducible refine (W2.out _).mono ?_); rintro e w' ⟨rfl, rfl⟩)) | (go_at_call 28; ((with_reducible refine (W3.out _).mono ?_); rintro e w' ⟨rfl, rfl⟩)) | (go_at_call 61; ((with_reducible refine (W4.out _).mono ?_); rintro e w' ⟨rfl, rfl⟩)) | (go_at_call 28; ((with_reducible refine (W5.out _).mono ?_); rintro e w' ⟨rfl, rfl⟩)) | (go_at_call 62; ((with_reducible refine (W6.out 0).mono ?_); rintro e w' ⟨rfl, rfl⟩)))
    go_ret
    exact ⟨by rw [HACC.out]; rfl, HB0.out⟩
  cases b5
  · go_wp2_with (first | (go_at_call 28; ((with_reducible refine (W1.out _).mono ?_); rintro e w' ⟨rfl, rfl⟩)) | (go_at_call 28; ((with_reducible refine (W2.out _).mono ?_); rintro e w' ⟨rfl, rfl⟩)) | (go_at_call 28; ((with_reducible refine (W3.out _).mono ?_); rintro e w' ⟨rfl, rfl⟩)) | (go_at_call 61; ((with_reducible refine (W4.out _).mono ?_); rintro e w' ⟨rfl, rfl⟩)) | (go_at_call 28; ((with_reducible refine (W5.out _).mono ?_); rintro e w' ⟨rfl, rfl⟩)) | (go_at_call 62; ((with_reducible refine (W6.out 0).mono ?_); rintro e w' ⟨rfl, rfl⟩)))
    go_ret
    exact ⟨by rw [HACC.out]; rfl, HB0.out⟩
  cases b6
  rotate_left
  · go_wp2_with (first | (go_at_call 28; ((with_reducible refine (W1.out _).mono ?_); rintro e w' ⟨rfl, rfl⟩)) | (go_at_call 28; ((with_reducible refine (W2.out _).mono ?_); rintro e w' ⟨rfl, rfl⟩)) | (go_at_call 28; ((with_reducible refine (W3.out _).mono ?_); rintro e w' ⟨rfl, rfl⟩)) | (go_at_call 61; ((with_reducible refine (W4.out _).mono ?_); rintro e w' ⟨rfl, rfl⟩)) | (go_at_call 28; ((with_reducible refine (W5.out _).mono ?_); rintro e w' ⟨rfl, rfl⟩)) | (go_at_call 62; ((with_reducible refine (W6.out 0).mono ?_); rintro e w' ⟨rfl, rfl⟩)))
    go_ret
    exact ⟨by rw [HACC.out]; rfl, HB0.out⟩
  go_wp2_with (first | (go_at_call 28; ((with_reducible refine (W1.out _).mono ?_); rintro e w' ⟨rfl, rfl⟩)) | (go_at_call 28; ((with_reducible refine (W2.out _).mono ?_); rintro e w' ⟨rfl, rfl⟩)) | (go_at_call 28; ((with_reducible refine (W3.out _).mono ?_); rintro e w' ⟨rfl, rfl⟩)) | (go_at_call 61; ((with_reducible refine (W4.out _).mono ?_); rintro e w' ⟨rfl, rfl⟩)) | (go_at_call 28; ((with_reducible refine (W5.out _).mono ?_); rintro e w' ⟨rfl, rfl⟩)) | (go_at_call 62; ((with_reducible refine (W6.out 0).mono ?_); rintro e w' ⟨rfl, rfl⟩)))
  have kq := (Blk.new w 32 #[.pointer (some ⟨P.sa, 0, none⟩)]).alloc (.cells #[.int .i64 r.id, .int .i64 r.deadline, .slice A n c, .int .i64 r.most, .int .i64 r.seed] 41)
  have kr := Blk.new (w.alloc (.cells #[.pointer (some ⟨P.sa, 0, none⟩)] 32)) 41 #[.int .i64 r.id, .int .i64 r.deadline, .slice A n c, .int .i64 r.most, .int .i64 r.seed]
  rw [show (w.alloc (.cells #[.pointer (some ⟨P.sa, 0, none⟩)] 32)).heap.size = w.heap.size + 1 by simp] at kr
  generalize (w.alloc (.cells #[.pointer (some ⟨P.sa, 0, none⟩)] 32)).alloc (.cells #[.int .i64 r.id, .int .i64 r.deadline, .slice A n c, .int .i64 r.most, .int .i64 r.seed] 41) = V at *
  have q0 : V.cell? ⟨w.heap.size, 0, none⟩ = some (.pointer (some ⟨P.sa, 0, none⟩)) := kq.cell 0
  have r0 : V.cell? ⟨w.heap.size + 1, 0, none⟩ = some (.int .i64 r.id) := kr.cell 0
  have r1 : V.cell? ⟨w.heap.size + 1, 1, none⟩ = some (.int .i64 r.deadline) := kr.cell 1
  have r2 : V.cell? ⟨w.heap.size + 1, 2, none⟩ = some (.slice A n c) := kr.cell 2
  have r3 : V.cell? ⟨w.heap.size + 1, 3, none⟩ = some (.int .i64 r.most) := kr.cell 3
  have c11 : V.cell? ⟨P.sa, 11, none⟩ = some (.int .i64 s.c.pages) := H1.out.scell 11
  have c12 : V.cell? ⟨P.sa, 12, none⟩ = some (.int .i64 s.c.pageSize) := H1.out.scell 12
  have c14 : V.cell? ⟨P.sa, 14, none⟩ = some (.int .i64 s.c.queue) := H1.out.scell 14
  have c16 : V.cell? ⟨P.sa, 16, none⟩ = some (.int .i64 s.now) := H1.out.scell 16
  have c17 : V.cell? ⟨P.sa, 17, none⟩ = some (.map (some P.ma)) := H1.out.scell 17
  have hlk : ∀ k, (Instr.lookup 67 (.map (some P.ma)) (.int .i64 r.id) false).run Tryz.prog (V.drewN k) = .ok (match (idMap P s).lookup r.id with | some g => .pointer (some ⟨g, 0, none⟩) | none => .pointer none) (V.drewN k) := fun k => MapIs.look (H1.out.drewN k).map r.id (HM1.out trivial)
  rw [idMap_find HS.out.distinct] at hlk
  obtain ⟨m1, m2⟩ := HM3.out trivial
  have zq := kq.lt
  clear kq kr W1 W2 W3 W4 W5 W6 HM1
  generalize hf : s.find r.id = fo at *
  clear hf
  cases fo with
  | some i =>
    simp only [Option.map_some] at hlk
    go_quiet (fail)
    go_wp2_with fail
    go_ret
    exact ⟨by rw [HACC.out]; rfl, by first | exact belowN HB0.out _ | exact belowN (belowN HB0.out _) _⟩
  | none =>
    simp only [Option.map_none] at hlk
    go_quiet (fail)
    go_wp2_with fail
    clear hlk c17
    by_cases h8 : r.deadline ≤ s.now
    · have h8' : decide (r.deadline ≤ (s.now : Int)) = true := by simpa using h8
      have HACC8 : Hid (res = accIf true true true true true false false true (decide ((s.c.pages : Int) * s.c.pageSize < n + r.most)) (decide ((s.c.queue : Int) ≤ s.open_.length))) := by
        have := HACC.out; rw [h8'] at this; exact this
      go_quiet (fail)
      go_wp2_with fail
      go_ret
      exact ⟨by rw [HACC8.out]; rfl, by first | exact belowN HB0.out _ | exact belowN (belowN HB0.out _) _⟩
    · have h8' : decide (r.deadline ≤ (s.now : Int)) = false := by simpa using h8
      have HACC8 : Hid (res = accIf true true true true true false false false (decide ((s.c.pages : Int) * s.c.pageSize < n + r.most)) (decide ((s.c.queue : Int) ≤ s.open_.length))) := by
        have := HACC.out; rw [h8'] at this; exact this
      go_quiet (fail)
      go_wp2_with fail
      have hcp := HS.out.c.pages
      have hcs := HS.out.c.pageSize
      have hmul : (0 : Int) ≤ (s.c.pages : Int) * s.c.pageSize ∧ (s.c.pages : Int) * s.c.pageSize ≤ 512 := by
        have h1 : s.c.pages * s.c.pageSize ≤ 64 * 8 := Nat.mul_le_mul hcp.2 hcs.2
        have h2 : ((s.c.pages * s.c.pageSize : Nat) : Int) = (s.c.pages : Int) * s.c.pageSize := Int.natCast_mul _ _
        omega
      have x1 : IntKind.i64.wrap ((s.c.pages : Int) * s.c.pageSize) = (s.c.pages : Int) * s.c.pageSize := IntWalk.i64_in _ (by omega)
      have x2 : IntKind.i64.wrap ((n : Int) + r.most) = (n : Int) + r.most := IntWalk.i64_in _ (by omega)
      clear hcp hcs h8 h8'
      by_cases h9 : (s.c.pages : Int) * s.c.pageSize < n + r.most
      · have h9' : decide ((s.c.pages : Int) * s.c.pageSize < n + r.most) = true := by simpa using h9
        have HACC9 : Hid (res = accIf true true true true true false false false true (decide ((s.c.queue : Int) ≤ s.open_.length))) := by
          have := HACC8.out; rw [h9'] at this; exact this
        go_quiet (fail)
        go_wp2_with fail
        go_ret
        exact ⟨by rw [HACC9.out]; rfl, by first | exact belowN HB0.out _ | exact belowN (belowN HB0.out _) _⟩
      · have h9' : decide ((s.c.pages : Int) * s.c.pageSize < n + r.most) = false := by simpa using h9
        have HACC9 : Hid (res = accIf true true true true true false false false false (decide ((s.c.queue : Int) ≤ s.open_.length))) := by
          have := HACC8.out; rw [h9'] at this; exact this
        go_quiet (fail)
        go_wp2_with fail
        have zsa := H1.out.server.lt
        clear r0 r1 r2 r3 c11 c12 c16 h9 h9' x1 x2 hmul m1 m2 HACC HACC8
        by_cases h10 : (s.c.queue : Int) ≤ s.open_.length
        · have h10' : decide ((s.c.queue : Int) ≤ s.open_.length) = true := by simpa using h10
          have HACC10 : Hid (res = accIf true true true true true false false false false true) := by
            have := HACC9.out; rw [h10'] at this; exact this
          clear HACC9 h10'
          go_region_with (first
            | (go_at_call 35; refine (open_any _ own P s ((H1.out.drewN _).drew) HS.out.distinct HS.out.nreqs).mono ?_; rintro e w2 ⟨v, rfl, ho, hb⟩; obtain ⟨Ao, co, rfl, -, -⟩ := ho.shape; have q0b : w2.cell? ⟨w.heap.size, 0, none⟩ = some (.pointer (some ⟨P.sa, 0, none⟩)) := (hb.cell (p := ⟨w.heap.size, 0, none⟩) zq).trans q0; have c14b : w2.cell? ⟨P.sa, 14, none⟩ = some (.int .i64 s.c.queue) := (hb.cell (p := ⟨P.sa, 14, none⟩) zsa).trans c14))
          all_goals
            go_wp2_with fail
            go_ret
            refine ⟨by rw [HACC10.out]; rfl, ?_⟩
            first
              | exact ((belowN HB0.out _).drew).trans (hb.mono (by have := HB0.out.size; simpa using this))
              | exact (((belowN HB0.out _).drew).trans (hb.mono (by have := HB0.out.size; simpa using this))).drew
        · have h10' : decide ((s.c.queue : Int) ≤ s.open_.length) = false := by simpa using h10
          have HACC10 : Hid (res = accIf true true true true true false false false false false) := by
            have := HACC9.out; rw [h10'] at this; exact this
          clear HACC9 h10'
          go_region_with (first
            | (go_at_call 35; refine (open_any _ own P s ((H1.out.drewN _).drew) HS.out.distinct HS.out.nreqs).mono ?_; rintro e w2 ⟨v, rfl, ho, hb⟩; obtain ⟨Ao, co, rfl, -, -⟩ := ho.shape; have q0b : w2.cell? ⟨w.heap.size, 0, none⟩ = some (.pointer (some ⟨P.sa, 0, none⟩)) := (hb.cell (p := ⟨w.heap.size, 0, none⟩) zq).trans q0; have c14b : w2.cell? ⟨P.sa, 14, none⟩ = some (.int .i64 s.c.queue) := (hb.cell (p := ⟨P.sa, 14, none⟩) zsa).trans c14)
            | (go_at_call 34; refine (full_no _ own P s (((H1.out.drewN _).drew).fresh hb) (by have := HREC.out; omega)).mono ?_; rintro e w' ⟨rfl, rfl⟩))
          all_goals
            go_wp2_with fail
            go_ret
            refine ⟨by rw [HACC10.out]; rfl, ?_⟩
            first
              | exact ((belowN HB0.out _).drew).trans (hb.mono (by have := HB0.out.size; simpa using this))
              | exact (((belowN HB0.out _).drew).trans (hb.mono (by have := HB0.out.size; simpa using this))).drew

end Go.Proofs.YtedkfehdfmimoaaGreat

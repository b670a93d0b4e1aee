/- stands(). -/
import Derived.Test.YtempdomhbfokmaaGreatDoorMz35
import Derived.Test.YtempdomhbfokmaaGreatDoorMz47
namespace Go.Proofs.YtempdomhbfokmaaGreatDoor
open Go.RowKit

theorem Blk.at_ {w : World} {t : TypeId} {cs : Array Value} {k : Nat} (hk : k = w.heap.size) : Blk (w.alloc (.cells cs t)) k t cs := by subst hk; exact Blk.new w t cs
theorem gat_new (w : World) (o0 : Obj) (c5 : Array Value) (t5 : TypeId) : GAt ((((((w.alloc o0).alloc (.cells #[.int .i64 3] 3)).alloc (.cells #[.int .i64 0, .int .i64 0] 3)).alloc
    (.cells #[.int .i64 2, .slice none 0 0, .string ⟨#[]⟩, .slice none 0 0, .string ⟨#[]⟩, .slice none 0 0, .int .i64 0, .int .i64 0, .int .i64 0, .int .i64 0, .slice (some ⟨w.heap.size + 1, 0, none⟩) 1 1, .slice none 0 0, .int .i64 4, .slice (some ⟨w.heap.size + 1 + 1, 0, none⟩) 2 2, .string ⟨#[]⟩, .slice none 0 0, .string ⟨#[]⟩, .slice none 0 0, .int .i64 0, .int .i64 0, .int .i64 0, .int .i64 0, .slice none 0 0, .slice none 0 0] 54)).alloc (.cells #[.int .i64 1] 3)).alloc (.cells c5 t5)) (w.heap.size + 1) (w.heap.size + 1 + 1) (w.heap.size + 1 + 1 + 1) (w.heap.size + 1 + 1 + 1 + 1) :=
  ⟨((((Blk.at_ (by simp)).alloc _).alloc _).alloc _).alloc _, (((Blk.at_ (by simp)).alloc _).alloc _).alloc _, ((Blk.at_ (by simp)).alloc _).alloc _, (Blk.at_ (by simp)).alloc _⟩
set_option maxRecDepth 100000 in
set_option maxHeartbeats 4000000 in
theorem stands_any (w : World) (htb : Tb w) : Calls Tryz.prog 9 #[] w fun e w' => e = .returned (.bool true) ∧ Below w.heap.size w w' := by
  have HM := Lib.hid (make_half w htb)
  clear htb
  go_enter Tryz.func9, Tryz.ntmps9
  go_wp2_with fail
  refine HM.out.mono ?_
  rintro e w1 ⟨rfl, hb1⟩
  have HB1 := Lib.hid hb1
  clear hb1 HM
  go_wp2_with fail
  have hg := gat_new w1 (.cells #[.string ⟨#[49]⟩, .string ⟨#[50]⟩] 27) #[.string ⟨#[103]⟩, .slice none 0 0, .slice (some ⟨w1.heap.size + 1 + 1 + 1, 0, none⟩) 2 2, .slice (some ⟨w1.heap.size + 1 + 1 + 1 + 1, 0, none⟩) 1 1, .slice none 0 0] 59
  have hr : Blk ((((((w1.alloc (.cells #[.string ⟨#[49]⟩, .string ⟨#[50]⟩] 27)).alloc (.cells #[.int .i64 3] 3)).alloc (.cells #[.int .i64 0, .int .i64 0] 3)).alloc
    (.cells #[.int .i64 2, .slice none 0 0, .string ⟨#[]⟩, .slice none 0 0, .string ⟨#[]⟩, .slice none 0 0, .int .i64 0, .int .i64 0, .int .i64 0, .int .i64 0, .slice (some ⟨w1.heap.size + 1, 0, none⟩) 1 1, .slice none 0 0, .int .i64 4, .slice (some ⟨w1.heap.size + 1 + 1, 0, none⟩) 2 2, .string ⟨#[]⟩, .slice none 0 0, .string ⟨#[]⟩, .slice none 0 0, .int .i64 0, .int .i64 0, .int .i64 0, .int .i64 0, .slice none 0 0, .slice none 0 0] 54)).alloc (.cells #[.int .i64 1] 3)).alloc (.cells #[.string ⟨#[103]⟩, .slice none 0 0, .slice (some ⟨w1.heap.size + 1 + 1 + 1, 0, none⟩) 2 2, .slice (some ⟨w1.heap.size + 1 + 1 + 1 + 1, 0, none⟩) 1 1, .slice none 0 0] 59)) w1.heap.size 27 #[.string ⟨#[49]⟩, .string ⟨#[50]⟩] :=
    (((((Blk.at_ rfl).alloc _).alloc _).alloc _).alloc _).alloc _
  have hb2 : Below w.heap.size w ((((((w1.alloc (.cells #[.string ⟨#[49]⟩, .string ⟨#[50]⟩] 27)).alloc (.cells #[.int .i64 3] 3)).alloc (.cells #[.int .i64 0, .int .i64 0] 3)).alloc
    (.cells #[.int .i64 2, .slice none 0 0, .string ⟨#[]⟩, .slice none 0 0, .string ⟨#[]⟩, .slice none 0 0, .int .i64 0, .int .i64 0, .int .i64 0, .int .i64 0, .slice (some ⟨w1.heap.size + 1, 0, none⟩) 1 1, .slice none 0 0, .int .i64 4, .slice (some ⟨w1.heap.size + 1 + 1, 0, none⟩) 2 2, .string ⟨#[]⟩, .slice none 0 0, .string ⟨#[]⟩, .slice none 0 0, .int .i64 0, .int .i64 0, .int .i64 0, .int .i64 0, .slice none 0 0, .slice none 0 0] 54)).alloc (.cells #[.int .i64 1] 3)).alloc (.cells #[.string ⟨#[103]⟩, .slice none 0 0, .slice (some ⟨w1.heap.size + 1 + 1 + 1, 0, none⟩) 2 2, .slice (some ⟨w1.heap.size + 1 + 1 + 1 + 1, 0, none⟩) 1 1, .slice none 0 0] 59)) := by
    have h1 := HB1.out
    have hz := h1.size
    exact (((((h1.alloc hz _).alloc (by simp; omega) _).alloc (by simp; omega) _).alloc (by simp; omega) _).alloc (by simp; omega) _).alloc (by simp; omega) _
  generalize ((((((w1.alloc (.cells #[.string ⟨#[49]⟩, .string ⟨#[50]⟩] 27)).alloc (.cells #[.int .i64 3] 3)).alloc (.cells #[.int .i64 0, .int .i64 0] 3)).alloc
    (.cells #[.int .i64 2, .slice none 0 0, .string ⟨#[]⟩, .slice none 0 0, .string ⟨#[]⟩, .slice none 0 0, .int .i64 0, .int .i64 0, .int .i64 0, .int .i64 0, .slice (some ⟨w1.heap.size + 1, 0, none⟩) 1 1, .slice none 0 0, .int .i64 4, .slice (some ⟨w1.heap.size + 1 + 1, 0, none⟩) 2 2, .string ⟨#[]⟩, .slice none 0 0, .string ⟨#[]⟩, .slice none 0 0, .int .i64 0, .int .i64 0, .int .i64 0, .int .i64 0, .slice none 0 0, .slice none 0 0] 54)).alloc (.cells #[.int .i64 1] 3)).alloc (.cells #[.string ⟨#[103]⟩, .slice none 0 0, .slice (some ⟨w1.heap.size + 1 + 1 + 1, 0, none⟩) 2 2, .slice (some ⟨w1.heap.size + 1 + 1 + 1 + 1, 0, none⟩) 1 1, .slice none 0 0] 59)) = W at *
  have HE := Lib.hid (eval_std W _ _ _ _ hg)
  have HR := Lib.hid hr
  have HB2 := Lib.hid hb2
  clear hg hr hb2 HB1
  refine HE.out.mono ?_
  rintro e w3 ⟨go, co, g, c, rfl, ho, hd, hb3⟩
  have kr := HR.out.below hb3 HR.out.lt
  have r0 := kr.cell 0
  have r1 := kr.cell 1
  have o0 := ho.get2 (by omega) 0 _ rfl
  have o1 := ho.get2 (by omega) 1 _ rfl
  have d0 := hd.get 0 (by omega)
  have HB := Lib.hid (HB2.out.trans (hb3.mono HB2.out.size))
  simp [ints] at r0 r1 d0
  clear kr ho hd hb3 HE HR HB2
  go_wp2_with fail
  go_ret
  exact ⟨rfl, HB.out⟩
end Go.Proofs.YtempdomhbfokmaaGreatDoor

/- Nat.String at one digit; frac.Quotient. Frac.Rat, num.Make, num.Whole at numbers of one digit. num.Make, nat.Parse at numbers of one digit. num.digits, num.Check at numbers of one digit. num.Check at numbers of one digit. frac.Of at numbers of one digit. num.two, num.Add: one half and one half. h10one. -/
import Derived.Test.YtmlfgokbcafbkaaGreatDoorTk23
import Derived.Test.YtmlfgokbcafbkaaGreatDoorTk25
namespace Go.Proofs.YtmlfgokbcafbkaaGreatDoor
open Go.RowKit

/-- the string of a number below 10 -/
def decS (x : Nat) : ByteArray := ⟨#[UInt8.ofNat (48 + x)]⟩
theorem decS_eq (x : Nat) (h : x < 10) : (⟨(Lib.decDigits x).toArray⟩ : ByteArray) = decS x := by
  rw [Lib.decDigits, dif_pos h]
  rfl
theorem builder_new (w : World) : Lib.BuilderAt 124 5 w.heap.size w.heap.size (.pointer none) [] (w.alloc (.cells #[.pointer none, .slice none 0 0] 124)) := by
  rcases Lib.fresh_isBuilder 124 5 w with h | h
  · exact h
  · have := h.cell0
    rw [Blk.cell (Blk.new w 124 #[.pointer none, .slice none 0 0]) 0] at this
    simp at this
set_option maxRecDepth 100000 in
set_option maxHeartbeats 4000000 in
theorem string_any (w : World) (v : Value) (x : Nat) (h : Nat1 w v x) (hx : x < 10) :
    Calls Tryz.prog 64 #[v] w fun e w' => e = .returned (.string (decS x)) ∧ Below w.heap.size w w' := by
  have h' := h.alloc (.cells #[.pointer none, .slice none 0 0] 124)
  obtain ⟨ad, c, rfl, -, -, hlt, hc, h1, h2⟩ := h'
  have hwr : IntKind.u64.wrap (x : Int) = x := IntWalk.u64_in _ ⟨by omega, by omega⟩
  have HF : Hid (∀ W, Calls Tryz.prog 80 #[.int .u64 x, .int .i64 10] W fun e w' => e = .returned (.string (decS x)) ∧ w' = W) := Lib.hid (fun W => by rw [← decS_eq x hx]; exact formatUint_small x (by omega) W)
  have HBU := Lib.hid (builder_new w)
  have HB0 := Lib.hid ((Below.refl w.heap.size w).alloc (Nat.le_refl _) (.cells #[.pointer none, .slice none 0 0] 124))
  clear h h1 h2 hx
  go_enter Tryz.func64, Tryz.ntmps64
  go_wp2_with fail
  refine (HF.out _).mono ?_
  rintro e w1 ⟨rfl, rfl⟩
  go_wp2_with fail
  refine (writeString_fresh w.heap.size w.heap.size _ _ HBU.out (by show (1 : Nat) ≤ _; omega) HB0.out.size).mono ?_
  rintro e w2 ⟨rfl, hbu2, hb2⟩
  have HB2 := Lib.hid (HB0.out.trans hb2)
  have HBU2 := Lib.hid hbu2
  clear hbu2 hb2
  go_wp2_with fail
  go_loopw [4] (fun iv wr => iv = .int .i64 (-1) ∧ wr = w2) (fun iv _ => (intOf iv).toNat)
  case atStart => exact ⟨rfl, rfl⟩
  obtain ⟨rfl, rfl⟩ := hrel
  go_wp2_with fail
  refine (Tryz.Builder_String_any w.heap.size w.heap.size (decS x).data.toList _ (Or.inr HBU2.out) HB2.out.size).mono ?_
  rintro e w3 ⟨rfl, hb3⟩
  have HB3 := Lib.hid (HB2.out.trans hb3)
  clear hb3
  go_wp2_with fail
  go_ret
  exact ⟨rfl, HB3.out⟩
set_option maxRecDepth 100000 in
set_option maxHeartbeats 4000000 in
theorem quotient_any (w : World) (x y : Nat) (hx : 1 ≤ x) (hy : 1 ≤ y) (hx2 : x < 1000000000) (hy2 : y < 1000000000) (hg : Nat.gcd x y = 1) :
    Calls Tryz.prog 49 #[.int .i64 x, .int .i64 y] w fun e w' => ∃ u' v', e = .returned (.agg #[.bool false, u', v']) ∧ Nat1 w' u' x ∧ Nat1 w' v' y ∧ Below w.heap.size w w' := by
  have HX := Lib.hid (fun W => fint_any W x hx hx2)
  have HY := Lib.hid (fun W => fint_any W y hy hy2)
  have HD : Hid (∀ (W : World) (n1 d1 n2 d2 : Value), Nat1 W n1 x → Nat1 W d1 1 → Nat1 W n2 y → Nat1 W d2 1 → Calls Tryz.prog 63 #[.agg #[.bool false, n1, d1], .agg #[.bool false, n2, d2]] W fun e w' => ∃ u' v', e = .returned (.agg #[.bool false, u', v']) ∧ Nat1 w' u' x ∧ Nat1 w' v' y ∧ Below W.heap.size W w') :=
    Lib.hid fun W n1 d1 n2 d2 h1 h2 h3 h4 => fdiv_any W n1 d1 n2 d2 x 1 y 1 x y h1 h2 h3 h4 (by omega) (by omega) hx2 hy2 hg
  clear hx hy hx2 hy2 hg
  have KR := Lib.hid (Blk.new w 93 #[.bool false, .slice none 0 0, .slice none 0 0])
  have HB0 := Lib.hid ((Below.refl w.heap.size w).alloc (Nat.le_refl _) (.cells #[.bool false, .slice none 0 0, .slice none 0 0] 93))
  go_enter Tryz.func49, Tryz.ntmps49
  go_wp2_with fail
  refine (HX.out _).mono ?_
  rintro e w1 ⟨n1, d1, rfl, hn1, hd1, hb1⟩
  have K1 := Lib.hid (KR.out.below hb1 KR.out.lt)
  have B1 := Lib.hid (HB0.out.trans (hb1.mono HB0.out.size))
  have N1 := Lib.hid hn1
  have D1 := Lib.hid hd1
  clear hn1 hd1 hb1
  go_wp2_with fail
  refine (HY.out _).mono ?_
  rintro e w2 ⟨n2, d2, rfl, hn2, hd2, hb2⟩
  have K2 := Lib.hid (K1.out.below hb2 K1.out.lt)
  have B2 := Lib.hid (B1.out.trans (hb2.mono B1.out.size))
  have HDD := Lib.hid (HD.out w2 _ _ _ _ (N1.out.fresh hb2) (D1.out.fresh hb2) hn2 hd2)
  clear hn2 hd2 hb2
  go_wp2_with fail
  refine HDD.out.mono ?_
  rintro e w5 ⟨u, v, rfl, hu, hv, hb5⟩
  have KR5 := Lib.hid (K2.out.below hb5 K2.out.lt)
  have HB5 := Lib.hid (B2.out.trans (hb5.mono B2.out.size))
  have HR15 := Lib.hid hu
  have HR25 := Lib.hid hv
  obtain ⟨A4, c4, rfl⟩ := hu.lit
  obtain ⟨A5, c5, rfl⟩ := hv.lit
  clear hu hv hb5
  have e0 : w5.cell? ⟨w.heap.size, 0, none⟩ = some (.bool false) := KR5.out.cell 0
  have f0 := KR5.out.frozen 0
  have e1 : w5.cell? ⟨w.heap.size, 1, none⟩ = some (.slice none 0 0) := KR5.out.cell 1
  have f1 := KR5.out.frozen 1
  have e2 : w5.cell? ⟨w.heap.size, 2, none⟩ = some (.slice none 0 0) := KR5.out.cell 2
  have f2 := KR5.out.frozen 2
  go_wp2_with fail
  refine bodyPost_ret (v := .agg #[.bool false, .slice A4 1 c4, .slice A5 1 c5]) ?_ ?_ ?_
  · exact res_cell (p := 4) (ty := 93) (fn := Tryz.f49) rfl _ _ w.heap.size 93 #[.bool false, .slice A4 1 c4, .slice A5 1 c5] _ rfl (blk3' w5 w.heap.size 93 _ _ _ _ _ _ KR5.out) Tryz.underlying93 rfl frac_size
  · rfl
  exact ⟨_, _, rfl, HR15.out.past KR5.out (keeps3' w5 w.heap.size _ _ _), HR25.out.past KR5.out (keeps3' w5 w.heap.size _ _ _), ((Keeps.of_below HB5.out (fun _ => False)).trans (keeps3' w5 w.heap.size _ _ _) (fun i hi h => by omega)).to_below⟩
end Go.Proofs.YtmlfgokbcafbkaaGreatDoor

namespace Go.Proofs.YtmlfgokbcafbkaaGreatDoor
open Go.RowKit

theorem keeps2' (w : World) (g : Nat) (a0 a1 : Value) : Keeps (· = g) w ((w.setCell ⟨g, 0, none⟩ a0).setCell ⟨g, 1, none⟩ a1) :=
  Keeps.setCell (p := ⟨g, 1, none⟩) (Keeps.setCell (p := ⟨g, 0, none⟩) (Keeps.refl (· = g) w) (fun _ => rfl) _) (fun _ => rfl) _
theorem blk2' (w : World) (g : Nat) (t : TypeId) (b0 b1 a0 a1 : Value) (h : Blk w g t #[b0, b1]) : Blk ((w.setCell ⟨g, 0, none⟩ a0).setCell ⟨g, 1, none⟩ a1) g t #[a0, a1] := (h.set_ 0 a0).set_ 1 a1
theorem rat_size : (Tryz.prog.info? 60).map (·.size) = some 2 := by kernel_rfl
def ratV (x y : Nat) : Value := .agg #[.string (decS x), .string (decS y)]
set_option maxRecDepth 100000 in
set_option maxHeartbeats 4000000 in
theorem rat_any (w : World) (n d : Value) (x y : Nat) (hn : Nat1 w n x) (hd : Nat1 w d y) (hx : x < 10) (hy : y < 10) :
    Calls Tryz.prog 50 #[.agg #[.bool false, n, d]] w fun e w' => e = .returned (.agg #[.string (decS x), .string (decS y)]) ∧ Below w.heap.size w w' := by
  have HX : Hid (∀ W, Below w.heap.size w W → Calls Tryz.prog 64 #[n] W fun e w' => e = .returned (.string (decS x)) ∧ Below W.heap.size W w') := Lib.hid fun W hW => string_any W n x (hn.fresh hW) hx
  have HY : Hid (∀ W, Below w.heap.size w W → Calls Tryz.prog 64 #[d] W fun e w' => e = .returned (.string (decS y)) ∧ Below W.heap.size W w') := Lib.hid fun W hW => string_any W d y (hd.fresh hW) hy
  obtain ⟨A1, c1, rfl⟩ := hn.lit
  obtain ⟨A2, c2, rfl⟩ := hd.lit
  clear hn hd hx hy
  generalize decS x = sx at *
  generalize decS y = sy at *
  have ka := (Blk.new w 93 #[.bool false, .slice A1 1 c1, .slice A2 1 c2]).alloc (.cells #[.string ⟨#[]⟩, .string ⟨#[]⟩] 60)
  have kr := Blk.new (w.alloc (.cells #[.bool false, .slice A1 1 c1, .slice A2 1 c2] 93)) 60 #[.string ⟨#[]⟩, .string ⟨#[]⟩]
  have hb0 := ((Below.refl w.heap.size w).alloc (Nat.le_refl _) (.cells #[.bool false, .slice A1 1 c1, .slice A2 1 c2] 93)).alloc (by simp) (.cells #[.string ⟨#[]⟩, .string ⟨#[]⟩] 60)
  simp only [World.size_alloc] at kr
  have KA := Lib.hid ka
  have KR := Lib.hid kr
  have HB0 := Lib.hid hb0
  clear ka kr hb0
  go_enter Tryz.func50, Tryz.ntmps50
  go_wp2_with fail
  refine (HX.out _ HB0.out).mono ?_
  rintro e w1 ⟨rfl, hb1⟩
  have KA1 := Lib.hid (KA.out.below hb1 KA.out.lt)
  have K1 := Lib.hid (KR.out.below hb1 KR.out.lt)
  have B1 := Lib.hid (HB0.out.trans (hb1.mono HB0.out.size))
  clear hb1
  have a0 : w1.cell? ⟨w.heap.size, 0, none⟩ = some (.bool false) := KA1.out.cell 0
  have a2 : w1.cell? ⟨w.heap.size, 2, none⟩ = some (.slice A2 1 c2) := KA1.out.cell 2
  go_wp2_with fail
  refine (HY.out _ B1.out).mono ?_
  rintro e w5 ⟨rfl, hb5⟩
  have KR5 := Lib.hid (K1.out.below hb5 K1.out.lt)
  have HB5 := Lib.hid (B1.out.trans (hb5.mono B1.out.size))
  clear hb5 a0 a2
  have e0 : w5.cell? ⟨w.heap.size + 1, 0, none⟩ = some (.string ⟨#[]⟩) := KR5.out.cell 0
  have f0 := KR5.out.frozen 0
  have e1 : w5.cell? ⟨w.heap.size + 1, 1, none⟩ = some (.string ⟨#[]⟩) := KR5.out.cell 1
  have f1 := KR5.out.frozen 1
  go_wp2_with fail
  refine bodyPost_ret (v := .agg #[.string sx, .string sy]) ?_ ?_ ?_
  · exact res_cell (p := 2) (ty := 60) (fn := Tryz.f50) rfl _ _ (w.heap.size + 1) 60 #[.string sx, .string sy] _ rfl (blk2' w5 (w.heap.size + 1) 60 _ _ _ _ KR5.out) Tryz.underlying60 rfl rat_size
  · rfl
  exact ⟨rfl, ((Keeps.of_below HB5.out (fun _ => False)).trans (keeps2' w5 _ _ _) (fun i hi h => by omega)).to_below⟩
set_option maxRecDepth 100000 in
set_option maxHeartbeats 4000000 in
theorem whole_any (w : World) (x : Nat) (h1 : 1 ≤ x) (hx : x < 10) :
    Calls Tryz.prog 31 #[.int .i64 x] w fun e w' => e = .returned (.agg #[.string (decS x), .string (decS 1)]) ∧ Below w.heap.size w w' := by
  have HX := Lib.hid (fun W => fint_any W x h1 (by omega))
  have HY : Hid (∀ W n d, Nat1 W n x → Nat1 W d 1 → Calls Tryz.prog 50 #[.agg #[.bool false, n, d]] W fun e w' => e = .returned (.agg #[.string (decS x), .string (decS 1)]) ∧ Below W.heap.size W w') := Lib.hid fun W n d hn hd => rat_any W n d x 1 hn hd hx (by omega)
  clear h1 hx
  generalize decS x = sx at *
  generalize decS 1 = sy at *
  have KR := Lib.hid (Blk.new w 60 #[.string ⟨#[]⟩, .string ⟨#[]⟩])
  have HB0 := Lib.hid ((Below.refl w.heap.size w).alloc (Nat.le_refl _) (.cells #[.string ⟨#[]⟩, .string ⟨#[]⟩] 60))
  go_enter Tryz.func31, Tryz.ntmps31
  go_wp2_with fail
  refine (HX.out _).mono ?_
  rintro e w1 ⟨n1, d1, rfl, hn1, hd1, hb1⟩
  have K1 := Lib.hid (KR.out.below hb1 KR.out.lt)
  have B1 := Lib.hid (HB0.out.trans (hb1.mono HB0.out.size))
  have HDD := Lib.hid (HY.out w1 _ _ hn1 hd1)
  clear hn1 hd1 hb1
  go_wp2_with fail
  refine HDD.out.mono ?_
  rintro e w5 ⟨rfl, hb5⟩
  have KR5 := Lib.hid (K1.out.below hb5 K1.out.lt)
  have HB5 := Lib.hid (B1.out.trans (hb5.mono B1.out.size))
  clear hb5
  have e0 : w5.cell? ⟨w.heap.size, 0, none⟩ = some (.string ⟨#[]⟩) := KR5.out.cell 0
  have f0 := KR5.out.frozen 0
  have e1 : w5.cell? ⟨w.heap.size, 1, none⟩ = some (.string ⟨#[]⟩) := KR5.out.cell 1
  have f1 := KR5.out.frozen 1
  go_wp2_with fail
  refine bodyPost_ret (v := .agg #[.string sx, .string sy]) ?_ ?_ ?_
  · exact res_cell (p := 2) (ty := 60) (fn := Tryz.f31) rfl _ _ (w.heap.size) 60 #[.string sx, .string sy] _ rfl (blk2' w5 _ 60 _ _ _ _ KR5.out) Tryz.underlying60 rfl rat_size
  · rfl
  exact ⟨rfl, ((Keeps.of_below HB5.out (fun _ => False)).trans (keeps2' w5 _ _ _) (fun i hi h => by omega)).to_below⟩
end Go.Proofs.YtmlfgokbcafbkaaGreatDoor

namespace Go.Proofs.YtmlfgokbcafbkaaGreatDoor
open Go.RowKit

set_option maxRecDepth 100000 in
set_option maxHeartbeats 4000000 in
theorem make_any (w : World) (x y : Nat) (hx : 1 ≤ x) (hy : 1 ≤ y) (hx2 : x < 10) (hy2 : y < 10) (hg : Nat.gcd x y = 1) :
    Calls Tryz.prog 29 #[.int .i64 x, .int .i64 y] w fun e w' => e = .returned (.tuple #[.agg #[.string (decS x), .string (decS y)], .int .i64 0]) ∧ Below w.heap.size w w' := by
  have HQ := Lib.hid (fun W => quotient_any W x y hx hy (by omega) (by omega) hg)
  have HY : Hid (∀ W n d, Nat1 W n x → Nat1 W d y → Calls Tryz.prog 50 #[.agg #[.bool false, n, d]] W fun e w' => e = .returned (.agg #[.string (decS x), .string (decS y)]) ∧ Below W.heap.size W w') := Lib.hid fun W n d hn hd => rat_any W n d x y hn hd hx2 hy2
  have hy0 : ((y : Int) == 0) = false := by simp; omega
  clear hx hy hx2 hy2 hg
  generalize decS x = sx at *
  generalize decS y = sy at *
  have KR := Lib.hid (Blk.new w 60 #[.string ⟨#[]⟩, .string ⟨#[]⟩])
  have HB0 := Lib.hid ((Below.refl w.heap.size w).alloc (Nat.le_refl _) (.cells #[.string ⟨#[]⟩, .string ⟨#[]⟩] 60))
  go_enter Tryz.func29, Tryz.ntmps29
  go_wp2_with fail
  refine (HQ.out _).mono ?_
  rintro e w1 ⟨n1, d1, rfl, hn1, hd1, hb1⟩
  have K1 := Lib.hid (KR.out.below hb1 KR.out.lt)
  have B1 := Lib.hid (HB0.out.trans (hb1.mono HB0.out.size))
  have HDD := Lib.hid (HY.out w1 _ _ hn1 hd1)
  clear hn1 hd1 hb1
  go_wp2_with fail
  refine HDD.out.mono ?_
  rintro e w5 ⟨rfl, hb5⟩
  have KR5 := Lib.hid (K1.out.below hb5 K1.out.lt)
  have HB5 := Lib.hid (B1.out.trans (hb5.mono B1.out.size))
  clear hb5
  have e0 : w5.cell? ⟨w.heap.size, 0, none⟩ = some (.string ⟨#[]⟩) := KR5.out.cell 0
  have f0 := KR5.out.frozen 0
  have e1 : w5.cell? ⟨w.heap.size, 1, none⟩ = some (.string ⟨#[]⟩) := KR5.out.cell 1
  have f1 := KR5.out.frozen 1
  go_wp2_with fail
  refine bodyPost_ret (v := .tuple #[.agg #[.string sx, .string sy], .int .i64 0]) ?_ ?_ ?_
  · exact res_row_tmp (p := 4) (u := 5) (ty := 60) (fn := Tryz.f29) rfl _ _ (w.heap.size) 60 #[.string sx, .string sy] _ rfl (blk2' w5 _ 60 _ _ _ _ KR5.out) Tryz.underlying60 rfl rat_size
  · rfl
  exact ⟨rfl, ((Keeps.of_below HB5.out (fun _ => False)).trans (keeps2' w5 _ _ _) (fun i hi h => by omega)).to_below⟩
theorem decS_parse : ∀ x : Nat, x < 10 → Lib.parseUintB 32 (decS x).data.toList = .ok x := by decide
theorem decS_cut (x : Nat) : (decS x).extract (max (-8 : Int) 0).toNat 1 = decS x := rfl
theorem decS_size (x : Nat) : (decS x).size = 1 := rfl
set_option maxRecDepth 100000 in
set_option maxHeartbeats 4000000 in
theorem nparse_any (w : World) (x : Nat) (h1 : 1 ≤ x) (h2 : x < 10) :
    Calls Tryz.prog 86 #[.string (decS x)] w fun e w' => ∃ v, e = .returned v ∧ Nat1 w' v x ∧ Below w.heap.size w w' := by
  obtain ⟨i0, hi0, hz0, hz1, hz2⟩ := info_parts u32_info
  have HP : Hid (∀ W, Calls Tryz.prog 101 #[.string (decS x), .int .i64 10, .int .i64 32] W fun e w' => e = .returned (.tuple #[.int .u64 x, .nilIface]) ∧ Below W.heap.size W w') := Lib.hid fun W => (Tryz.strconv_ParseUint_10_at32_ok (decS x) (by rw [decS_size]; omega) x (decS_parse x h2) W).mono fun e w' ⟨he, hw⟩ => ⟨he, by
    rcases hw with rfl | rfl
    · exact Below.refl _ _
    · exact ⟨rfl, rfl, rfl, by rw [Lib.bytesWorld_size]; omega, fun k hk => Lib.bytesWorld_at_old W 5 _ k (by omega)⟩⟩
  have hcut := decS_cut x
  have hsz := decS_size x
  have hwr : IntKind.u32.wrap (x : Int) = x := u32_wrap _ (by omega) (by omega)
  have H1 := Lib.hid h1
  have H2 := Lib.hid h2
  clear h1 h2
  generalize decS x = s at *
  go_enter Tryz.func86, Tryz.ntmps86
  go_wp2_with fail
  go_loopw [3, 4] (fun av iv wr => (iv = .int .i64 1 ∧ av = .slice none 0 0 ∧ wr = w) ∨ (iv = .int .i64 (-8) ∧ Own wr (fun g => w.heap.size ≤ g) 88 1 av 1 [.int .u32 x] ∧ Below w.heap.size w wr)) (fun _ iv _ => (intOf iv).toNat)
  case atStart => exact Or.inl ⟨rfl, rfl, rfl⟩
  rcases hrel with ⟨rfl, rfl, rfl⟩ | ⟨rfl, ho, hb⟩
  · go_wp2_with fail
    refine (HP.out _).mono ?_
    rintro e w1 ⟨rfl, hb1⟩
    have HB1 := Lib.hid hb1
    clear hb1
    go_wp2_with (at_builtin; go_must (refine wpList_append_any _ rfl _ _ 91 rfl 88 i0 _ 1 4 Tryz.underlying91 hi0 hz0 hz1 hz2 rfl (by omega) (.slice none 0 0) _ _ rfl (Own.nil_ _ (fun g => wr.heap.size ≤ g) _ _) _ 1 1 _ rfl (lit_reads _ _ [.int .u32 x] 1 rfl) (by intro u hu; simp at hu; rw [hu]; rfl) (by unfold maxLen; omega) (by omega) ?_); intro v' w3 happ)
    obtain ⟨o3, b3⟩ := appBelow happ (B := wr.heap.size) (by have := HB1.out.size; simp; omega) (fun g hg => by simp [Value.ownBlock] at hg)
    go_roundw
    case rel => exact Or.inr ⟨rfl, o3, (HB1.out.alloc HB1.out.size _).trans b3⟩
    case measure => simp [intOf]
  · have HO := Lib.hid ho
    have HB := Lib.hid hb
    obtain ⟨g, cap, rfl, hc1, hc2, hg, -⟩ := ho.form (by omega)
    have HC := Lib.hid (trim_one wr ⟨g, 0, none⟩ cap x (ho.get 0 (by omega)) H1.out)
    clear ho hb hc1 hc2 hg
    go_wp2_with fail
    refine HC.out.mono ?_
    rintro e w5 ⟨rfl, rfl⟩
    go_wp2_with fail
    go_ret
    exact ⟨_, rfl, Nat1.of_own HO.out H1.out (by have := H2.out; omega), HB.out⟩
end Go.Proofs.YtmlfgokbcafbkaaGreatDoor

namespace Go.Proofs.YtmlfgokbcafbkaaGreatDoor
open Go.RowKit

theorem decS_trim : ∀ x : Nat, x < 10 → Lib.trimS (decS x).data.toList [48, 49, 50, 51, 52, 53, 54, 55, 56, 57] = [] := by decide
theorem decS_nl (x : Nat) : ¬ (decS x).toList = [] := by
  rw [ByteArray.toList_eq]
  simp [decS]
theorem decS_ne (x : Nat) : (decS x).toList.isEmpty = false := by
  have := decS_nl x
  cases h : (decS x).toList with
  | nil => exact absurd h this
  | cons a b => rfl
theorem decS_n0' : ∀ x : Nat, x < 10 → 1 ≤ x → ¬ ((UInt8.ofNat (48 + x)).toNat : Int) = 48 := by decide
theorem decS_n0 (x : Nat) (h2 : x < 10) (h1 : 1 ≤ x) {h : 0 < (decS x).size} : ¬ (((decS x)[0]'h).toNat : Int) = 48 := decS_n0' x h2 h1
set_option maxRecDepth 100000 in
set_option maxHeartbeats 4000000 in
theorem digits_any (w : World) (x : Nat) (h1 : 1 ≤ x) (h2 : x < 10) :
    Calls Tryz.prog 84 #[.string (decS x)] w fun e w' => e = .returned (.bool true) ∧ Below w.heap.size w w' := by
  have HT : Hid (∀ W, Calls Tryz.prog 98 #[.string (decS x), .string ⟨#[48, 49, 50, 51, 52, 53, 54, 55, 56, 57]⟩] W fun e w' => e = .returned (.string ⟨#[]⟩) ∧ Below W.heap.size W w') := Lib.hid fun W => by
    have := Tryz.strings_Trim (decS x) ⟨#[48, 49, 50, 51, 52, 53, 54, 55, 56, 57]⟩ W (by rw [decS_size]; omega) (by decide) (fun j b hj => (by decide : ∀ b ∈ [(48 : UInt8), 49, 50, 51, 52, 53, 54, 55, 56, 57], b.toNat < 128) b (List.mem_of_getElem? hj))
    rw [decS_trim x h2] at this
    exact this
  have hne := decS_ne x
  have hnl := decS_nl x
  have hsz := decS_size x
  have hn0 : Hid (∀ h : 0 < (decS x).size, ¬ (((decS x)[0]'h).toNat : Int) = 48) := Lib.hid fun h => decS_n0 x h2 h1
  clear h1 h2
  generalize decS x = s at *
  go_enter Tryz.func84, Tryz.ntmps84
  go_wp2_with fail
  refine (HT.out _).mono ?_
  rintro e w1 ⟨rfl, hb1⟩
  have HB1 := Lib.hid hb1
  clear hb1
  go_wp2_with fail
  · rename_i hq
    exact absurd hq (hn0.out _)
  · go_ret
    exact ⟨rfl, HB1.out⟩
end Go.Proofs.YtmlfgokbcafbkaaGreatDoor

namespace Go.Proofs.YtmlfgokbcafbkaaGreatDoor
open Go.RowKit

theorem decS_pre : ∀ x : Nat, x < 10 → Lib.hasPrefix (decS x).data.toList [45] = false := by decide
theorem cut_any (w : World) (x : Nat) (h : x < 10) : Calls Tryz.prog 83 #[.string (decS x), .string ⟨#[45]⟩] w fun e w' => e = .returned (.tuple #[.string (decS x), .bool false]) ∧ w' = w := by
  have h1 := Tryz.strings_CutPrefix (decS x) ⟨#[45]⟩ w
  have h2 : Lib.hasPrefix (decS x).data.toList (#[45] : Array UInt8).toList = false := decS_pre x h
  have h3 : (⟨(Lib.trimPrefix (decS x).data.toList (#[45] : Array UInt8).toList).toArray⟩ : ByteArray) = decS x := by
    unfold Lib.trimPrefix
    rw [h2]
    rfl
  rw [h2] at h1
  rw [h3] at h1
  exact h1
theorem decS_not (x y : Nat) (hx : x < 10) (hy : y < 10) (h : ¬ x = y) : ¬ (decS x).toList = [UInt8.ofNat (48 + y)] := by
  rw [ByteArray.toList_eq]
  intro e
  have e1 : UInt8.ofNat (48 + x) = UInt8.ofNat (48 + y) := by simpa [decS] using e
  have e2 := congrArg UInt8.toNat e1
  simp at e2
  omega
theorem decS_not' (x y : Nat) (hx : x < 10) (hy : y < 10) (h : ¬ x = y) : ((decS x).toList == [UInt8.ofNat (48 + y)]) = false := by
  simpa using decS_not x y hx hy h
set_option maxRecDepth 100000 in
set_option maxHeartbeats 4000000 in
theorem ncheck_any (w : World) (x y : Nat) (h1 : 1 ≤ x) (h2 : x < 10) (h3 : 2 ≤ y) (h4 : y < 10) (hg : Nat.gcd x y = 1) :
    Calls Tryz.prog 65 #[.agg #[.string (decS x), .string (decS y)]] w fun e w' => e = .returned (.int .i64 0) ∧ Below w.heap.size w w' := by
  have HC := Lib.hid (fun W => cut_any W x h2)
  have HDX := Lib.hid (fun W => digits_any W x h1 h2)
  have HDY := Lib.hid (fun W => digits_any W y (by omega) h4)
  have HPX := Lib.hid (fun W => nparse_any W x h1 h2)
  have HPY := Lib.hid (fun W => nparse_any W y (by omega) h4)
  have HG : Hid (∀ W u v, Nat1 W u x → Nat1 W v y → Calls Tryz.prog 85 #[u, v] W fun e w' => ∃ r, e = .returned r ∧ Nat1 w' r 1 ∧ Below W.heap.size W w') := Lib.hid fun W u v hu hv => by
    have := gcd_any W u v x y hu hv
    rw [hg] at this
    exact this
  have hx0 := decS_not' x 0 h2 (by omega) (by omega)
  have hy0 := decS_not' y 0 h4 (by omega) (by omega)
  have hy1 := decS_not' y 1 h4 (by omega) (by omega)
  have hx0' := decS_not x 0 h2 (by omega) (by omega)
  have hy0' := decS_not y 0 h4 (by omega) (by omega)
  have hy1' := decS_not y 1 h4 (by omega) (by omega)
  clear h1 h2 h3 h4 hg
  rw [show UInt8.ofNat (48 + 0) = 48 from rfl] at hx0 hy0 hx0' hy0'
  rw [show UInt8.ofNat (48 + 1) = 49 from rfl] at hy1 hy1'
  generalize decS x = sx at *
  generalize decS y = sy at *
  have KR := Lib.hid (Blk.new w 60 #[.string sx, .string sy])
  have HB0 := Lib.hid ((Below.refl w.heap.size w).alloc (Nat.le_refl _) (.cells #[.string sx, .string sy] 60))
  go_enter Tryz.func65, Tryz.ntmps65
  go_wp2_with fail
  refine (HC.out _).mono ?_
  rintro e w1 ⟨rfl, rfl⟩
  go_wp2_with fail
  refine (HDX.out _).mono ?_
  rintro e w1 ⟨rfl, hb1⟩
  have K1 := Lib.hid (KR.out.below hb1 KR.out.lt)
  have B1 := Lib.hid (HB0.out.trans (hb1.mono HB0.out.size))
  clear hb1
  have e1 : w1.cell? ⟨w.heap.size, 1, none⟩ = some (.string sy) := K1.out.cell 1
  go_wp2_with fail
  refine (HDY.out _).mono ?_
  rintro e w2 ⟨rfl, hb2⟩
  have K2 := Lib.hid (K1.out.below hb2 K1.out.lt)
  have B2 := Lib.hid (B1.out.trans (hb2.mono B1.out.size))
  clear hb2 e1
  have e1 : w2.cell? ⟨w.heap.size, 1, none⟩ = some (.string sy) := K2.out.cell 1
  go_wp2_with fail
  have zr := K2.out.lt
  have H11 : Hid (∀ W u, Nat1 W u 1 → Calls Tryz.prog 67 #[u] W fun e w' => e = .returned (.bool true) ∧ w' = W) := Lib.hid fun W u hu => one_any W u 1 hu
  clear hx0 hx0' hy0 hy0'
  go_region_held3 (fun w' => w'.cell? ⟨w.heap.size, 1, none⟩ = some (.string sy)) (first | (go_keep; done) | exact ((bcell hb5).1 _ _ z4).trans s4 | exact s4 | exact s3) ((first
    | (go_at_call 86; with_reducible show Calls _ _ #[Value.string sx] _ _; refine (HPX.out _).mono ?_; rintro e w3 ⟨n, rfl, hn, hb3⟩; replace hb3 := below_start hb3; have s3 : w3.cell? ⟨w.heap.size, 1, none⟩ = some (.string sy) := ((bcell hb3).1 _ _ zr).trans e1; have z3 : w.heap.size < w3.heap.size := Nat.lt_of_lt_of_le zr hb3.size)
    | (go_at_call 86; with_reducible show Calls _ _ #[Value.string sy] _ _; refine (HPY.out _).mono ?_; rintro e w4 ⟨d, rfl, hd, hb4⟩; have s4 : w4.cell? ⟨w.heap.size, 1, none⟩ = some (.string sy) := ((bcell hb4).1 _ _ z3).trans s3; have z4 : w.heap.size < w4.heap.size := Nat.lt_of_lt_of_le z3 hb4.size)
    | (go_at_call 85; refine (HG.out _ _ _ (hn.fresh hb4) hd).mono ?_; rintro e w5 ⟨r, rfl, hr, hb5⟩)
    | (go_at_call 67; refine (H11.out _ _ hr).mono ?_; rintro e w6 ⟨rfl, rfl⟩)))
  have HBE := Lib.hid (B2.out.trans ((hb3.trans ((hb4.mono hb3.size).trans (hb5.mono (Nat.le_trans hb3.size hb4.size)))).mono B2.out.size))
  clear hb3 hb4 hb5 hn hd hr s3 s4 z3 z4 e1
  go_wp2_with fail
  go_ret
  exact ⟨rfl, HBE.out⟩
end Go.Proofs.YtmlfgokbcafbkaaGreatDoor

namespace Go.Proofs.YtmlfgokbcafbkaaGreatDoor
open Go.RowKit

set_option maxRecDepth 100000 in
set_option maxHeartbeats 4000000 in
theorem fof_any (w : World) (x y : Nat) (h1 : 1 ≤ x) (h2 : x < 10) (h3 : 1 ≤ y) (h4 : y < 10) :
    Calls Tryz.prog 66 #[.agg #[.string (decS x), .string (decS y)]] w fun e w' => ∃ u' v', e = .returned (.agg #[.bool false, u', v']) ∧ Nat1 w' u' x ∧ Nat1 w' v' y ∧ Below w.heap.size w w' := by
  have HC := Lib.hid (fun W => cut_any W x h2)
  have HPX := Lib.hid (fun W => nparse_any W x h1 h2)
  have HPY := Lib.hid (fun W => nparse_any W y h3 h4)
  clear h1 h2 h3 h4
  generalize decS x = sx at *
  generalize decS y = sy at *
  have ka := (Blk.new w 60 #[.string sx, .string sy]).alloc (.cells #[.bool false, .slice none 0 0, .slice none 0 0] 93)
  have kr := Blk.new (w.alloc (.cells #[.string sx, .string sy] 60)) 93 #[.bool false, .slice none 0 0, .slice none 0 0]
  have hb0 := ((Below.refl w.heap.size w).alloc (Nat.le_refl _) (.cells #[.string sx, .string sy] 60)).alloc (by simp) (.cells #[.bool false, .slice none 0 0, .slice none 0 0] 93)
  simp only [World.size_alloc] at kr
  have KA := Lib.hid ka
  have KR := Lib.hid kr
  have HB0 := Lib.hid hb0
  clear ka kr hb0
  go_enter Tryz.func66, Tryz.ntmps66
  go_wp2_with fail
  refine (HC.out _).mono ?_
  rintro e w1 ⟨rfl, hw1⟩
  generalize (w.alloc (.cells #[.string sx, .string sy] 60)).alloc (.cells #[.bool false, .slice none 0 0, .slice none 0 0] 93) = W at *
  subst hw1
  have e1 : w1.cell? ⟨w.heap.size, 1, none⟩ = some (.string sy) := KA.out.cell 1
  have zr := KA.out.lt
  have zs := KR.out.lt
  have zr0 : w.heap.size ≠ w.heap.size + 1 := by omega
  go_wp2_with fail
  go_region_held3 (fun w' => w'.cell? ⟨w.heap.size, 1, none⟩ = some (.string sy)) (first | (go_keep; done) | exact s4 | exact s3 | exact (far3 _ _ _ _ _ _ _ zr0).trans s4) ((first
    | (go_at_call 86; with_reducible show Calls _ _ #[Value.string sx] _ _; refine (HPX.out _).mono ?_; rintro e w3 ⟨n, rfl, hn, hb3⟩; obtain ⟨B1, k1, rfl⟩ := hn.lit; replace hb3 := below_start hb3; have s3 : w3.cell? ⟨w.heap.size, 1, none⟩ = some (.string sy) := ((bcell hb3).1 _ _ zr).trans e1; have z3 : w.heap.size < w3.heap.size := Nat.lt_of_lt_of_le zr hb3.size)
    | (go_at_call 86; with_reducible show Calls _ _ #[Value.string sy] _ _; refine (HPY.out _).mono ?_; rintro e w4 ⟨d, rfl, hd, hb4⟩; obtain ⟨B2, k2, rfl⟩ := hd.lit
       have s4 : w4.cell? ⟨w.heap.size, 1, none⟩ = some (.string sy) := ((bcell hb4).1 _ _ z3).trans s3
       have KR4 := (KR.out.below hb3 KR.out.lt).below hb4 (KR.out.below hb3 KR.out.lt).lt
       have e0 := KR4.cell 0
       have e1 := KR4.cell 1
       have e2 := KR4.cell 2
       have f0 := KR4.frozen 0
       have f1 := KR4.frozen 1
       have f2 := KR4.frozen 2
       simp only [List.getElem?_toArray, List.getElem?_cons_zero, List.getElem?_cons_succ] at e0 e1 e2)))
  have KR3 := Lib.hid KR4
  have HN1 := Lib.hid ((hn.fresh hb4).past KR3.out (keeps3' w4 _ (.bool false) (.slice B1 1 k1) (.slice B2 1 k2)))
  have HN2 := Lib.hid (hd.past KR3.out (keeps3' w4 _ (.bool false) (.slice B1 1 k1) (.slice B2 1 k2)))
  have HBE := Lib.hid (HB0.out.trans ((hb3.trans (hb4.mono hb3.size)).mono HB0.out.size))
  clear hb3 hb4 hn hd s3 s4 z3 e0 e1 e2 f0 f1 f2 KR4
  go_wp2_with fail
  refine bodyPost_ret (v := .agg #[.bool false, .slice B1 1 k1, .slice B2 1 k2]) ?_ ?_ ?_
  · exact res_cell (p := 2) (ty := 93) (fn := Tryz.f66) rfl _ _ (w.heap.size + 1) 93 #[.bool false, .slice B1 1 k1, .slice B2 1 k2] _ rfl (blk3' w4 _ 93 _ _ _ _ _ _ KR3.out) Tryz.underlying93 rfl frac_size
  · rfl
  exact ⟨_, _, rfl, HN1.out, HN2.out, ((Keeps.of_below HBE.out (fun _ => False)).trans (keeps3' w4 _ _ _ _) (fun i hi h => by omega)).to_below⟩
end Go.Proofs.YtmlfgokbcafbkaaGreatDoor

namespace Go.Proofs.YtmlfgokbcafbkaaGreatDoor
open Go.RowKit

theorem far2 (w : World) (g b o : Nat) (a0 a1 : Value) (hne : b ≠ g) : ((w.setCell ⟨g, 0, none⟩ a0).setCell ⟨g, 1, none⟩ a1).cell? ⟨b, o, none⟩ = w.cell? ⟨b, o, none⟩ := by
  unfold World.cell?
  rw [Below.heap_setCell _ ⟨g, 1, none⟩ _ b hne, Below.heap_setCell _ ⟨g, 0, none⟩ _ b hne]
set_option maxRecDepth 100000 in
set_option maxHeartbeats 4000000 in
theorem two_half (w : World) :
    Calls Tryz.prog 51 #[.agg #[.string (decS 1), .string (decS 2)], .agg #[.string (decS 1), .string (decS 2)], .func (.func 52) #[] #[]] w fun e w' => e = .returned (.tuple #[.agg #[.string (decS 1), .string (decS 1)], .int .i64 0]) ∧ Below w.heap.size w w' := by
  have HCH := Lib.hid (fun W => ncheck_any W 1 2 (by omega) (by omega) (by omega) (by omega) (by decide))
  have HOF := Lib.hid (fun W => fof_any W 1 2 (by omega) (by omega) (by omega) (by omega))
  have HRA := Lib.hid (fun W n d hn hd => rat_any W n d 1 1 hn hd (by omega) (by omega))
  generalize decS 1 = s1 at *
  generalize decS 2 = s2 at *
  have ka := ((Blk.new w 60 #[.string s1, .string s2]).alloc (.cells #[.string s1, .string s2] 60)).alloc (.cells #[.string ⟨#[]⟩, .string ⟨#[]⟩] 60)
  have kb := (Blk.new (w.alloc (.cells #[.string s1, .string s2] 60)) 60 #[.string s1, .string s2]).alloc (.cells #[.string ⟨#[]⟩, .string ⟨#[]⟩] 60)
  have kr := Blk.new ((w.alloc (.cells #[.string s1, .string s2] 60)).alloc (.cells #[.string s1, .string s2] 60)) 60 #[.string ⟨#[]⟩, .string ⟨#[]⟩]
  have hb0 := (((Below.refl w.heap.size w).alloc (Nat.le_refl _) (.cells #[.string s1, .string s2] 60)).alloc (by simp) (.cells #[.string s1, .string s2] 60)).alloc (by simp; omega) (.cells #[.string ⟨#[]⟩, .string ⟨#[]⟩] 60)
  simp only [World.size_alloc] at kb kr
  have KA := Lib.hid ka
  have KB := Lib.hid kb
  have KR := Lib.hid kr
  have HB0 := Lib.hid hb0
  clear ka kb kr hb0
  go_enter Tryz.func51, Tryz.ntmps51
  go_wp2_with fail
  refine (HCH.out _).mono ?_
  rintro e w1 ⟨rfl, hb1⟩
  have KA1 := Lib.hid (KA.out.below hb1 KA.out.lt)
  have KB1 := Lib.hid (KB.out.below hb1 KB.out.lt)
  have KR1 := Lib.hid (KR.out.below hb1 KR.out.lt)
  have HB1 := Lib.hid (HB0.out.trans (hb1.mono HB0.out.size))
  clear hb1 KA KB KR HB0
  have b0 : w1.cell? ⟨w.heap.size + 1, 0, none⟩ = some (.string s1) := KB1.out.cell 0
  have b1 : w1.cell? ⟨w.heap.size + 1, 1, none⟩ = some (.string s2) := KB1.out.cell 1
  go_wp2_with fail
  refine (HCH.out _).mono ?_
  rintro e w2 ⟨rfl, hb2⟩
  have KA2 := Lib.hid (KA1.out.below hb2 KA1.out.lt)
  have KB2 := Lib.hid (KB1.out.below hb2 KB1.out.lt)
  have KR2 := Lib.hid (KR1.out.below hb2 KR1.out.lt)
  have HB2 := Lib.hid (HB1.out.trans (hb2.mono HB1.out.size))
  clear hb2 KA1 KB1 KR1 HB1 b0 b1 HCH
  have a0 : w2.cell? ⟨w.heap.size, 0, none⟩ = some (.string s1) := KA2.out.cell 0
  have a1 : w2.cell? ⟨w.heap.size, 1, none⟩ = some (.string s2) := KA2.out.cell 1
  have b0 : w2.cell? ⟨w.heap.size + 1, 0, none⟩ = some (.string s1) := KB2.out.cell 0
  have b1 : w2.cell? ⟨w.heap.size + 1, 1, none⟩ = some (.string s2) := KB2.out.cell 1
  have za := KA2.out.lt
  have zb := KB2.out.lt
  have zr0 : w.heap.size ≠ w.heap.size + 1 + 1 := by omega
  have zr1 : w.heap.size + 1 ≠ w.heap.size + 1 + 1 := by omega
  go_wp2_with fail
  go_region_held3 (fun w' => w'.cell? ⟨w.heap.size, 0, none⟩ = some (.string s1) ∧ w'.cell? ⟨w.heap.size, 1, none⟩ = some (.string s2) ∧ w'.cell? ⟨w.heap.size + 1, 0, none⟩ = some (.string s1) ∧ w'.cell? ⟨w.heap.size + 1, 1, none⟩ = some (.string s2)) (first | (go_keep; done) | exact ⟨(be _ _ za).trans a0, (be _ _ za).trans a1, (be _ _ zb).trans b0, (be _ _ zb).trans b1⟩ | exact ⟨(bd _ _ za).trans a0, (bd _ _ za).trans a1, (bd _ _ zb).trans b0, (bd _ _ zb).trans b1⟩ | exact ⟨(bc _ _ za).trans a0, (bc _ _ za).trans a1, (bc _ _ zb).trans b0, (bc _ _ zb).trans b1⟩ | exact ⟨(bf _ _ za).trans a0, (bf _ _ za).trans a1, (bf _ _ zb).trans b0, (bf _ _ zb).trans b1⟩ | exact ⟨(far2 _ _ _ _ _ _ zr0).trans ((bf _ _ za).trans a0), (far2 _ _ _ _ _ _ zr0).trans ((bf _ _ za).trans a1), (far2 _ _ _ _ _ _ zr1).trans ((bf _ _ zb).trans b0), (far2 _ _ _ _ _ _ zr1).trans ((bf _ _ zb).trans b1)⟩) ((first
    | (go_at_call 66; have hh := hx1; clear hh; refine (HOF.out _).mono ?_; rintro e w4 ⟨x2, y2, rfl, hx2, hy2, hb4⟩; have bd : ∀ (b o : Nat), b < w2.heap.size → w4.cell? ⟨b, o, none⟩ = w2.cell? ⟨b, o, none⟩ := fun b o h => ((bcell hb4).1 b o (Nat.lt_of_lt_of_le h hb3.size)).trans (bc b o h))
    | (go_at_call 66; refine (HOF.out _).mono ?_; rintro e w3 ⟨x1, y1, rfl, hx1, hy1, hb3⟩; replace hb3 := below_start hb3; have bc := (bcell hb3).1)
    | (go_at_call 52; refine (fadd_half _ _ _ _ _ (hx1.fresh hb4) (hy1.fresh hb4) hx2 hy2).mono ?_; rintro e w5 ⟨x3, y3, rfl, hx3, hy3, hb5⟩; have be : ∀ (b o : Nat), b < w2.heap.size → w5.cell? ⟨b, o, none⟩ = w2.cell? ⟨b, o, none⟩ := fun b o h => ((bcell hb5).1 b o (Nat.lt_of_lt_of_le (Nat.lt_of_lt_of_le h hb3.size) hb4.size)).trans (bd b o h))
    | (go_at_call 50; refine (HRA.out _ _ _ hx3 hy3).mono ?_; rintro e w6 ⟨rfl, hb6⟩
       have bf : ∀ (b o : Nat), b < w2.heap.size → w6.cell? ⟨b, o, none⟩ = w2.cell? ⟨b, o, none⟩ := fun b o h => ((bcell hb6).1 b o (Nat.lt_of_lt_of_le (Nat.lt_of_lt_of_le (Nat.lt_of_lt_of_le h hb3.size) hb4.size) hb5.size)).trans (be b o h)
       have hb26 := hb3.trans ((hb4.mono hb3.size).trans ((hb5.mono (Nat.le_trans hb3.size hb4.size)).trans (hb6.mono (Nat.le_trans (Nat.le_trans hb3.size hb4.size) hb5.size))))
       have KR5 := KR2.out.below hb26 KR2.out.lt
       have e0 := KR5.cell 0
       have e1 := KR5.cell 1
       have f0 := KR5.frozen 0
       have f1 := KR5.frozen 1
       simp only [List.getElem?_toArray, List.getElem?_cons_zero, List.getElem?_cons_succ] at e0 e1)))
  have KR6 := Lib.hid KR5
  have HBE := Lib.hid (HB2.out.trans (hb26.mono HB2.out.size))
  clear hb3 hb4 hb5 hb6 hb26 hx1 hy1 hx2 hy2 hx3 hy3 bc bd be bf a0 a1 b0 b1 za zb e0 e1 f0 f1 KR5 HOF HRA
  go_wp2_with fail
  refine bodyPost_ret (v := .tuple #[.agg #[.string s1, .string s1], .int .i64 0]) ?_ ?_ ?_
  · exact res_row_tmp (p := 6) (u := 7) (ty := 60) (fn := Tryz.f51) rfl _ _ (w.heap.size + 1 + 1) 60 #[.string s1, .string s1] _ rfl (blk2' w6 _ 60 _ _ _ _ KR6.out) Tryz.underlying60 rfl rat_size
  · rfl
  exact ⟨rfl, ((Keeps.of_below HBE.out (fun _ => False)).trans (keeps2' w6 _ _ _) (fun i hi h => by omega)).to_below⟩
set_option maxRecDepth 100000 in
set_option maxHeartbeats 4000000 in
theorem nadd_half (w : World) :
    Calls Tryz.prog 30 #[.agg #[.string (decS 1), .string (decS 2)], .agg #[.string (decS 1), .string (decS 2)]] w fun e w' => e = .returned (.tuple #[.agg #[.string (decS 1), .string (decS 1)], .int .i64 0]) ∧ Below w.heap.size w w' := by
  have HTW := Lib.hid two_half
  generalize decS 1 = s1 at *
  generalize decS 2 = s2 at *
  have kr := Blk.new ((w.alloc (.cells #[.string s1, .string s2] 60)).alloc (.cells #[.string s1, .string s2] 60)) 60 #[.string ⟨#[]⟩, .string ⟨#[]⟩]
  have hb0 := (((Below.refl w.heap.size w).alloc (Nat.le_refl _) (.cells #[.string s1, .string s2] 60)).alloc (by simp) (.cells #[.string s1, .string s2] 60)).alloc (by simp; omega) (.cells #[.string ⟨#[]⟩, .string ⟨#[]⟩] 60)
  simp only [World.size_alloc] at kr
  have KR := Lib.hid kr
  have HB0 := Lib.hid hb0
  clear kr hb0
  go_enter Tryz.func30, Tryz.ntmps30
  go_wp2_with fail
  refine (HTW.out _).mono ?_
  rintro e w5 ⟨rfl, hb5⟩
  have KR5 := Lib.hid (KR.out.below hb5 KR.out.lt)
  have HB5 := Lib.hid (HB0.out.trans (hb5.mono HB0.out.size))
  clear hb5
  have e0 : w5.cell? ⟨w.heap.size + 1 + 1, 0, none⟩ = some (.string ⟨#[]⟩) := KR5.out.cell 0
  have f0 := KR5.out.frozen 0
  have e1 : w5.cell? ⟨w.heap.size + 1 + 1, 1, none⟩ = some (.string ⟨#[]⟩) := KR5.out.cell 1
  have f1 := KR5.out.frozen 1
  go_wp2_with fail
  refine bodyPost_ret (v := .tuple #[.agg #[.string s1, .string s1], .int .i64 0]) ?_ ?_ ?_
  · exact res_row_tmp (p := 4) (u := 5) (ty := 60) (fn := Tryz.f30) rfl _ _ (w.heap.size + 1 + 1) 60 #[.string s1, .string s1] _ rfl (blk2' w5 _ 60 _ _ _ _ KR5.out) Tryz.underlying60 rfl rat_size
  · rfl
  exact ⟨rfl, ((Keeps.of_below HB5.out (fun _ => False)).trans (keeps2' w5 _ _ _) (fun i hi h => by omega)).to_below⟩
end Go.Proofs.YtmlfgokbcafbkaaGreatDoor

namespace Go.Proofs.YtmlfgokbcafbkaaGreatDoor
open Go.RowKit

set_option maxRecDepth 100000 in
set_option maxHeartbeats 4000000 in
theorem h10one_any (w : World) :
    Calls Tryz.prog 8 #[] w fun e w' => e = .returned (.bool true) ∧ Below w.heap.size w w' := by
  have HM : Hid (∀ W, Calls Tryz.prog 29 #[.int .i64 1, .int .i64 2] W fun e w' => e = .returned (.tuple #[.agg #[.string (decS 1), .string (decS 2)], .int .i64 0]) ∧ Below W.heap.size W w') := Lib.hid fun W => make_any W 1 2 (by omega) (by omega) (by omega) (by omega) (by decide)
  have HA := Lib.hid nadd_half
  have HW1 : Hid (∀ W, Calls Tryz.prog 31 #[.int .i64 1] W fun e w' => e = .returned (.agg #[.string (decS 1), .string (decS 1)]) ∧ Below W.heap.size W w') := Lib.hid fun W => whole_any W 1 (by omega) (by omega)
  have HW2 : Hid (∀ W, Calls Tryz.prog 31 #[.int .i64 2] W fun e w' => e = .returned (.agg #[.string (decS 2), .string (decS 1)]) ∧ Below W.heap.size W w') := Lib.hid fun W => whole_any W 2 (by omega) (by omega)
  have hne : ¬ decS 1 = decS 2 := by decide
  have hne' : ¬ decS 2 = decS 1 := by decide
  have hnl : ¬ (decS 1).toList = (decS 2).toList := by
    rw [ByteArray.toList_eq, ByteArray.toList_eq]
    decide
  have hnm : ((decS 1).toList == (decS 2).toList) = false := by simpa using hnl
  generalize decS 1 = s1 at *
  generalize decS 2 = s2 at *
  go_enter Tryz.func8, Tryz.ntmps8
  go_wp2_with fail
  refine (HM.out _).mono ?_
  rintro e w1 ⟨rfl, hb1⟩
  have HB1 := Lib.hid hb1
  clear hb1
  go_wp2_with fail
  refine (HA.out _).mono ?_
  rintro e w2 ⟨rfl, hb2⟩
  have HB2 := Lib.hid hb2
  clear hb2
  go_wp2_with fail
  have KR := Lib.hid (Blk.new w2 60 #[.string s1, .string s1])
  have HB3 := Lib.hid (((HB1.out.alloc HB1.out.size _).trans (HB2.out.mono (by have := HB1.out.size; simp; omega))).alloc (Nat.le_trans (Nat.le_trans HB1.out.size (by simp)) HB2.out.size) (.cells #[.string s1, .string s1] 60))
  generalize w2.alloc (.cells #[.string s1, .string s1] 60) = W at *
  have a0 : W.cell? ⟨w2.heap.size, 0, none⟩ = some (.string s1) := KR.out.cell 0
  have a1 : W.cell? ⟨w2.heap.size, 1, none⟩ = some (.string s1) := KR.out.cell 1
  have za := KR.out.lt
  clear HM HA HB1 HB2
  go_region_held3 (fun w' => w'.cell? ⟨w2.heap.size, 0, none⟩ = some (.string s1) ∧ w'.cell? ⟨w2.heap.size, 1, none⟩ = some (.string s1)) (first | (go_keep; done) | exact ⟨(bd _ _ za).trans a0, (bd _ _ za).trans a1⟩ | exact ⟨(bc _ _ za).trans a0, (bc _ _ za).trans a1⟩) ((first
    | (go_at_call 31; with_reducible show Calls _ _ #[Value.int IntKind.i64 1] _ _; refine (HW1.out _).mono ?_; rintro e w3 ⟨rfl, hb3⟩; replace hb3 := below_start hb3; have bc := (bcell hb3).1)
    | (go_at_call 31; with_reducible show Calls _ _ #[Value.int IntKind.i64 2] _ _; refine (HW2.out _).mono ?_; rintro e w4 ⟨rfl, hb4⟩; have bd : ∀ (b o : Nat), b < W.heap.size → w4.cell? ⟨b, o, none⟩ = W.cell? ⟨b, o, none⟩ := fun b o h => ((bcell hb4).1 b o (Nat.lt_of_lt_of_le h hb3.size)).trans (bc b o h))))
  have HBE := Lib.hid (HB3.out.trans ((hb3.trans (hb4.mono hb3.size)).mono HB3.out.size))
  clear hb3 hb4 bc bd a0 a1 za
  go_wp2_with fail
  go_ret
  exact ⟨rfl, HBE.out⟩
end Go.Proofs.YtmlfgokbcafbkaaGreatDoor

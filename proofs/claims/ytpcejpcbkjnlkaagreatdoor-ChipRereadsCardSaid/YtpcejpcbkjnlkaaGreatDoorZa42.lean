/- stands by computing: calls that are computed once and told again. Printed by gen_stands.py: the numbers are those of this seat's translation. -/
import Derived.Test.YtpcejpcbkjnlkaaGreatDoorProg
import Derived.Test.YtpcejpcbkjnlkaaGreatDoorZa41
set_option linter.unusedVariables false
namespace Go.Proofs.YtpcejpcbkjnlkaaGreatDoor.AE
open Go.RowKit
set_option maxRecDepth 1000000
noncomputable def idleF : FuncId → Bool := fun f => Nat.beq f 365
noncomputable def sums0 : CallFn := orCall (toldSeq 436 385) (toldLaid 63 3)
/-- weftworks/graph.Eval: 3117 operations -/
noncomputable def m1 : Memo := ⟨27, [.agg #[.string ⟨#[103]⟩, .slice none 0 0, .slice (some ⟨2, 0, none⟩) 2 2, .slice (some ⟨3, 0, none⟩) 1 1, .slice none 0 0], .slice none 0 0],
  [(0, .row 1 (tOf [(0, .int .i64 3)]) none 3 none),
   (1, .row 2 (tOf [(0, .int .i64 0), (1, .int .i64 0)]) none 3 none),
   (2, .row 24 (tOf [(0, .int .i64 2), (1, .slice none 0 0), (2, .string .empty), (3, .slice none 0 0), (4, .string .empty), (5, .slice none 0 0), (6, .int .i64 0), (7, .int .i64 0), (8, .int .i64 0), (9, .int .i64 0), (10, .slice (some ⟨0, 0, none⟩) 1 1), (11, .slice none 0 0), (12, .int .i64 4), (13, .slice (some ⟨1, 0, none⟩) 2 2), (14, .string .empty), (15, .slice none 0 0), (16, .string .empty), (17, .slice none 0 0), (18, .int .i64 0), (19, .int .i64 0), (20, .int .i64 0), (21, .int .i64 0), (22, .slice none 0 0), (23, .slice none 0 0)]) none 71 none),
   (3, .row 1 (tOf [(0, .int .i64 1)]) none 3 none)], 5, .tuple #[.slice (some ⟨138, 0, none⟩) 1 18446744073709551616, .int .i64 0], 139, [],
  [(136, .row 1 (tOf [(0, .int .i64 6)]) none 3 (some 1)),
   (138, .row 2 (tOf [(0, .slice none 0 0), (1, .slice (some ⟨136, 0, none⟩) 1 18446744073709551616)]) none 96 (some 2))]⟩

/-- weftworks/opt.Default: 2982 operations -/
noncomputable def m2 : Memo := ⟨28, [.agg #[.string ⟨#[103]⟩, .slice none 0 0, .slice (some ⟨2, 0, none⟩) 2 2, .slice (some ⟨3, 0, none⟩) 1 1, .slice none 0 0]],
  [(0, .row 1 (tOf [(0, .int .i64 3)]) none 3 none),
   (1, .row 2 (tOf [(0, .int .i64 0), (1, .int .i64 0)]) none 3 none),
   (2, .row 24 (tOf [(0, .int .i64 2), (1, .slice none 0 0), (2, .string .empty), (3, .slice none 0 0), (4, .string .empty), (5, .slice none 0 0), (6, .int .i64 0), (7, .int .i64 0), (8, .int .i64 0), (9, .int .i64 0), (10, .slice (some ⟨0, 0, none⟩) 1 1), (11, .slice none 0 0), (12, .int .i64 4), (13, .slice (some ⟨1, 0, none⟩) 2 2), (14, .string .empty), (15, .slice none 0 0), (16, .string .empty), (17, .slice none 0 0), (18, .int .i64 0), (19, .int .i64 0), (20, .int .i64 0), (21, .int .i64 0), (22, .slice none 0 0), (23, .slice none 0 0)]) none 71 none),
   (3, .row 1 (tOf [(0, .int .i64 1)]) none 3 none)], 139, .tuple #[.agg #[.slice (some ⟨256, 0, none⟩) 1 18446744073709551616, .int .i64 1, .slice (some ⟨259, 0, none⟩) 1 18446744073709551616, .slice (some ⟨249, 0, none⟩) 2 18446744073709551616], .int .i64 0], 261, [],
  [(249, .row 2 (tOf [(0, .slice none 0 0), (1, .slice none 0 0)]) none 69 (some 1)),
   (256, .row 3 (tOf [(0, .int .i64 1), (1, .int .i64 1), (2, .int .i64 0)]) none 156 (some 3)),
   (257, .row 1 (tOf [(0, .int .i64 1)]) none 3 none),
   (259, .row 1 (tOf [(0, .slice (some ⟨257, 0, none⟩) 1 1)]) none 22 (some 1))]⟩

/-- weftworks/loops.Lower: 7907 operations -/
noncomputable def m3 : Memo := ⟨29, [.agg #[.string ⟨#[103]⟩, .slice none 0 0, .slice (some ⟨2, 0, none⟩) 2 2, .slice (some ⟨3, 0, none⟩) 1 1, .slice none 0 0], .agg #[.slice (some ⟨256, 0, none⟩) 1 18446744073709551616, .int .i64 1, .slice (some ⟨259, 0, none⟩) 1 18446744073709551616, .slice (some ⟨249, 0, none⟩) 2 18446744073709551616]],
  [(0, .row 1 (tOf [(0, .int .i64 3)]) none 3 none),
   (1, .row 2 (tOf [(0, .int .i64 0), (1, .int .i64 0)]) none 3 none),
   (2, .row 24 (tOf [(0, .int .i64 2), (1, .slice none 0 0), (2, .string .empty), (3, .slice none 0 0), (4, .string .empty), (5, .slice none 0 0), (6, .int .i64 0), (7, .int .i64 0), (8, .int .i64 0), (9, .int .i64 0), (10, .slice (some ⟨0, 0, none⟩) 1 1), (11, .slice none 0 0), (12, .int .i64 4), (13, .slice (some ⟨1, 0, none⟩) 2 2), (14, .string .empty), (15, .slice none 0 0), (16, .string .empty), (17, .slice none 0 0), (18, .int .i64 0), (19, .int .i64 0), (20, .int .i64 0), (21, .int .i64 0), (22, .slice none 0 0), (23, .slice none 0 0)]) none 71 none),
   (3, .row 1 (tOf [(0, .int .i64 1)]) none 3 none),
   (249, .row 2 (tOf [(0, .slice none 0 0), (1, .slice none 0 0)]) none 69 (some 1)),
   (256, .row 3 (tOf [(0, .int .i64 1), (1, .int .i64 1), (2, .int .i64 0)]) none 156 (some 3)),
   (257, .row 1 (tOf [(0, .int .i64 1)]) none 3 none),
   (259, .row 1 (tOf [(0, .slice (some ⟨257, 0, none⟩) 1 1)]) none 22 (some 1))], 262, .tuple #[.agg #[.slice (some ⟨581, 0, none⟩) 3 18446744073709551616, .slice (some ⟨605, 0, none⟩) 2 18446744073709551616], .int .i64 0], 606, [],
  [(521, .row 1 (tOf [(0, .int .i64 3)]) none 3 (some 1)),
   (567, .row 20 (tOf [(0, .int .i64 3), (1, .int .i64 0), (2, .int .i64 0), (3, .int .i64 0), (4, .int .i64 0), (5, .int .i64 0), (6, .int .i64 0), (7, .int .i64 0), (8, .slice none 0 0), (9, .slice none 0 0), (10, .int .i64 3), (11, .int .i64 0), (12, .int .i64 0), (13, .int .i64 0), (14, .int .i64 0), (15, .int .i64 0), (16, .int .i64 0), (17, .int .i64 0), (18, .slice none 0 0), (19, .slice none 0 0)]) none 168 (some 10)),
   (581, .row 12 (tOf [(0, .string ⟨#[116, 48]⟩), (1, .int .i64 1), (2, .bool true), (3, .slice (some ⟨521, 0, none⟩) 1 18446744073709551616), (4, .string ⟨#[97, 114, 101, 110, 97]⟩), (5, .int .i64 1), (6, .bool false), (7, .slice none 0 0), (8, .string ⟨#[111, 117, 116, 48]⟩), (9, .int .i64 1), (10, .bool false), (11, .slice none 0 0)]) none 154 (some 4)),
   (605, .row 42 (tOf [(0, .int .i64 3), (1, .string .empty), (2, .int .i64 0), (3, .int .i64 0), (4, .int .i64 0), (5, .bool false), (6, .slice none 0 0), (7, .slice none 0 0), (8, .int .i64 1), (9, .int .i64 0), (10, .slice none 0 0), (11, .int .i64 5), (12, .int .i64 4), (13, .int .i64 0), (14, .int .i64 0), (15, .int .i64 0), (16, .int .i64 0), (17, .int .i64 0), (18, .int .i64 0), (19, .slice none 0 0), (20, .slice (some ⟨567, 0, none⟩) 2 18446744073709551616), (21, .int .i64 3), (22, .string .empty), (23, .int .i64 0), (24, .int .i64 0), (25, .int .i64 0), (26, .bool false), (27, .slice none 0 0), (28, .slice none 0 0), (29, .int .i64 2), (30, .int .i64 0), (31, .slice none 0 0), (32, .int .i64 3), (33, .int .i64 0), (34, .int .i64 0), (35, .int .i64 0), (36, .int .i64 0), (37, .int .i64 0), (38, .int .i64 1), (39, .int .i64 0), (40, .slice none 0 0), (41, .slice none 0 0)]) none 170 (some 21))]⟩

/-- weftworks/chip.Generate: 6481 operations -/
noncomputable def m4 : Memo := ⟨31, [.agg #[.int .i64 524288, .int .i64 2, .int .i64 256, .int .i64 2, .int .i64 1], .agg #[.slice (some ⟨581, 0, none⟩) 3 18446744073709551616, .slice (some ⟨605, 0, none⟩) 2 18446744073709551616]],
  [(521, .row 1 (tOf [(0, .int .i64 3)]) none 3 (some 1)),
   (567, .row 20 (tOf [(0, .int .i64 3), (1, .int .i64 0), (2, .int .i64 0), (3, .int .i64 0), (4, .int .i64 0), (5, .int .i64 0), (6, .int .i64 0), (7, .int .i64 0), (8, .slice none 0 0), (9, .slice none 0 0), (10, .int .i64 3), (11, .int .i64 0), (12, .int .i64 0), (13, .int .i64 0), (14, .int .i64 0), (15, .int .i64 0), (16, .int .i64 0), (17, .int .i64 0), (18, .slice none 0 0), (19, .slice none 0 0)]) none 168 (some 10)),
   (581, .row 12 (tOf [(0, .string ⟨#[116, 48]⟩), (1, .int .i64 1), (2, .bool true), (3, .slice (some ⟨521, 0, none⟩) 1 18446744073709551616), (4, .string ⟨#[97, 114, 101, 110, 97]⟩), (5, .int .i64 1), (6, .bool false), (7, .slice none 0 0), (8, .string ⟨#[111, 117, 116, 48]⟩), (9, .int .i64 1), (10, .bool false), (11, .slice none 0 0)]) none 154 (some 4)),
   (605, .row 42 (tOf [(0, .int .i64 3), (1, .string .empty), (2, .int .i64 0), (3, .int .i64 0), (4, .int .i64 0), (5, .bool false), (6, .slice none 0 0), (7, .slice none 0 0), (8, .int .i64 1), (9, .int .i64 0), (10, .slice none 0 0), (11, .int .i64 5), (12, .int .i64 4), (13, .int .i64 0), (14, .int .i64 0), (15, .int .i64 0), (16, .int .i64 0), (17, .int .i64 0), (18, .int .i64 0), (19, .slice none 0 0), (20, .slice (some ⟨567, 0, none⟩) 2 18446744073709551616), (21, .int .i64 3), (22, .string .empty), (23, .int .i64 0), (24, .int .i64 0), (25, .int .i64 0), (26, .bool false), (27, .slice none 0 0), (28, .slice none 0 0), (29, .int .i64 2), (30, .int .i64 0), (31, .slice none 0 0), (32, .int .i64 3), (33, .int .i64 0), (34, .int .i64 0), (35, .int .i64 0), (36, .int .i64 0), (37, .int .i64 0), (38, .int .i64 1), (39, .int .i64 0), (40, .slice none 0 0), (41, .slice none 0 0)]) none 170 (some 21))], 609, .tuple #[.slice (some ⟨816, 0, none⟩) 11 18446744073709551616, .int .i64 0], 817, [],
  [(816, .row 99 (tOf [(0, .int .i64 1), (1, .int .i64 0), (2, .int .i64 8), (3, .int .i64 0), (4, .int .i64 0), (5, .int .i64 0), (6, .int .i64 0), (7, .int .i64 0), (8, .int .i64 0), (9, .int .i64 5), (10, .int .i64 0), (11, .int .i64 8), (12, .int .i64 8), (13, .int .i64 0), (14, .int .i64 0), (15, .int .i64 0), (16, .int .i64 0), (17, .int .i64 0), (18, .int .i64 1), (19, .int .i64 0), (20, .int .i64 9), (21, .int .i64 0), (22, .int .i64 0), (23, .int .i64 0), (24, .int .i64 0), (25, .int .i64 0), (26, .int .i64 0), (27, .int .i64 5), (28, .int .i64 0), (29, .int .i64 9), (30, .int .i64 9), (31, .int .i64 0), (32, .int .i64 0), (33, .int .i64 0), (34, .int .i64 0), (35, .int .i64 0), (36, .int .i64 2), (37, .int .i64 4), (38, .int .i64 8), (39, .int .i64 8), (40, .int .i64 9), (41, .int .i64 0), (42, .int .i64 0), (43, .int .i64 0), (44, .int .i64 0), (45, .int .i64 1), (46, .int .i64 0), (47, .int .i64 9), (48, .int .i64 0), (49, .int .i64 0), (50, .int .i64 0), (51, .int .i64 0), (52, .int .i64 0), (53, .int .i64 0), (54, .int .i64 6), (55, .int .i64 0), (56, .int .i64 0), (57, .int .i64 9), (58, .int .i64 8), (59, .int .i64 0), (60, .int .i64 0), (61, .int .i64 1), (62, .int .i64 0), (63, .int .i64 1), (64, .int .i64 0), (65, .int .i64 8), (66, .int .i64 0), (67, .int .i64 0), (68, .int .i64 0), (69, .int .i64 0), (70, .int .i64 0), (71, .int .i64 0), (72, .int .i64 5), (73, .int .i64 0), (74, .int .i64 8), (75, .int .i64 8), (76, .int .i64 0), (77, .int .i64 0), (78, .int .i64 0), (79, .int .i64 1), (80, .int .i64 0), (81, .int .i64 1), (82, .int .i64 0), (83, .int .i64 9), (84, .int .i64 0), (85, .int .i64 0), (86, .int .i64 0), (87, .int .i64 0), (88, .int .i64 0), (89, .int .i64 0), (90, .int .i64 6), (91, .int .i64 0), (92, .int .i64 0), (93, .int .i64 9), (94, .int .i64 8), (95, .int .i64 0), (96, .int .i64 0), (97, .int .i64 2), (98, .int .i64 0)]) none 44 (some 9))]⟩

noncomputable def sums1 : CallFn := orCall m1.call sums0
noncomputable def sums2 : CallFn := orCall m2.call sums1
noncomputable def sums3 : CallFn := orCall m3.call sums2
noncomputable def sums4 : CallFn := orCall m4.call sums3
end Go.Proofs.YtpcejpcbkjnlkaaGreatDoor.AE

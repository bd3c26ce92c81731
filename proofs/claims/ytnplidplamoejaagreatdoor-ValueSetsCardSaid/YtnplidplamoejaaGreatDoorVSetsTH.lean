/- Part of the proof that litmuslaw11.ValueSets answers true for every input. -/
import Derived.Test.YtnplidplamoejaaGreatDoorVSetsTF
import Derived.Test.YtnplidplamoejaaGreatDoorProg
import Derived.Test.YtnplidplamoejaaGreatDoorVSetsTG
set_option linter.unusedVariables false
set_option linter.unusedSimpArgs false
set_option linter.unnecessarySimpa false
namespace Go.Sim
open Go.Proofs
def fTab : List (Nat × FRow) := [
  (3, ⟨[(4, 4), (13, 13), (15, 15), (30, 4), (36, 4), (40, 4), (54, 4)], [(0, [(0, 1)]), (15, [(5, 1)]), (16, [(5, 1)])], [(6, [0, 0, 1, 1, 0, 1, 1, 0, 1, 0, 2]), (12, [0, 0, 1, 0, 0, 1, 1, 0, 1, 1, 1, 0, 0, 0, 0])]⟩),
  (4, ⟨[(7, 7), (8, 8), (9, 9), (10, 10), (11, 11), (28, 9), (32, 11), (38, 11), (42, 11)], [(3, [(4, 1), (5, 1)]), (4, [(4, 1), (5, 1)]), (5, [(5, 1)])], [(5, [0, 0, 2, 0, 2, 0, 2])]⟩),
  (5, ⟨[(7, 7), (8, 8), (10, 10), (11, 11), (21, 7), (27, 7), (40, 7), (54, 7)], [(3, [(4, 1), (5, 1)]), (9, [(5, 1)]), (12, [(7, 1)])], [(7, [0, 1, 0, 0, 1, 2, 0, 2, 1, 0, 1, 2, 0, 0, 1, 0, 0, 1, 2, 0, 0, 0]), (9, [0, 0, 2, 0, 2, 0, 2]), (12, [0, 0, 2, 2, 0, 0, 0, 0, 2, 0]), (13, [1, 2, 0, 2, 1, 0]), (15, [0, 1, 2, 0, 2, 1, 1, 0]), (16, [0, 0, 2, 0, 0, 0, 2, 1, 1, 0, 1, 2, 0, 2, 0, 1, 2, 0, 1, 0, 0])]⟩),
  (6, ⟨[(7, 7), (8, 8), (9, 9), (45, 7), (47, 8)], [(3, [(6, 1), (7, 1), (8, 1)])], []⟩),
  (7, ⟨[(5, 5), (6, 6), (8, 8), (10, 10), (12, 12), (13, 13), (14, 14)], [(3, [(4, 1), (5, 1)]), (5, [(5, 1)]), (6, [(7, 1)]), (9, [(4, 1), (5, 1)]), (12, [(6, 1)])], [(7, [0, 0, 0, 0, 0, 0, 0, 1, 1, 2, 0, 0, 0, 1, 1, 2, 0, 0, 0, 0, 1, 2, 0, 0, 0, 2, 1, 0]), (10, [1, 2, 0, 2, 0, 0, 0, 2, 1])]⟩),
  (8, ⟨[(5, 5), (7, 7), (8, 8), (9, 9), (12, 12), (13, 13), (15, 15), (17, 17), (22, 5), (28, 5), (39, 5), (42, 5)], [(0, [(0, 1)]), (3, [(14, 1)]), (4, [(4, 1), (5, 1)]), (6, [(4, 1)]), (7, [(6, 1)]), (8, [(6, 1)]), (9, [(6, 1)])], [(3, [0, 0, 1, 2, 0, 2, 2, 0, 0, 0, 2, 0, 2, 2, 0, 2]), (5, [0, 1, 2, 0, 0, 2, 0, 0]), (10, [0, 0, 0, 1, 1, 2, 0, 0, 0, 0, 0, 1, 0, 0, 0, 1, 0, 1, 1, 2, 0, 0, 0, 0, 0, 1, 2, 0, 0, 0, 1, 0, 1, 2, 0, 0, 0, 2, 2, 0, 0, 0, 1, 0, 1, 2, 0, 2, 0, 0]), (12, [0, 0, 1, 0, 1, 0, 1, 2, 0, 0, 0, 2, 0, 0, 2, 2, 0, 0]), (14, [0, 0, 0, 1, 0, 1, 2, 0, 2, 0, 0])]⟩),
  (9, ⟨[(1, 1), (6, 6), (8, 8)], [(1, [(4, 1)]), (12, [(8, 1)]), (15, [(5, 1)])], [(16, [0, 2, 0, 0, 1, 2, 0, 0, 1, 2, 0, 0, 0, 1, 2, 1, 0, 0, 1, 2, 1, 0, 0, 1, 0, 2, 1, 0, 0, 0, 0, 0, 0, 0, 2, 2, 0, 2, 0, 0, 2, 2, 1, 0, 0, 2, 2, 2, 1, 0, 0, 2, 2, 2, 1, 0, 0, 2, 2, 2, 1, 0, 0, 0, 2, 1, 0, 0, 2, 2, 1, 0, 0, 0, 2, 1, 0, 0])]⟩),
  (10, ⟨[(3, 3), (5, 5), (6, 6), (8, 8), (29, 5), (37, 5), (40, 8), (41, 8), (45, 8)], [(0, [(0, 1)]), (1, [(2, 1)]), (2, [(3, 1)]), (8, [(1, 1)]), (9, [(3, 1)])], [(3, [1, 2, 0, 2, 1, 0, 1, 1, 2, 0, 0, 2, 1, 0]), (10, [0, 0, 0, 1, 0, 1, 0, 0, 1, 2, 0, 2]), (11, [1, 2, 0, 2, 1, 0, 1, 1, 2, 0, 0, 2, 1, 0])]⟩),
  (11, ⟨[(3, 3), (7, 7), (8, 8), (11, 3), (13, 3), (18, 3), (26, 7)], [(0, [(0, 1)]), (4, [(2, 1)]), (5, [(2, 1)])], [(6, [1, 2, 0, 0, 1, 1, 0, 0, 1, 2, 0, 2, 0, 0, 0, 2, 2, 0, 0, 0, 2, 0, 0, 1, 0, 0, 0, 2, 2, 0, 0, 0, 2, 0, 0, 1, 0, 0, 0, 2, 2, 0, 0, 2, 0, 1, 1, 0, 0, 0, 2, 2, 0, 1, 1, 0, 0])]⟩),
  (12, ⟨[(7, 7), (8, 8), (10, 10), (12, 12), (14, 14), (15, 15), (101, 14), (103, 15), (108, 14), (110, 15)], [(1, [(4, 1), (5, 1)]), (3, [(6, 1)]), (4, [(6, 1)]), (7, [(4, 1), (5, 1)])], [(5, [0, 0, 1, 0, 1, 1, 2, 0, 0, 0, 1, 0, 1, 2, 0, 0, 0, 2, 2, 0, 0, 0, 1, 1, 2, 0, 0, 2, 1, 0, 0, 1, 1, 2, 0, 0, 2, 1, 0]), (7, [1, 2, 0, 2, 0, 0, 2, 2]), (8, [1, 2, 0, 1, 2, 0, 2, 1, 0, 0, 1, 2, 0, 2, 1, 0, 0, 1, 2, 0, 2, 1, 0, 0, 0, 1, 0, 1, 1, 0, 0, 0, 1, 0, 1, 2, 0, 0, 2, 0, 0])]⟩),
  (13, ⟨[(1, 1), (7, 1), (13, 1), (17, 1), (21, 1), (27, 1), (35, 1), (43, 1), (52, 1), (59, 1), (67, 1)], [(0, [(0, 1)])], [(17, [0, 0, 0, 1, 0, 0, 1, 2, 0, 0, 0, 0, 0, 0, 0, 2, 1, 0])]⟩),
  (14, ⟨[(4, 4)], [(0, [(0, 1)])], []⟩),
  (15, ⟨[(2, 2), (7, 7)], [(0, [(0, 1)]), (5, [(2, 1)])], []⟩),
  (16, ⟨[(2, 2), (5, 5), (6, 6), (13, 5)], [(0, [(0, 1)]), (1, [(5, 1)]), (4, [(5, 1)])], []⟩),
  (17, ⟨[(2, 2), (3, 3)], [(0, [(0, 1), (1, 1)])], []⟩),
  (18, ⟨[(1, 1), (2, 2)], [(1, [(5, 1)]), (2, [(4, 1)])], []⟩),
  (19, ⟨[(3, 3), (5, 5), (6, 6), (9, 3), (14, 3), (20, 3), (23, 3), (26, 3), (27, 3), (29, 3), (35, 3), (41, 3), (47, 3), (48, 3)], [(0, [(0, 1), (1, 1), (2, 1)]), (7, [(0, 2)]), (9, [(0, 2)])], [(4, [0, 1, 2, 0, 0, 2, 0, 2, 0, 2]), (8, [0, 1, 0, 0, 0, 2, 0, 0, 0, 0, 0, 2, 0, 2, 0, 2])]⟩),
  (21, ⟨[(1, 1), (7, 7), (8, 1), (12, 1), (16, 1), (29, 1)], [(0, [(0, 1)]), (9, [(2, 1)])], []⟩),
  (22, ⟨[(1, 1), (3, 1), (7, 1)], [(0, [(0, 1)])], []⟩),
  (23, ⟨[(2, 2), (4, 4), (9, 2), (16, 2)], [(0, [(0, 1), (1, 1)])], []⟩),
  (24, ⟨[], [(0, [(0, 2), (1, 2)]), (2, [(1, 2)])], [(12, [0, 1, 1, 0, 0, 1, 0, 0, 1, 0, 1, 0, 0, 1, 1, 0]), (13, [0, 1, 0, 0, 1, 0, 1, 0, 0, 1, 2, 0]), (14, [0, 1, 0, 0, 1, 0, 1, 0, 0, 1, 2, 0])]⟩),
  (25, ⟨[(2, 2), (3, 3), (6, 2), (8, 3), (12, 2), (14, 3), (19, 2), (21, 3), (26, 2), (28, 3), (33, 2), (35, 3), (41, 2), (43, 3), (48, 2), (50, 3)], [(0, [(0, 1), (1, 1)])], []⟩),
  (26, ⟨[(1, 1), (7, 7), (8, 1), (10, 1), (16, 1), (33, 1), (38, 1), (42, 1), (48, 1), (60, 1)], [(0, [(0, 1)]), (1, [(0, 3)]), (6, [(2, 1)])], [(23, [0, 2, 0, 0, 0, 0, 0, 0, 0, 2, 1, 2])]⟩),
  (27, ⟨[(1, 1), (3, 3), (11, 3), (15, 3), (20, 3), (25, 3), (30, 3), (36, 3), (46, 1)], [(0, [(0, 1)]), (1, [(5, 1)])], []⟩),
  (28, ⟨[(2, 2), (3, 3)], [(0, [(0, 1)]), (1, [(5, 1)])], []⟩),
  (29, ⟨[(2, 2)], [(0, [(0, 1)])], []⟩),
  (30, ⟨[(2, 2), (3, 3), (4, 4), (5, 2), (8, 2), (11, 3), (14, 2), (17, 3), (20, 2), (25, 3), (28, 3), (31, 3), (34, 2), (36, 2), (41, 3), (44, 2), (46, 3), (50, 3), (53, 2), (57, 3), (61, 3), (67, 3)], [(0, [(0, 1), (1, 1), (2, 1)])], [(14, [0, 0, 1, 2, 0, 0, 0, 2, 0, 2])]⟩),
  (31, ⟨[(1, 1), (5, 1), (9, 1), (14, 1), (18, 1), (23, 1), (26, 1), (32, 1), (36, 1), (42, 1), (46, 1), (51, 1), (55, 1), (61, 1), (65, 1), (68, 1), (75, 1), (79, 1), (86, 1), (91, 1), (95, 1), (101, 1), (110, 1), (115, 1), (124, 1), (130, 1)], [(0, [(0, 1)])], [(1, [0, 1, 1, 0, 0, 1, 1, 0, 0, 0, 1, 1, 0, 0, 1, 0, 0, 0, 0, 0, 0, 0, 1, 2, 1, 0, 0, 0, 1, 1, 0, 0, 1, 1, 0, 0, 0, 0, 1, 1, 0, 0, 1, 1, 0, 0]), (8, [0, 1, 0, 0, 1, 0, 0, 1, 0, 1, 0, 1, 0, 1, 1, 0])]⟩),
  (32, ⟨[(2, 2), (3, 3), (7, 2), (9, 3), (13, 2), (15, 3), (20, 2), (22, 3), (27, 2), (29, 3), (34, 2), (36, 3), (41, 2), (44, 3), (50, 2), (53, 3), (59, 2), (65, 2), (70, 3), (77, 2), (83, 2), (88, 3)], [(0, [(0, 1), (1, 1)])], [(6, [0, 1, 0, 0, 1, 0, 1, 0, 0, 1, 1]), (11, [0, 1, 0, 0, 1, 0, 1, 0, 0, 1, 2, 0])]⟩),
  (33, ⟨[(1, 1), (2, 2)], [(0, [(0, 1), (1, 1)])], []⟩),
  (34, ⟨[(1, 1), (2, 2), (3, 3), (5, 1), (10, 1)], [(0, [(0, 1), (1, 1)]), (3, [(6, 1)])], []⟩),
  (35, ⟨[(2, 2)], [(0, [(0, 1)])], []⟩),
  (37, ⟨[(2, 2), (4, 4), (8, 2), (14, 2), (21, 2)], [(0, [(0, 1), (1, 1)])], []⟩),
  (38, ⟨[(3, 3), (5, 5), (6, 6), (7, 7), (10, 3), (16, 3), (25, 3), (33, 7), (38, 7), (39, 7), (44, 7), (45, 3), (52, 7), (54, 3), (61, 7), (62, 7), (64, 3), (71, 7), (74, 7), (79, 7), (80, 7), (85, 7)], [(0, [(0, 1), (1, 1), (2, 1)]), (3, [(1, 1)])], [(13, [0, 1, 0, 1, 0, 0, 1, 0, 2, 0, 2]), (14, [0, 1, 0, 1, 0, 0, 1, 0, 2, 0, 2])]⟩),
  (39, ⟨[(2, 2), (3, 3), (7, 2), (9, 3), (15, 2), (17, 3), (21, 2), (32, 2), (34, 3), (39, 2), (41, 3), (48, 2), (54, 3), (63, 2), (68, 3), (73, 2), (79, 3), (84, 2), (89, 3), (97, 2), (102, 3)], [(0, [(0, 1), (1, 1)])], [(7, [1, 2, 0, 2, 2, 0]), (20, [0, 1, 0, 0, 1, 0, 1, 0, 0, 1, 2, 0]), (22, [0, 1, 0, 0, 1, 0, 1, 0, 0, 1, 2, 0])]⟩),
  (40, ⟨[(1, 1), (2, 2), (7, 1), (11, 1), (16, 1), (20, 1)], [(0, [(0, 1), (1, 1)])], []⟩),
  (41, ⟨[(1, 1), (6, 1), (10, 1), (15, 1), (23, 1), (31, 1), (38, 1)], [(0, [(0, 1)])], []⟩),
  (42, ⟨[(1, 1), (5, 1), (11, 1), (18, 1)], [(0, [(0, 1)])], []⟩),
  (43, ⟨[], [], [(6, [0, 0, 0, 1, 0, 0, 0, 1, 1])]⟩),
  (44, ⟨[], [], [(7, [0, 1, 0, 0, 1, 0, 1, 1, 1, 1, 0, 0, 1, 0, 1, 1, 1, 1, 0])]⟩),
  (46, ⟨[(6, 6), (8, 8), (11, 11), (93, 11), (102, 11)], [(0, [(0, 1)]), (20, [(1, 1)]), (29, [(3, 1)])], [(25, [0, 0, 0, 2, 0, 0, 0, 0, 0, 0, 2, 2, 2]), (34, [0, 0, 0, 0, 1, 0, 2, 0, 2, 0, 2])]⟩),
  (47, ⟨[(4, 4), (12, 4)], [(2, [(0, 1)]), (5, [(3, 2)])], [(5, [0, 0, 0, 0, 0, 0, 2, 2])]⟩),
  (48, ⟨[(4, 4), (6, 6), (7, 7), (46, 6), (50, 6), (55, 6), (62, 6)], [(0, [(0, 1)]), (5, [(5, 1)]), (12, [(7, 1)])], []⟩),
  (49, ⟨[(3, 3), (6, 6)], [(0, [(1, 1)]), (9, [(6, 1)])], []⟩),
  (50, ⟨[(6, 6), (8, 8), (9, 9), (11, 11), (13, 13), (29, 8), (32, 8), (38, 8), (41, 8), (47, 8), (51, 8), (59, 8), (63, 8), (67, 8), (72, 8)], [(0, [(0, 1)]), (3, [(4, 1)]), (14, [(1, 1)]), (18, [(9, 1)]), (19, [(6, 1)])], []⟩),
  (52, ⟨[], [(3, [(2, 1)])], []⟩),
  (53, ⟨[], [(3, [(2, 1)])], []⟩),
  (54, ⟨[], [(9, [(8, 1)])], [(11, [0, 0, 0, 1, 1, 0, 0, 1, 2]), (15, [0, 0, 0, 1, 1, 0, 0, 1, 2])]⟩),
  (55, ⟨[], [(9, [(8, 1)])], [(11, [0, 0, 0, 1, 1, 0, 0, 1, 2]), (15, [0, 0, 0, 1, 1, 0, 0, 1, 2])]⟩),
  (57, ⟨[(1, 1)], [(0, [(0, 1)])], []⟩),
  (61, ⟨[], [], [(1, [1, 0, 1, 2, 0, 0, 0, 2, 2, 0])]⟩),
  (62, ⟨[], [], [(1, [1, 2, 0, 2, 2, 0])]⟩),
  (63, ⟨[(2, 2), (3, 3), (24, 2), (26, 3)], [(0, [(0, 1), (1, 1)])], [(1, [1, 2, 0, 2, 0, 0])]⟩),
  (67, ⟨[], [], [(6, [0, 0, 0, 1, 0, 0, 0, 1, 1])]⟩),
  (68, ⟨[(8, 8), (9, 9)], [(5, [(3, 1)]), (6, [(4, 1)])], []⟩),
  (70, ⟨[], [(1, [(0, 3)])], [(7, [0, 1, 0, 0, 1, 0, 0, 1, 1, 2])]⟩),
  (73, ⟨[], [], [(1, [0, 0, 0, 1, 0, 0, 0, 0, 1, 1, 2, 0])]⟩),
  (74, ⟨[(1, 1), (2, 2), (7, 7), (12, 1), (27, 1), (31, 7), (34, 7), (37, 7), (40, 7), (41, 7), (44, 7), (45, 7)], [(0, [(0, 1), (1, 1)]), (5, [(1, 1)])], []⟩),
  (75, ⟨[(1, 1)], [(0, [(0, 1)])], []⟩),
  (77, ⟨[(1, 1), (4, 1)], [(0, [(0, 1)])], []⟩),
  (78, ⟨[(2, 2)], [(0, [(0, 1)])], []⟩),
  (80, ⟨[(2, 2), (3, 3), (6, 2), (8, 3), (11, 2), (13, 2), (15, 3), (18, 2)], [(0, [(0, 1), (1, 1)])], []⟩),
  (83, ⟨[], [], [(4, [0, 0, 0, 1, 0, 0, 0, 1, 1, 0, 0, 0, 1, 1, 1, 0, 1, 0, 0, 0, 1, 1, 0, 0, 0, 1, 1, 1, 1, 1, 1, 0, 1, 0])]⟩),
  (84, ⟨[], [(0, [(0, 2)])], []⟩),
  (85, ⟨[(2, 2), (3, 3)], [(0, [(0, 1)]), (1, [(6, 1)])], []⟩),
  (86, ⟨[(4, 4), (5, 5), (7, 7)], [(0, [(0, 1)]), (1, [(1, 1)]), (7, [(6, 1)])], [(8, [0, 0, 0, 0, 1, 2, 2, 2])]⟩),
  (88, ⟨[(4, 4), (6, 6), (14, 6), (24, 6), (28, 6), (33, 6), (38, 6), (45, 6), (67, 6), (77, 6), (78, 6), (85, 6), (95, 6)], [(0, [(0, 1)]), (1, [(2, 1)])], []⟩),
  (97, ⟨[(1, 1), (6, 1), (9, 1)], [(0, [(0, 1)])], []⟩),
  (98, ⟨[], [], [(9, [0, 0, 0, 1, 0, 0, 0, 1, 1, 0]), (11, [0, 0, 0, 1, 0, 0, 0, 1, 1, 0])]⟩),
  (104, ⟨[(1, 1)], [(0, [(0, 1)])], []⟩),
  (105, ⟨[(1, 1), (3, 1)], [(0, [(0, 1)])], []⟩),
  (106, ⟨[(1, 1), (3, 1), (7, 1), (10, 1)], [(0, [(0, 1)])], []⟩),
  (107, ⟨[(1, 1), (3, 1)], [(0, [(0, 1)])], []⟩),
  (110, ⟨[(1, 1), (2, 2), (3, 1), (5, 1)], [(0, [(0, 1), (1, 1)])], []⟩),
  (113, ⟨[(4, 4)], [(0, [(0, 1)])], []⟩),
  (115, ⟨[], [], [(9, [0, 0, 1, 0, 0, 1, 0, 1, 0, 1, 1, 1, 0, 2])]⟩),
  (116, ⟨[(9, 9), (44, 9)], [(9, [(5, 1)])], []⟩),
  (119, ⟨[(2, 2), (20, 2), (21, 2), (25, 2), (29, 2)], [(0, [(0, 1)])], []⟩),
  (121, ⟨[], [], [(20, [0, 0, 0, 1, 0, 2, 0, 0, 0, 0, 0, 2, 1, 1, 0, 1, 1, 0])]⟩),
  (136, ⟨[(3, 3)], [(1, [(5, 1)])], []⟩),
  (137, ⟨[], [], [(4, [0, 1, 0, 0, 0, 0, 1, 0, 0, 1, 0, 1, 1, 0])]⟩),
  (138, ⟨[], [(1, [(6, 1)])], []⟩),
  (140, ⟨[], [], [(3, [0, 0, 0, 0, 0, 0, 0, 1, 0, 0, 0, 1, 0, 2, 0, 2])]⟩),
  (143, ⟨[], [], [(4, [0, 0, 0, 2, 0, 0, 2, 0])]⟩),
  (145, ⟨[], [], [(8, [0, 0, 0, 1, 0, 0, 0, 1, 1])]⟩),
  (149, ⟨[], [], [(3, [0, 0, 1, 0, 0, 0, 1, 1, 1, 0, 0, 0])]⟩),
  (153, ⟨[], [], [(3, [0, 0, 0, 0, 0, 0, 0, 1, 0, 0, 0, 1, 0, 2, 0, 2])]⟩),
  (154, ⟨[], [], [(3, [0, 0, 0, 0, 0, 0, 0, 1, 0, 0, 0, 1, 0, 2, 0, 2])]⟩),
  (161, ⟨[(2, 2), (19, 2)], [(0, [(0, 1)])], []⟩),
  (169, ⟨[], [(0, [(0, 2), (1, 2)])], []⟩),
  (170, ⟨[], [], [(2, [1, 0, 0, 1, 0, 0, 0, 0])]⟩),
  (171, ⟨[], [(0, [(0, 2), (1, 2)])], []⟩),
  (172, ⟨[], [], [(1, [0, 0, 0, 0, 1, 1, 2, 0, 1, 0, 0, 0])]⟩),
  (179, ⟨[], [(0, [(0, 2)])], []⟩),
  (197, ⟨[], [], [(11, [0, 0, 2, 0, 0, 0, 2, 1, 1, 0, 0])]⟩),
  (201, ⟨[(9, 9), (49, 9), (53, 9)], [(10, [(4, 1)])], []⟩)]
noncomputable def E0 : Env := { P := Tryz.prog, globals := fun _ => none, L := Look.of Tryz.prog, hL := rfl }
noncomputable def An0 : FuncId → FAnn := fun f => (rows (mkTr fTab) f).ann
end Go.Sim

namespace Go.Sim
open Go.Proofs

def pNoEscape : List AV → Store → Option (AV × Store)
  | [x], st => some (x, st)
  | _, _ => none
theorem pNoEscape_ok {E : Env} {f : Nat} {fn : Func} (hf : E.P.funcs[f]? = some fn) (hb : fn.body = none) (hn : fn.name ≠ "runtime.NumGoroutine") (h1 : Extern.findNext fn = none) (h2 : Extern.find fn = some Extern.AbiNoEscape.same) : PrimOk E f pNoEscape := by
  intro args st v st' h g w vals hr hi hgl
  unfold pNoEscape at h
  split at h
  · rename_i x
    simp only [Option.some.injEq, Prod.mk.injEq] at h
    obtain ⟨rfl, rfl⟩ := h
    generalize hl : vals.toList = l at hr
    cases hr with
    | cons a _ _ _ ha hr1 =>
      cases hr1
      have hv : vals = #[a] := by rw [← hl]
      subst hv
      unfold FnApplies
      rw [callFunc_extern hf hb hn h1 h2 _ w (Lib.run_noEscape w a)]
      exact ⟨g, Adv.refl g w, hi, ha⟩
  · cases h
noncomputable def prTab : Tr (List AV → Store → Option (AV × Store)) :=
  mkTr [(134, pNoEscape), (204, pIndexByte), (133, pCmp), (91, pOverlaps), (93, pOverlaps), (54, pInsert (Look.of Tryz.prog) 9 1 16), (55, pInsert (Look.of Tryz.prog) 28 7 104)]
noncomputable def pr0 : Prims := prTab.get

theorem mix0 : E0.P.follows .mixedOrders = true := by kernel_rfl
theorem sl9 : SlT (Look.of E0.P) 25 9 1 16 (.str []) := by
  refine ⟨by kernel_rfl, by kernel_rfl, by kernel_rfl, by kernel_rfl, by kernel_rfl, rfl, by decide, by kernel_rfl, .inr ⟨by kernel_rfl, rfl⟩⟩
theorem sl28 : SlT (Look.of E0.P) 26 28 7 104 (.agg [.int .i64 0, .bool false, .str [], .str [], .nils, .nils, .int .i64 0]) := by
  refine ⟨by kernel_rfl, by kernel_rfl, by kernel_rfl, by kernel_rfl, by kernel_rfl, rfl, by decide, by kernel_rfl, .inl (by kernel_rfl)⟩
def allF (P : Program) (n : Nat) (p : Nat → Func → Bool) : Bool := (List.range n).all fun f => match P.funcs[f]? with
  | some fn => p f fn
  | none => true
theorem allF_ok {P : Program} {n : Nat} {p : Nat → Func → Bool} (hn : decide (P.funcs.size ≤ n) = true) (h : allF P n p = true) (f : Nat) (fn : Func) (hf : P.funcs[f]? = some fn) : p f fn = true := by
  have hlt : f < n := Nat.lt_of_lt_of_le (Array.getElem?_eq_some_iff.1 hf).1 (of_decide_eq_true hn)
  have := List.all_eq_true.1 h f (List.mem_range.2 hlt)
  rw [hf] at this
  exact this
theorem size0 : decide (Tryz.prog.funcs.size ≤ 240) = true := by kernel_rfl
theorem name0 (f : Nat) (fn : Func) (hf : E0.P.funcs[f]? = some fn) (hb : fn.body ≠ none) : fn.name ≠ "runtime.NumGoroutine" := by
  have := allF_ok (p := fun _ fn => fn.body.isNone || !(fn.name == "runtime.NumGoroutine")) size0 (by kernel_rfl) f fn hf
  cases hbb : fn.body with
  | none => exact absurd hbb hb
  | some c =>
    simp only [hbb, Option.isNone_some, Bool.false_or, Bool.not_eq_true', beq_eq_false_iff_ne] at this
    exact this
theorem rows0 : fTab.all (fun p => Nat.blt p.1 8000 && p.2.ok) = true := by kernel_rfl
set_option maxRecDepth 1000000 in
theorem code0 : allF Tryz.prog 240 (fun f fn => match fn.body with | some c => codeOk (An0 f) c | none => true) = true := by kernel_rfl
theorem fok0 : FOk E0 An0 := by
  refine ⟨fun f => rows_ok rows0 f, fun f fn c hf hb => ?_⟩
  have := allF_ok (p := fun f fn => match fn.body with | some c => codeOk (An0 f) c | none => true) size0 code0 f fn hf
  rw [hb] at this
  exact this
theorem wf0 (f : FuncId) (t b : Nat) (h : ((An0 f).ann).base t = some b) : ((An0 f).ann).base b = some b := (fok0.ann f).wf t b h
theorem glob0 (g : Gh) : GlobOk E0 g := fun k v h => by cases h
set_option maxRecDepth 1000000 in
set_option maxHeartbeats 4000000 in
theorem prims0 (f : FuncId) (p : List AV → Store → Option (AV × Store)) (h : pr0 f = some p) : PrimOk E0 f p := by
  have h91 : PrimOk E0 91 pOverlaps := pOverlaps_ok (fn := Tryz.f91) (T := 25) (e := 9) (sz := 1) (by kernel_rfl) rfl (by decide) (by kernel_rfl) (by kernel_rfl) (by kernel_rfl) (by kernel_rfl)
  have h93 : PrimOk E0 93 pOverlaps := pOverlaps_ok (fn := Tryz.f93) (T := 26) (e := 28) (sz := 7) (by kernel_rfl) rfl (by decide) (by kernel_rfl) (by kernel_rfl) (by kernel_rfl) (by kernel_rfl)
  have hm := mkTr_get (l := [(134, pNoEscape), (204, pIndexByte), (133, pCmp), (91, pOverlaps), (93, pOverlaps), (54, pInsert (Look.of Tryz.prog) 9 1 16), (55, pInsert (Look.of Tryz.prog) 28 7 104)]) (by
    intro q hq
    simp only [List.mem_cons, List.not_mem_nil, or_false] at hq
    rcases hq with rfl | rfl | rfl | rfl | rfl | rfl | rfl <;> decide) h
  simp only [List.mem_cons, List.not_mem_nil, or_false, Prod.mk.injEq] at hm
  rcases hm with ⟨rfl, rfl⟩ | ⟨rfl, rfl⟩ | ⟨rfl, rfl⟩ | ⟨rfl, rfl⟩ | ⟨rfl, rfl⟩ | ⟨rfl, rfl⟩ | ⟨rfl, rfl⟩
  · exact pNoEscape_ok (fn := Tryz.f134) (by kernel_rfl) rfl (by decide) (by kernel_rfl) (by kernel_rfl)
  · exact pIndexByte_ok (fn := Tryz.f204) (by kernel_rfl) rfl (by decide) (by kernel_rfl) (by kernel_rfl)
  · exact pCmp_ok (fn := Tryz.f133) (by kernel_rfl) rfl (by decide) (by kernel_rfl) (by kernel_rfl)
  · exact h91
  · exact h93
  · exact pInsert54_ok mix0 name0 (by kernel_rfl) h91 sl9
  · exact pInsert55_ok mix0 name0 (by kernel_rfl) h93 sl28

/-! ### Calls -/
/-- A call of a function by its number. -/
abbrev Fv (k : Nat) : AV := .func (.func k) [] []
noncomputable abbrev Call (pr : Prims) (n : Nat) : Caller := acall E0 (fun f => (An0 f).ann) pr n
def PrOk (pr : Prims) : Prop := ∀ f p, pr f = some p → PrimOk E0 f p
theorem body_ok {k m : Nat} {fn : Func} {ha : HA} {b : HBody} (he : b = hfun E0 (An0 k) ha (List.range m) fn) (hf : E0.L.fn k = some fn) {call : Caller} {n : Nat} {args : List AV} {st : Store} {r : AV × Store} (h : b call n args st = some r) : afun E0 (fun f => (An0 f).ann) call n k args st = some r := by
  subst he
  have hf' : Tryz.prog.funcs[k]? = some fn := hf
  exact hfun_ok (fok0.ann k) (fun _ _ _ _ h => h) hf rfl (fun c hc => fok0.code k fn c hf' hc) h
/-- A function's value is called by its term. -/
theorem call_body {k m : Nat} {fn : Func} {ha : HA} {b : HBody} (he : b = hfun E0 (An0 k) ha (List.range m) fn) (hf : E0.L.fn k = some fn) {pr : Prims} (hp : pr k = none) {n : Nat} {first args cap : List AV} {st : Store} {r : AV × Store} (h : b (Call pr n) n (first ++ args ++ cap) st = some r) : Call pr (n + 1) (.func (.func k) first cap) args st = some r := by
  have := body_ok he hf h
  simp only [acall, hp]
  exact this
theorem call_prim {k : Nat} {pr : Prims} {p : List AV → Store → Option (AV × Store)} (hp : pr k = some p) {n : Nat} {args : List AV} {st : Store} {r : AV × Store} (h : p args st = some r) : Call pr (n + 1) (Fv k) args st = some r := by
  simp only [acall, hp, List.nil_append, List.append_nil, h]
/-- A call of which something is known. -/
theorem call_pure {k : Nat} {pr : Prims} {Good : List AV → AV → Prop} (hp : pr k = some (pureP E0 k Good)) {args : List AV} (hpl : plainVs args = true) (h : ∃ v, PureRun E0 k (stripVs args) v ∧ Good (stripVs args) v) (n : Nat) (st : Store) : ∃ v, Call pr (n + 1) (Fv k) args st = some (v, st) ∧ Good (stripVs args) v := by
  obtain ⟨v, h1, h2⟩ := pureP_some hpl h st
  exact ⟨v, call_prim hp h1, h2⟩
set_option maxRecDepth 1000000 in
/-- **A PURE CALL FROM A TERM.** -/
theorem pure_body {k m : Nat} {fn : Func} {ha : HA} {b : HBody} (he : b = hfun E0 (An0 k) ha (List.range m) fn) (hf : E0.L.fn k = some fn) {args : List AV} {v : AV} (hp : plainVs args = true) (hs : stripVs args = args)
    (h : ∀ ts : List (Nat × TypeId), ∃ (pr : Prims) (n : Nat) (v' : AV) (st1 : Store) (more : List (Nat × TypeId)), PrOk pr ∧ b (Call pr n) n args (S0 ts) = some (v', st1) ∧ st1.tops = more ++ ts ∧ plainV v' = true ∧ stripV v' = v) : PureRun E0 k args v := by
  have h' : ∀ ts : List (Nat × TypeId), ∃ (pr : Prims) (n : Nat) (v' : AV) (st1 : Store) (more : List (Nat × TypeId)), (∀ f p, pr f = some p → PrimOk E0 f p) ∧ afun E0 (fun f => (An0 f).ann) (acall E0 (fun f => (An0 f).ann) pr n) n k args (S0 ts) = some (v', st1) ∧ st1.tops = more ++ ts ∧ plainV v' = true ∧ stripV v' = v := by
    intro ts
    obtain ⟨pr, n, v', st1, more, h1, h2, h3, h4, h5⟩ := h ts
    exact ⟨pr, n, v', st1, more, fun f p q => h1 f p q, body_ok he hf h2, h3, h4, h5⟩
  have wf : ∀ (f : FuncId) (t b : Nat), ((fun f => (An0 f).ann) f).base t = some b → ((fun f => (An0 f).ann) f).base b = some b := fun f t b hh => wf0 f t b hh
  exact @pureRun_of E0 mix0 (fun f => (An0 f).ann) wf name0 glob0 k args v hp hs h'
end Go.Sim

namespace Go.Sim
open Go.Proofs

abbrev Bytes := List UInt8
inductive Vl where
  | mk (tag : Int) (b : Bool) (n s : Bytes) (ks : List Bytes) (vs : List Vl) (fn : Int)
namespace Vl
def tag : Vl → Int | .mk t .. => t
def b : Vl → Bool | .mk _ b .. => b
def n : Vl → Bytes | .mk _ _ n .. => n
def s : Vl → Bytes | .mk _ _ _ s .. => s
def ks : Vl → List Bytes | .mk _ _ _ _ ks .. => ks
def vs : Vl → List Vl | .mk _ _ _ _ _ vs _ => vs
def fn : Vl → Int | .mk _ _ _ _ _ _ f => f
end Vl
def ksum : List Bytes → Nat
  | [] => 0
  | k :: r => 1 + k.length + ksum r
mutual
def Vl.size : Vl → Nat
  | .mk _ _ n s ks vs _ => 1 + n.length + s.length + ksum ks + vsum vs
def vsum : List Vl → Nat
  | [] => 0
  | v :: r => v.size + vsum r
end
/-- Rows of texts. -/
def IsKs (K : AV) (ks : List Bytes) : Prop := (K = .nils ∧ ks = []) ∨ ∃ tok cap, K = .row 1 tok cap (ks.map .str)
mutual
def IsV (x : AV) : Vl → Prop
  | .mk t b n s ks vs f => ∃ K W, x = .agg [.int .i64 t, .bool b, .str n, .str s, K, W, .int .i64 f] ∧ IsKs K ks ∧ ((W = .nils ∧ vs = []) ∨ ∃ tok cap xs, W = .row 7 tok cap xs ∧ IsVL xs vs)
def IsVL (xs : List AV) : List Vl → Prop
  | [] => xs = []
  | v :: vs => ∃ y ys, xs = y :: ys ∧ IsV y v ∧ IsVL ys vs
end
def IsW (W : AV) (vs : List Vl) : Prop := (W = .nils ∧ vs = []) ∨ ∃ tok cap xs, W = .row 7 tok cap xs ∧ IsVL xs vs
theorem isV_iff {x : AV} {t : Int} {b : Bool} {n s : Bytes} {ks : List Bytes} {vs : List Vl} {f : Int} : IsV x (.mk t b n s ks vs f) ↔ ∃ K W, x = .agg [.int .i64 t, .bool b, .str n, .str s, K, W, .int .i64 f] ∧ IsKs K ks ∧ IsW W vs := by
  simp only [IsV, IsW]
theorem isVL_len : ∀ {xs : List AV} {vs : List Vl}, IsVL xs vs → xs.length = vs.length
  | xs, [], h => by simp only [IsVL] at h; subst h; rfl
  | xs, v :: vs, h => by
    simp only [IsVL] at h
    obtain ⟨y, ys, rfl, _, h⟩ := h
    simp [isVL_len h]
theorem isVL_get : ∀ {xs : List AV} {vs : List Vl} {i : Nat} {v : Vl}, IsVL xs vs → vs[i]? = some v → ∃ y, xs[i]? = some y ∧ IsV y v
  | xs, [], i, v, h, hv => by simp at hv
  | xs, w :: vs, i, v, h, hv => by
    simp only [IsVL] at h
    obtain ⟨y, ys, rfl, h1, h2⟩ := h
    cases i with
    | zero => simp at hv; subst hv; exact ⟨y, rfl, h1⟩
    | succ i =>
      obtain ⟨z, h3, h4⟩ := isVL_get (i := i) h2 (by simpa using hv)
      exact ⟨z, by simpa using h3, h4⟩
theorem isV_cells {x : AV} {a : Vl} (h : IsV x a) : ∃ t b n s K W f, x = .agg [.int .i64 t, .bool b, .str n, .str s, K, W, .int .i64 f] := by
  cases a with
  | mk t b n s ks vs f => obtain ⟨K, W, h, _⟩ := isV_iff.1 h; exact ⟨_, _, _, _, K, W, _, h⟩
/-! ### Data all through -/
theorem plain_keys : ∀ ks : List Bytes, plainVs (ks.map .str) = true
  | [] => rfl
  | k :: ks => by simp [plainVs, plainV, plain_keys ks]
mutual
theorem isV_plain : ∀ {x : AV} {a : Vl}, IsV x a → plainV x = true
  | x, .mk t b n s ks vs f, h => by
    obtain ⟨K, W, rfl, hk, hw⟩ := isV_iff.1 h
    have h1 : plainV K = true := by
      rcases hk with ⟨rfl, _⟩ | ⟨tok, cap, rfl⟩
      · rfl
      · simp [plainV, plain_keys]
    have h2 : plainV W = true := by
      rcases hw with ⟨rfl, _⟩ | ⟨tok, cap, xs, rfl, h3⟩
      · rfl
      · simp [plainV, isVL_plain h3]
    simp [plainV, plainVs, h1, h2]
theorem isVL_plain : ∀ {xs : List AV} {vs : List Vl}, IsVL xs vs → plainVs xs = true
  | xs, [], h => by simp only [IsVL] at h; subst h; rfl
  | xs, v :: vs, h => by
    simp only [IsVL] at h
    obtain ⟨y, ys, rfl, h1, h2⟩ := h
    simp [plainVs, isV_plain h1, isVL_plain h2]
end
theorem strip_keys : ∀ ks : List Bytes, stripVs (ks.map .str) = ks.map .str
  | [] => rfl
  | k :: ks => by simp [stripVs, stripV, strip_keys ks]
mutual
theorem isV_strip : ∀ {x : AV} {a : Vl}, IsV x a → IsV (stripV x) a
  | x, .mk t b n s ks vs f, h => by
    obtain ⟨K, W, rfl, hk, hw⟩ := isV_iff.1 h
    refine isV_iff.2 ⟨stripV K, stripV W, by simp [stripV, stripVs], ?_, ?_⟩
    · rcases hk with ⟨rfl, h3⟩ | ⟨tok, cap, rfl⟩
      · exact .inl ⟨rfl, h3⟩
      · exact .inr ⟨none, cap, by simp [stripV, strip_keys]⟩
    · rcases hw with ⟨rfl, h3⟩ | ⟨tok, cap, xs, rfl, h3⟩
      · exact .inl ⟨rfl, h3⟩
      · exact .inr ⟨none, cap, stripVs xs, rfl, isVL_strip h3⟩
theorem isVL_strip : ∀ {xs : List AV} {vs : List Vl}, IsVL xs vs → IsVL (stripVs xs) vs
  | xs, [], h => by simp only [IsVL] at h; subst h; rfl
  | xs, v :: vs, h => by
    simp only [IsVL] at h
    obtain ⟨y, ys, rfl, h1, h2⟩ := h
    simp only [IsVL]
    exact ⟨stripV y, stripVs ys, rfl, isV_strip h1, isVL_strip h2⟩
end
theorem keys_inj : ∀ {a b : List Bytes}, a.map AV.str = b.map AV.str → a = b
  | [], [], _ => rfl
  | [], _ :: _, h => by simp at h
  | _ :: _, [], h => by simp at h
  | x :: a, y :: b, h => by
    simp only [List.map_cons, List.cons.injEq, AV.str.injEq] at h
    rw [h.1, keys_inj h.2]
theorem isKs_inj {K : AV} {a b : List Bytes} (h : IsKs K a) (h' : IsKs K b) : a = b := by
  rcases h with ⟨rfl, rfl⟩ | ⟨tok, cap, rfl⟩
  · rcases h' with ⟨_, rfl⟩ | ⟨_, _, h⟩
    · rfl
    · cases h
  · rcases h' with ⟨h, _⟩ | ⟨_, _, h⟩
    · cases h
    · injection h with _ _ _ h; exact keys_inj h
mutual
/-- A value is read in one way. -/
theorem isV_inj : ∀ {x : AV} {a b : Vl}, IsV x a → IsV x b → a = b
  | x, .mk t b n s ks vs f, .mk t' b' n' s' ks' vs' f', h, h' => by
    obtain ⟨K, W, rfl, hk, hw⟩ := isV_iff.1 h
    obtain ⟨K', W', e, hk', hw'⟩ := isV_iff.1 h'
    simp only [AV.agg.injEq, List.cons.injEq, AV.int.injEq, AV.bool.injEq, AV.str.injEq, true_and, and_true] at e
    obtain ⟨rfl, rfl, rfl, rfl, rfl, rfl, rfl⟩ := e
    have e1 := isKs_inj hk hk'
    have e2 : vs = vs' := by
      rcases hw with ⟨rfl, rfl⟩ | ⟨tok, cap, xs, rfl, h3⟩
      · rcases hw' with ⟨_, rfl⟩ | ⟨_, _, _, h4, _⟩
        · rfl
        · cases h4
      · rcases hw' with ⟨h4, _⟩ | ⟨_, _, _, h4, h5⟩
        · cases h4
        · injection h4 with _ _ _ h4
          subst h4
          exact isVL_inj h3 h5
    rw [e1, e2]
theorem isVL_inj : ∀ {xs : List AV} {a b : List Vl}, IsVL xs a → IsVL xs b → a = b
  | xs, [], [], _, _ => rfl
  | xs, [], _ :: _, h, h' => by
    simp only [IsVL] at h h'
    subst h
    obtain ⟨_, _, e, _⟩ := h'
    cases e
  | xs, _ :: _, [], h, h' => by
    simp only [IsVL] at h h'
    subst h'
    obtain ⟨_, _, e, _⟩ := h
    cases e
  | xs, v :: vs, w :: ws, h, h' => by
    simp only [IsVL] at h h'
    obtain ⟨y, ys, rfl, h1, h2⟩ := h
    obtain ⟨y', ys', e, h3, h4⟩ := h'
    injection e with e1 e2
    subst e1 e2
    rw [isV_inj h1 h3, isVL_inj h2 h4]
end
/-! ### How they are read -/
section
variable {k : AV → Rs}
theorem x_lenK {K : AV} {ks : List Bytes} (h : IsKs K ks) : hLenR K k = k (.int .i64 (.ofNat ks.length)) := by
  rcases h with ⟨rfl, rfl⟩ | ⟨tok, cap, rfl⟩
  · rfl
  · rw [x_hLenR_r, List.length_map]
theorem x_lenW {W : AV} {vs : List Vl} (h : IsW W vs) : hLenR W k = k (.int .i64 (.ofNat vs.length)) := by
  rcases h with ⟨rfl, rfl⟩ | ⟨tok, cap, xs, rfl, h⟩
  · rfl
  · rw [x_hLenR_r, isVL_len h]
theorem x_elemK {K : AV} {ks : List Bytes} {j : Nat} {y : Bytes} (h : IsKs K ks) (hj : ks[j]? = some y) : hElem 1 K (.int .i64 (.ofNat j)) k = k (.rptr [.str y]) := by
  rcases h with ⟨rfl, rfl⟩ | ⟨tok, cap, rfl⟩
  · simp at hj
  · rw [x_hElem (y := .str y) (by simp [hj])]; rfl
theorem x_elemW {W : AV} {vs : List Vl} {j : Nat} {v : Vl} (h : IsW W vs) (hj : vs[j]? = some v) : ∃ cs, IsV (.agg cs) v ∧ cs.length = 7 ∧ ∀ k : AV → Rs, hElem 7 W (.int .i64 (.ofNat j)) k = k (.rptr cs) := by
  rcases h with ⟨rfl, rfl⟩ | ⟨tok, cap, xs, rfl, h⟩
  · simp at hj
  · obtain ⟨y, h1, h2⟩ := isVL_get h hj
    obtain ⟨t, b, n, s, K, W, f, rfl⟩ := isV_cells h2
    exact ⟨_, h2, rfl, fun k => x_hElem h1⟩
end
theorem size_pos : ∀ a : Vl, 1 ≤ a.size
  | .mk .. => by simp only [Vl.size]; omega
theorem vsum_get : ∀ {vs : List Vl} {i : Nat} {v : Vl}, vs[i]? = some v → v.size ≤ vsum vs
  | [], i, v, h => by simp at h
  | w :: vs, 0, v, h => by simp at h; subst h; simp only [vsum]; omega
  | w :: vs, i + 1, v, h => by
    have := vsum_get (vs := vs) (i := i) (v := v) (by simpa using h)
    simp only [vsum]; omega
theorem vsum_len : ∀ vs : List Vl, vs.length ≤ vsum vs
  | [] => Nat.le_refl 0
  | v :: vs => by
    have := vsum_len vs
    have := size_pos v
    simp only [vsum, List.length_cons]; omega
theorem ksum_len : ∀ ks : List Bytes, ks.length ≤ ksum ks
  | [] => Nat.le_refl 0
  | v :: vs => by
    have := ksum_len vs
    simp only [ksum, List.length_cons]; omega
theorem ksum_take : ∀ (ks : List Bytes) (i : Nat), ksum (ks.take i) ≤ ksum ks
  | [], i => by simp [ksum]
  | k :: ks, 0 => by simp [ksum]
  | k :: ks, i + 1 => by
    have := ksum_take ks i
    simp only [List.take_succ_cons, ksum]; omega
theorem vsum_take : ∀ (ks : List Vl) (i : Nat), vsum (ks.take i) ≤ vsum ks
  | [], i => by simp [vsum]
  | k :: ks, 0 => by simp [vsum]
  | k :: ks, i + 1 => by
    have := vsum_take ks i
    simp only [List.take_succ_cons, vsum]; omega
theorem ksum_take_succ : ∀ {ks : List Bytes} {i : Nat} {k : Bytes}, ks[i]? = some k → ksum (ks.take (i + 1)) = ksum (ks.take i) + (1 + k.length)
  | [], i, k, h => by simp at h
  | x :: ks, 0, k, h => by simp at h; subst h; simp [ksum]
  | x :: ks, i + 1, k, h => by
    have := ksum_take_succ (ks := ks) (i := i) (k := k) (by simpa using h)
    simp only [List.take_succ_cons, ksum]; omega
theorem vsum_take_succ : ∀ {ks : List Vl} {i : Nat} {k : Vl}, ks[i]? = some k → vsum (ks.take (i + 1)) = vsum (ks.take i) + k.size
  | [], i, k, h => by simp at h
  | x :: ks, 0, k, h => by simp at h; subst h; simp [vsum]
  | x :: ks, i + 1, k, h => by
    have := vsum_take_succ (ks := ks) (i := i) (k := k) (by simpa using h)
    simp only [List.take_succ_cons, vsum]; omega
/-- No larger than that numbers tell of it. -/
def big : Nat := 1099511627776
end Go.Sim

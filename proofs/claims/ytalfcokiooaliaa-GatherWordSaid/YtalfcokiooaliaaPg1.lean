/- Printed by mp.py: functions of the program as plain Lean, each by the kernel. -/
import Derived.Test.YtalfcokiooaliaaTG
import Derived.Test.YtalfcokiooaliaaProg
import Derived.KernelRfl
set_option linter.unusedVariables false
set_option linter.unusedSimpArgs false
namespace Go.Proofs.Ytalfcokiooaliaa.T
open Go Go.RowKit Go.Proofs
set_option maxRecDepth 100000

def keepT : Nat → Keep := keepOf [(5, [(0, false, [0, 1, 2, 3, 4, 5, 6]), (1, false, [0, 1, 2, 3, 4, 5, 6]), (2, false, [2, 3, 4, 5, 6, 15, 16]), (3, false, [3, 4, 5, 6, 15, 16, 17]), (4, false, [4, 5, 6, 15, 16, 17, 18]), (5, false, [4, 5, 6, 15, 16, 17, 18, 19, 20, 21]), (6, false, []), (7, false, [4, 5, 6, 15, 16, 17, 18, 19, 20]), (8, false, [5, 6, 15, 16, 17, 18, 19, 20, 22]), (9, false, []), (10, true, [5, 6, 15, 16, 17, 18, 19, 20, 22]), (11, false, [5, 6, 15, 16, 17, 18, 19, 20, 22, 23]), (12, false, [6, 15, 16, 17, 18, 19, 20, 22, 23, 24]), (13, false, [6, 15, 16, 17, 18, 19, 20, 22, 23, 24, 25]), (14, false, [6, 15, 16, 17, 18, 19, 20, 22, 23, 24, 25]), (15, true, [6, 15, 16, 17, 18, 19, 20, 22, 23, 24, 25]), (16, true, [15, 16, 17, 18, 19, 20, 22, 23]), (17, false, [15, 16, 17, 18, 19, 20, 22, 23, 26]), (18, false, [15, 16, 17, 18, 19, 20, 22, 26]), (19, false, [16, 18, 22, 26, 27, 28, 29]), (20, false, []), (21, false, [16, 18, 22, 26, 27, 28]), (22, false, [18, 27, 28]), (23, true, [18, 22, 27, 28])]),
  (7, [(0, false, [0, 1]), (1, false, [0, 1]), (2, false, [1, 6])]),
  (8, [(0, false, [0, 1]), (1, false, [0, 1]), (2, false, [0, 1]), (3, false, [0, 1]), (4, false, [0])]),
  (9, [(0, false, [0, 1]), (1, false, [0, 1]), (2, false, []), (3, false, [0, 1])]),
  (10, [(0, false, [0, 1, 2, 3]), (1, false, [0, 1, 2, 3, 9]), (2, false, [1, 3, 9, 11, 12]), (3, false, [1, 9, 11, 12, 13, 14]), (4, false, [9, 13]), (5, true, [9, 11, 13]), (6, false, [9, 11, 13, 15]), (7, false, [9, 11, 13, 15, 16]), (8, false, [9, 11, 13, 15, 16]), (9, false, [9, 11, 13, 15, 16]), (10, false, [9, 13, 15])]),
  (12, [(0, false, [0, 1, 2, 3, 4, 5]), (1, false, [0, 1, 2, 9, 10, 11, 12, 13, 14]), (2, false, [1, 9, 10, 11, 12, 13, 14, 15, 16]), (3, false, [12, 13, 14, 16]), (4, false, [1, 9, 10, 11, 12, 13, 14, 15]), (5, false, [12, 13, 14]), (6, false, [1, 9, 10, 11, 12, 13, 14, 15]), (7, false, [1, 9, 10, 11, 12, 13, 14, 15, 17, 18]), (8, false, [1, 9, 10, 11, 12, 13, 14, 15, 17, 18, 45, 46, 47]), (9, false, [1, 9, 10, 11, 12, 13, 14, 15, 17, 18, 45, 46, 47]), (10, false, [1, 9, 10, 11, 12, 13, 14, 15, 17, 18, 19, 20, 45, 46, 47]), (11, false, [1, 9, 10, 11, 12, 13, 14, 15, 17, 18, 19, 45, 46, 47]), (12, false, [1, 9, 10, 11, 12, 13, 14, 15, 17, 18, 19, 20, 45, 46, 47]), (13, false, [12, 13, 14]), (14, false, [1, 9, 10, 11, 12, 13, 14, 15, 17, 18, 19, 45, 46, 47]), (15, false, [1, 9, 10, 11, 12, 13, 14, 15, 17, 18, 45, 46, 47]), (16, false, [1, 9, 10, 11, 12, 13, 14, 15, 17, 18]), (17, false, [12, 13, 14]), (18, false, [1, 9, 10, 11, 12, 13, 14, 15, 17, 18]), (19, false, [1, 9, 10, 11, 12, 13, 14, 15, 17, 18, 21]), (20, false, [1, 9, 10, 11, 12, 13, 14, 15, 17, 18, 21]), (21, true, [1, 9, 10, 11, 12, 13, 14, 15, 17, 18, 21]), (22, false, [9, 10, 11, 12, 13, 14, 15, 17, 18, 92]), (23, false, [9, 10, 11, 12, 13, 14, 15, 17, 18, 22]), (24, false, [9, 10, 11, 12, 13, 14, 15, 17, 18, 22, 93, 94, 95]), (25, false, [9, 10, 11, 12, 13, 14, 15, 17, 18, 22, 93, 94, 95]), (26, false, [9, 10, 11, 12, 13, 14, 15, 17, 18, 22, 23, 24, 93, 94, 95]), (27, false, [9, 10, 11, 12, 13, 14, 15, 17, 18, 22, 93, 94, 95]), (28, false, [9, 10, 11, 12, 13, 14, 15, 17, 22]), (29, false, [9, 11, 12, 13, 14, 22, 25]), (30, false, [9, 11, 12, 13, 14, 22, 25, 26]), (31, false, [9, 12, 13, 14, 22, 25]), (32, false, [12, 13, 14]), (1000092, false, [23]), (2000092, false, [9, 10, 11, 12, 13, 14, 15, 17, 18])]),
  (13, [(0, false, [0, 1]), (1, false, [0, 1]), (2, false, []), (3, false, [0, 1]), (4, false, [0, 1, 5]), (5, false, [0, 1, 5]), (6, false, [0, 1, 5]), (7, false, []), (8, false, [])]),
  (14, [(0, false, [0]), (1, false, [0, 2])]),
  (15, [(0, false, [0]), (1, false, [0]), (2, false, [3]), (3, false, [3]), (4, false, [3])]),
  (16, [(0, false, [0, 1, 2, 3]), (1, false, [0, 1, 2, 3]), (2, false, [1, 3, 10, 11]), (3, false, [11]), (4, false, [1, 3, 10]), (5, false, [1, 3, 10, 12]), (6, false, [1, 10, 12]), (7, false, [1, 10, 12, 13]), (8, false, [1, 10, 12, 13, 14]), (9, false, [1, 10, 12, 13, 14, 15]), (10, false, [1, 10, 12, 13, 14, 15]), (11, false, [1, 10, 12, 13, 14, 15]), (12, false, [1, 10, 12, 13, 14, 15]), (13, false, [1, 13, 14]), (14, false, [13, 16]), (15, false, [13])]),
  (17, [(0, false, [0, 1, 2, 3]), (1, false, [0, 1, 2, 3, 8]), (2, false, [8]), (3, false, [0, 1, 2, 3, 8]), (4, false, [1, 8, 10, 11]), (5, false, [8, 11]), (6, false, [1, 8, 10])]),
  (18, [(0, false, [0, 1]), (1, false, [1, 2])]),
  (19, [(0, false, [0, 1]), (1, false, [2, 3])]),
  (20, [(0, false, [0, 1, 2]), (1, false, [1, 2, 3]), (2, false, [1, 2, 3, 7]), (3, false, [1, 2, 3, 7, 8]), (4, false, [1, 2, 3, 7, 8]), (5, false, [1, 2, 3, 7, 8]), (6, false, [1, 2, 3, 7]), (7, false, [1, 2, 3, 7, 39, 40]), (8, false, [1, 2, 3, 7, 39, 40]), (9, false, [1, 2, 3, 7, 9, 39, 40]), (10, false, [1, 2, 3, 7, 39, 40]), (11, false, [1, 2, 3, 7]), (12, false, [1, 2, 3, 7, 10]), (13, false, [1, 3, 7, 10, 54, 55, 56]), (14, false, [1, 3, 7, 10, 54, 55, 56]), (15, false, [1, 3, 7, 10, 12, 54, 55, 56]), (16, false, [1, 3, 7, 10, 54, 55, 56]), (17, false, [1, 3, 7, 10]), (18, false, [1, 3, 13]), (19, false, [1, 3, 13, 15]), (20, false, [1, 3, 13, 15, 16]), (21, false, [1, 3, 13, 15, 16]), (22, false, [1, 3, 13, 15, 16]), (23, false, [15])]),
  (21, [(0, false, [0]), (1, false, [0]), (2, false, []), (3, false, [0])]),
  (22, [(0, false, [0, 1]), (1, false, [1, 2, 4]), (2, false, [4]), (3, false, [1, 2, 4]), (4, false, [1, 4, 6]), (5, false, [1, 4, 6]), (6, false, [1, 4, 6]), (7, false, [4, 6])]),
  (23, [(0, false, [0]), (1, false, [0])]),
  (24, [(0, false, [0]), (1, false, [0]), (2, false, []), (3, false, [0])]),
  (25, [(0, false, [0, 1]), (1, false, [1, 2]), (2, false, [1, 5]), (3, false, [5])]),
  (26, [(0, false, [0, 1]), (1, false, [0, 1]), (2, false, []), (3, false, [0, 1]), (4, false, []), (5, false, [0, 1]), (6, false, [0, 1, 6]), (7, false, [0, 6, 14, 15]), (8, false, [0, 6, 14, 15]), (9, false, [0, 6, 7, 14, 15]), (10, false, [0, 6, 14, 15]), (11, false, [6])]),
  (27, [(0, false, [0]), (1, false, [0])]),
  (28, [(0, false, [0, 1, 2, 3]), (1, false, [0, 1, 2, 3]), (2, false, [0, 1, 2, 3, 10]), (3, false, []), (4, true, [0, 1, 2, 3]), (5, false, [0, 1, 2, 11, 12]), (6, false, [0, 1, 2, 11, 12, 13]), (7, false, [0, 1, 2, 11, 12]), (8, true, [0, 1, 2, 11, 13]), (9, false, [0, 1, 2, 11, 13, 14]), (10, false, [0, 1, 2, 11, 13]), (11, true, [0, 1, 2, 11, 13, 14]), (12, false, [0, 1, 2, 11, 13, 14, 15]), (13, false, [0, 1, 2, 11, 13, 15, 53, 54]), (14, false, [0, 1, 2, 11, 13, 15, 53, 54]), (15, false, [0, 1, 2, 11, 13, 15, 16, 53, 54]), (16, false, [0, 1, 2, 11, 13, 15, 16, 17, 53, 54]), (17, false, [0, 1, 2, 11, 13, 15, 17, 53, 54]), (18, true, [0, 1, 2, 11, 13, 15, 17, 53, 54]), (19, false, [0, 1, 2, 11, 13, 15, 53, 54]), (20, false, [15])]),
  (29, [(0, false, [0, 1, 2]), (1, false, [1, 2, 3]), (2, false, [1, 2, 3, 4]), (3, false, [1, 2, 3, 4, 5]), (4, false, [5])]),
  (31, [(0, false, [0, 1, 2]), (1, false, [0, 1, 2]), (2, false, [0, 1, 2, 8]), (3, false, []), (4, true, [0, 1, 2, 8]), (5, false, [0, 1, 2, 8, 9]), (6, false, [0, 1, 2, 8, 9, 10]), (7, false, [0, 1, 2, 8, 9, 10, 35, 36, 37]), (8, false, [0, 1, 2, 8, 9, 10, 35, 36, 37]), (9, false, [0, 1, 2, 8, 9, 10, 12, 35, 36, 37]), (10, false, [0, 1, 2, 8, 9, 10, 12, 35, 36, 37]), (11, false, [0, 2]), (12, false, [0, 1, 2, 8, 9, 10, 12, 35, 36, 37]), (13, false, [0, 1, 2, 8, 9, 35, 36, 37]), (14, false, [0, 1, 2, 8, 9, 10, 35, 36, 37]), (15, false, [0, 1, 2, 8, 9, 10]), (16, false, [0, 2, 8, 9]), (17, true, [0, 2, 8, 9, 10]), (18, false, [0, 2, 10]), (19, false, [0, 8, 9]), (20, false, []), (21, false, [0, 8, 9])]),
  (32, [(0, false, [0]), (1, false, [1, 2])]),
  (33, [(0, false, [0, 1]), (1, false, [1, 2, 4]), (2, false, [1, 2, 4, 6]), (3, false, [1, 2, 4, 6]), (4, false, [1, 2, 4, 5, 6]), (5, false, [2, 4, 5, 6]), (6, false, [1, 2, 4, 6]), (7, false, [2, 4])]),
  (34, [(0, false, [0]), (1, false, [1, 2])]),
  (35, [(0, false, [0]), (1, false, [0])]),
  (36, [(0, false, [0]), (1, false, [0])]),
  (37, [(0, false, [0, 1]), (1, false, [0, 1]), (2, false, [0, 1, 5]), (3, false, [1, 5, 13, 14, 15]), (4, false, [1, 5, 13, 14, 15]), (5, false, [1, 5, 6, 7, 13, 14, 15]), (6, false, [1, 5, 13, 14, 15]), (7, false, [5])]),
  (38, [(0, false, [0]), (1, false, [1])]),
  (39, [(0, false, [0]), (1, false, [0])]),
  (40, [(0, false, [0]), (1, false, [0])]),
  (30, [(0, false, [0, 1, 2, 3, 4, 5]), (1, false, [0, 1, 2, 3, 4, 5]), (2, false, [1, 3]), (3, false, [0, 1, 2, 4, 5]), (4, false, [1, 2, 4, 5, 8]), (5, false, [1, 2, 4, 5, 8]), (6, false, [1, 2, 4, 5, 8]), (7, false, [1, 2, 4, 5, 8]), (8, false, []), (9, false, [1, 2, 4, 5, 8]), (10, false, [])]),
  (41, [(0, false, [0, 1, 2]), (1, false, [0, 1, 2]), (2, false, [0, 1, 2, 8]), (3, false, [0, 2, 8, 14, 15, 16]), (4, false, [0, 2, 8, 14, 15, 16]), (5, false, [0, 2, 8, 10, 14, 15, 16]), (6, false, [0, 2, 8, 10, 14, 15, 16]), (7, false, [0, 2, 8, 14, 15, 16]), (8, false, [0, 2, 8]), (9, false, []), (10, false, [2])]),
  (42, [(0, false, [0]), (1, false, [1])]),
  (43, [(0, false, [0, 1]), (1, false, [0, 1]), (2, false, [0, 1, 5]), (3, false, [1, 5, 8, 9, 10]), (4, false, [1, 5, 8, 9, 10]), (5, false, [1, 5, 6, 7, 8, 9, 10]), (6, false, [1, 5, 7, 8, 9, 10]), (7, false, [1, 5, 8, 9, 10]), (8, false, [5])]),
  (44, [(0, false, [0, 1, 2]), (1, false, [0, 1, 2]), (2, false, [0, 1, 2, 7]), (3, false, [0, 1, 2, 7, 8]), (4, false, [0, 1, 2, 7, 8, 9, 10]), (5, false, [0, 1, 2, 7, 8, 9, 10, 24, 25, 26]), (6, false, [0, 1, 2, 7, 8, 9, 10, 24, 25, 26]), (7, false, [0, 1, 2, 7, 8, 9, 10, 11, 12, 24, 25, 26]), (8, false, [0, 1, 2, 7, 8, 9, 10, 11, 12, 24, 25, 26]), (9, false, [0, 1, 2, 7, 8, 9, 10, 11, 24, 25, 26]), (10, false, [0, 1, 2, 7, 8, 9, 10, 11, 24, 25, 26]), (11, false, [0, 1, 2, 7, 8, 9, 10, 24, 25, 26]), (12, false, [0, 1, 2, 8, 9, 10]), (13, false, [0, 1, 2, 8, 9, 10, 13]), (14, false, [0, 1, 2, 8, 9, 10, 13]), (15, true, [0, 1, 2, 8, 9, 10, 13]), (16, false, [0, 1, 2, 8, 9, 10, 13]), (17, true, [0, 1, 2, 8, 9, 10]), (18, false, [0, 1, 2, 8]), (19, false, [0, 1, 2, 8, 14]), (20, false, [0, 1, 2, 8, 14]), (21, false, [0, 1, 2, 8, 14]), (22, false, [0, 1, 2, 8, 14]), (23, false, [8])]),
  (45, [(0, false, [0, 1, 2]), (1, false, [0, 1, 6]), (2, false, [0, 6, 11, 12, 13]), (3, false, [0, 6, 11, 12, 13]), (4, false, [0, 6, 7, 8, 11, 12, 13]), (5, false, [0, 6, 11, 12, 13])]),
  (46, [(0, false, [0, 1]), (1, false, [0, 1]), (2, false, [5])]),
  (47, [(0, false, [0, 1]), (1, false, [0, 1])]),
  (48, [(0, false, [0, 1]), (1, false, [0, 1])]),
  (49, [(0, false, [0, 1, 2, 3]), (1, false, [0, 1, 2, 3]), (2, false, [0, 1, 2, 3, 8]), (3, false, [0, 1, 2, 3, 8, 10]), (4, false, [0, 1, 2, 8, 10, 24, 25, 26]), (5, false, [0, 1, 2, 8, 10, 24, 25, 26]), (6, false, [0, 1, 2, 8, 10, 12, 24, 25, 26]), (7, false, [0, 1, 2, 8, 10, 12, 13, 24, 25, 26]), (8, false, [0, 1, 2, 8, 10, 12, 13, 24, 25, 26, 30, 31, 32]), (9, false, [0, 1, 2, 8, 10, 12, 13, 24, 25, 26, 30, 31, 32]), (10, false, [0, 1, 2, 8, 10, 12, 13, 15, 24, 25, 26, 30, 31, 32]), (11, false, [0, 1, 2, 8, 10, 12, 13, 24, 25, 26, 30, 31, 32]), (12, false, [0, 1, 2, 8, 10, 12, 13, 24, 25, 26]), (13, false, [0, 1, 2, 8, 10, 12, 24, 25, 26]), (14, false, [0, 1, 2, 8, 10, 12, 16, 24, 25, 26]), (15, false, [0, 1, 2, 8, 10, 16, 24, 25, 26]), (16, false, [0, 1, 2, 8, 10, 24, 25, 26]), (17, false, [0, 2, 8, 10]), (18, false, [0, 2, 9, 10]), (19, false, [0, 9, 10, 70, 71, 72]), (20, false, [0, 9, 10, 70, 71, 72]), (21, false, [0, 9, 10, 17, 18, 70, 71, 72]), (22, false, [0, 9, 10, 17, 18, 70, 71, 72, 77, 78, 79]), (23, false, [0, 9, 10, 17, 18, 70, 71, 72, 77, 78, 79]), (24, false, [0, 9, 10, 17, 18, 19, 20, 70, 71, 72, 77, 78, 79]), (25, false, [0, 9, 10, 17, 18, 70, 71, 72, 77, 78, 79]), (26, false, [0, 9, 10, 70, 71, 72])]),
  (50, [(0, false, [0]), (1, false, [0, 2]), (2, false, [0, 2, 6]), (3, false, [0, 2, 6]), (4, false, [0, 2, 3, 6]), (5, false, [0, 2, 3, 4, 6]), (6, false, [0, 2, 6]), (7, false, [2])]),
  (51, [(0, false, [0]), (1, false, [0])]),
  (52, [(0, false, [0, 1]), (1, false, [0, 1]), (2, false, [0, 1, 7, 8]), (3, false, [0, 1, 7, 8]), (4, false, [0, 1, 5, 7, 8]), (5, false, [5]), (6, false, [0, 1, 7, 8]), (7, false, [])]),
  (53, [(0, false, [0]), (1, false, [0]), (2, false, []), (3, false, [0]), (4, false, [0, 4]), (5, false, []), (6, false, [0, 4]), (7, false, [4, 5]), (8, false, []), (9, false, [4, 5]), (10, false, [4, 5, 6]), (11, false, [4, 6, 28, 29, 30]), (12, false, [4, 6, 28, 29, 30]), (13, false, [4, 6, 8, 28, 29, 30]), (14, false, [4, 6, 28, 29, 30]), (15, false, [6])]),
  (54, [(0, false, [0, 1]), (1, false, [0, 1]), (2, false, []), (3, false, [0, 1])]),
  (55, [(0, false, [0, 1]), (1, false, [0, 1]), (2, false, []), (3, true, [0, 1])]),
  (56, [(0, false, [0]), (1, false, [0]), (2, false, []), (3, true, [0]), (4, false, [0, 13, 14, 15]), (5, false, [0, 13, 14, 15]), (6, false, [0, 4, 13, 14, 15]), (7, false, []), (8, false, [0, 13, 14, 15]), (9, false, [])]),
  (57, [(0, false, [0, 1]), (1, false, [0, 1]), (2, false, [0, 1, 5]), (3, false, [1, 5, 9, 10, 11]), (4, false, [1, 5, 9, 10, 11]), (5, false, [1, 5, 6, 7, 9, 10, 11]), (6, false, [1, 5, 6, 7, 8, 9, 10, 11]), (7, false, [1, 5, 6, 7, 8, 9, 10, 11]), (8, false, [1, 5, 6, 7, 8, 9, 10, 11]), (9, true, [1, 5, 8, 9, 10, 11]), (10, false, [1, 5, 9, 10, 11]), (11, false, [5])]),
  (58, [(0, false, [0, 1]), (1, false, [0, 1]), (2, false, [0, 1, 5]), (3, false, [0, 1, 5, 6]), (4, false, [0, 1, 5, 6]), (5, true, [0, 1, 5, 6]), (6, false, [0, 1, 5, 6, 7]), (7, false, [0, 1, 5, 6, 7]), (8, false, [0, 1, 5, 6]), (9, false, [0, 1, 5, 6, 8]), (10, false, [0, 1, 5, 6, 8, 9]), (11, false, [0, 1, 5, 6, 8, 9, 65, 66]), (12, false, [0, 1, 5, 6, 8, 9, 65, 66]), (13, false, [0, 1, 5, 6, 8, 9, 11, 65, 66]), (14, false, [0, 1, 5, 6, 8, 9, 65, 66]), (15, false, [0, 1, 5, 6, 8]), (16, false, [0, 1, 5, 6, 8, 79, 80, 81]), (17, false, [0, 1, 5, 6, 8, 79, 80, 81]), (18, false, [0, 1, 5, 6, 8, 12, 13, 79, 80, 81]), (19, true, [0, 1, 5, 6, 8, 13, 79, 80, 81]), (20, false, [0, 1, 5, 6, 8, 13, 14, 79, 80, 81]), (21, false, [0, 1, 5, 6, 8, 13, 14, 79, 80, 81, 101, 102]), (22, false, [0, 1, 5, 6, 8, 13, 14, 79, 80, 81, 101, 102]), (23, false, [0, 1, 5, 6, 8, 13, 14, 15, 79, 80, 81, 101, 102]), (24, false, [0, 1, 5, 6, 8, 13, 14, 79, 80, 81, 101, 102]), (25, false, [0, 1, 5, 6, 8, 79, 80, 81]), (26, false, [0, 1, 5, 6]), (27, true, [0, 1, 5, 6]), (28, false, [0, 1, 5, 121]), (29, false, [5])]),
  (59, [(0, false, [0]), (1, false, [0]), (2, false, [5, 6, 7]), (3, false, [5, 6, 7]), (4, false, [4, 5, 6, 7]), (5, false, []), (6, false, [5, 6, 7]), (7, false, [])]),
  (60, [(0, false, [0, 1]), (1, false, [0, 1]), (2, false, [0, 1, 5]), (3, false, [0, 1, 5]), (4, false, [0, 1, 5]), (5, false, [0, 1, 5]), (6, true, [0, 1, 5]), (7, false, [0, 1, 5]), (8, false, [0, 1, 5]), (9, false, [5])]),
  (61, [(0, false, [0, 1]), (1, false, [0, 1]), (2, false, [0, 1, 5]), (3, false, [0, 1, 5]), (4, false, [0, 1, 5]), (5, false, [0, 1, 5]), (6, true, [0, 1, 5]), (7, false, [5])]),
  (62, [(0, false, [0]), (1, false, [0])]),
  (63, [(0, false, [0, 1]), (1, false, [0, 1]), (2, false, [0, 1, 7, 8]), (3, false, [0, 1, 7, 8]), (4, false, [0, 1, 5, 7, 8]), (5, false, [5]), (6, false, [0, 1, 7, 8]), (7, false, [])]),
  (64, [(0, false, [0, 1]), (1, false, [0, 1])]),
  (65, [(0, false, [0]), (1, false, [0])]),
  (66, [(0, false, [0, 1]), (1, false, [0, 1]), (2, false, [5])]),
  (67, [(0, false, [0, 1]), (1, false, [0, 1])]),
  (68, [(0, false, [0]), (1, false, [0])]),
  (70, [(0, false, [0, 1]), (1, false, [0, 1]), (2, false, []), (3, false, [0, 1]), (4, false, []), (5, false, [0, 1])]),
  (71, [(0, false, [0, 1]), (1, false, [0, 1]), (2, false, [0, 1, 7, 8]), (3, false, [0, 1, 7, 8]), (4, false, [0, 1, 5, 7, 8]), (5, false, [5]), (6, false, [0, 1, 7, 8]), (7, false, [])]),
  (69, [(0, false, [0]), (1, false, [0])])]

noncomputable def c5 : Code := (Try.f5.body).getD .skip

noncomputable def r5 : List ResultVar := Try.f5.results.toList

noncomputable def F5_J1' (W J : StepF (AV × AHeap × Nat) → StepF (AV × AHeap × Nat)) (call : YldF → CallF) (Y : YldF) (lf : Nat) (x5 : Int) (x6a : Option (Nat × Nat)) (x6n : Nat) (x6c : Bool) (x15 : Int) (x16 : Int) (x17 : Int) (x18a : Option (Nat × Nat)) (x18n : Nat) (x18c : Bool) (x19a : Option (Nat × Nat)) (x19n : Nat) (x19c : Bool) (x20 : Option (Nat × Nat)) (x22 : Int) (h : AHeap) (nx : Nat) : Option (AV × AHeap × Nat) :=
  goK W J drawK (machOf Try.prog) call Y (keepT 5) lf c5 [1, 1, 1, 1, 1, 1, 1, 1] [] (retK (machOf Try.prog) ⟨c5, 168, r5, keepT 5⟩) ⟨168, mkL [(5, (.int .i64 x5)), (6, (.slice x6a x6n x6c)), (15, (.int .i64 x15)), (16, (.int .i64 x16)), (17, (.int .i64 x17)), (18, (.slice x18a x18n x18c)), (19, (.slice x19a x19n x19c)), (20, (.ptr x20)), (22, (.int .i64 x22))]⟩ h nx

noncomputable def F5_J1 (call : YldF → CallF) (Y : YldF) (lf : Nat) (x5 : Int) (x6a : Option (Nat × Nat)) (x6n : Nat) (x6c : Bool) (x15 : Int) (x16 : Int) (x17 : Int) (x18a : Option (Nat × Nat)) (x18n : Nat) (x18c : Bool) (x19a : Option (Nat × Nat)) (x19n : Nat) (x19c : Bool) (x20 : Option (Nat × Nat)) (x22 : Int) (h : AHeap) (nx : Nat) : Option (AV × AHeap × Nat) := F5_J1' go1 go1 call Y lf x5 x6a x6n x6c x15 x16 x17 x18a x18n x18c x19a x19n x19c x20 x22 h nx

noncomputable def F5_L2' (W J : StepF (AV × AHeap × Nat) → StepF (AV × AHeap × Nat)) (call : YldF → CallF) (Y : YldF) (lf : Nat) (n0 : Nat) (x6a : Option (Nat × Nat)) (x6n : Nat) (x6c : Bool) (x15 : Int) (x16 : Int) (x17 : Int) (x18a : Option (Nat × Nat)) (x18n : Nat) (x18c : Bool) (x19a : Option (Nat × Nat)) (x19n : Nat) (x19c : Bool) (x20 : Option (Nat × Nat)) (x22 : Int) (x23a : Option (Nat × Nat)) (x23n : Nat) (x23c : Bool) (x24 : Int) (x25 : Int) (h : AHeap) (nx : Nat) : Option (AV × AHeap × Nat) :=
  goK W J drawK (machOf Try.prog) call Y (keepT 5) lf c5 [1, 1, 1, 1, 1, 1, 1, 1, 1, 1, 0, 1, 0, 9] [n0] (retK (machOf Try.prog) ⟨c5, 168, r5, keepT 5⟩) ⟨168, mkL [(6, (.slice x6a x6n x6c)), (15, (.int .i64 x15)), (16, (.int .i64 x16)), (17, (.int .i64 x17)), (18, (.slice x18a x18n x18c)), (19, (.slice x19a x19n x19c)), (20, (.ptr x20)), (22, (.int .i64 x22)), (23, (.slice x23a x23n x23c)), (24, (.int .i64 x24)), (25, (.int .i64 x25))]⟩ h nx

noncomputable def F5_L2 (call : YldF → CallF) (Y : YldF) (lf : Nat) (n0 : Nat) (x6a : Option (Nat × Nat)) (x6n : Nat) (x6c : Bool) (x15 : Int) (x16 : Int) (x17 : Int) (x18a : Option (Nat × Nat)) (x18n : Nat) (x18c : Bool) (x19a : Option (Nat × Nat)) (x19n : Nat) (x19c : Bool) (x20 : Option (Nat × Nat)) (x22 : Int) (x23a : Option (Nat × Nat)) (x23n : Nat) (x23c : Bool) (x24 : Int) (x25 : Int) (h : AHeap) (nx : Nat) : Option (AV × AHeap × Nat) := F5_L2' go1 go1 call Y lf n0 x6a x6n x6c x15 x16 x17 x18a x18n x18c x19a x19n x19c x20 x22 x23a x23n x23c x24 x25 h nx

noncomputable def F5_J3' (W J : StepF (AV × AHeap × Nat) → StepF (AV × AHeap × Nat)) (call : YldF → CallF) (Y : YldF) (lf : Nat) (n0 : Nat) (x6a : Option (Nat × Nat)) (x6n : Nat) (x6c : Bool) (x15 : Int) (x16 : Int) (x17 : Int) (x18a : Option (Nat × Nat)) (x18n : Nat) (x18c : Bool) (x19a : Option (Nat × Nat)) (x19n : Nat) (x19c : Bool) (x20 : Option (Nat × Nat)) (x22 : Int) (x23a : Option (Nat × Nat)) (x23n : Nat) (x23c : Bool) (x24 : Int) (x25 : Int) (h : AHeap) (nx : Nat) : Option (AV × AHeap × Nat) :=
  goK W J drawK (machOf Try.prog) call Y (keepT 5) lf c5 [1, 1, 1, 1, 1, 1, 1, 1, 1, 1, 0, 1, 0, 0, 1] [n0] (retK (machOf Try.prog) ⟨c5, 168, r5, keepT 5⟩) ⟨168, mkL [(6, (.slice x6a x6n x6c)), (15, (.int .i64 x15)), (16, (.int .i64 x16)), (17, (.int .i64 x17)), (18, (.slice x18a x18n x18c)), (19, (.slice x19a x19n x19c)), (20, (.ptr x20)), (22, (.int .i64 x22)), (23, (.slice x23a x23n x23c)), (24, (.int .i64 x24)), (25, (.int .i64 x25))]⟩ h nx

noncomputable def F5_J3 (call : YldF → CallF) (Y : YldF) (lf : Nat) (n0 : Nat) (x6a : Option (Nat × Nat)) (x6n : Nat) (x6c : Bool) (x15 : Int) (x16 : Int) (x17 : Int) (x18a : Option (Nat × Nat)) (x18n : Nat) (x18c : Bool) (x19a : Option (Nat × Nat)) (x19n : Nat) (x19c : Bool) (x20 : Option (Nat × Nat)) (x22 : Int) (x23a : Option (Nat × Nat)) (x23n : Nat) (x23c : Bool) (x24 : Int) (x25 : Int) (h : AHeap) (nx : Nat) : Option (AV × AHeap × Nat) := F5_J3' go1 go1 call Y lf n0 x6a x6n x6c x15 x16 x17 x18a x18n x18c x19a x19n x19c x20 x22 x23a x23n x23c x24 x25 h nx

noncomputable def F5_J4' (W J : StepF (AV × AHeap × Nat) → StepF (AV × AHeap × Nat)) (call : YldF → CallF) (Y : YldF) (lf : Nat) (x15 : Int) (x16 : Int) (x17 : Int) (x18a : Option (Nat × Nat)) (x18n : Nat) (x18c : Bool) (x19a : Option (Nat × Nat)) (x19n : Nat) (x19c : Bool) (x20 : Option (Nat × Nat)) (x22 : Int) (x23a : Option (Nat × Nat)) (x23n : Nat) (x23c : Bool) (h : AHeap) (nx : Nat) : Option (AV × AHeap × Nat) :=
  goK W J drawK (machOf Try.prog) call Y (keepT 5) lf c5 [1, 1, 1, 1, 1, 1, 1, 1, 1, 1, 1] [] (retK (machOf Try.prog) ⟨c5, 168, r5, keepT 5⟩) ⟨168, mkL [(15, (.int .i64 x15)), (16, (.int .i64 x16)), (17, (.int .i64 x17)), (18, (.slice x18a x18n x18c)), (19, (.slice x19a x19n x19c)), (20, (.ptr x20)), (22, (.int .i64 x22)), (23, (.slice x23a x23n x23c))]⟩ h nx

noncomputable def F5_J4 (call : YldF → CallF) (Y : YldF) (lf : Nat) (x15 : Int) (x16 : Int) (x17 : Int) (x18a : Option (Nat × Nat)) (x18n : Nat) (x18c : Bool) (x19a : Option (Nat × Nat)) (x19n : Nat) (x19c : Bool) (x20 : Option (Nat × Nat)) (x22 : Int) (x23a : Option (Nat × Nat)) (x23n : Nat) (x23c : Bool) (h : AHeap) (nx : Nat) : Option (AV × AHeap × Nat) := F5_J4' go1 go1 call Y lf x15 x16 x17 x18a x18n x18c x19a x19n x19c x20 x22 x23a x23n x23c h nx

noncomputable def F5_J5' (W J : StepF (AV × AHeap × Nat) → StepF (AV × AHeap × Nat)) (call : YldF → CallF) (Y : YldF) (lf : Nat) (x18a : Option (Nat × Nat)) (x18n : Nat) (x18c : Bool) (x22 : Int) (x27a : Option (Nat × Nat)) (x27n : Nat) (x27c : Bool) (x28a : Option (Nat × Nat)) (x28n : Nat) (x28c : Bool) (h : AHeap) (nx : Nat) : Option (AV × AHeap × Nat) :=
  goK W J drawK (machOf Try.prog) call Y (keepT 5) lf c5 [1, 1, 1, 1, 1, 1, 1, 1, 1, 1, 1, 1, 1, 1, 1, 1] [] (retK (machOf Try.prog) ⟨c5, 168, r5, keepT 5⟩) ⟨168, mkL [(18, (.slice x18a x18n x18c)), (22, (.int .i64 x22)), (27, (.slice x27a x27n x27c)), (28, (.slice x28a x28n x28c))]⟩ h nx

noncomputable def F5_J5 (call : YldF → CallF) (Y : YldF) (lf : Nat) (x18a : Option (Nat × Nat)) (x18n : Nat) (x18c : Bool) (x22 : Int) (x27a : Option (Nat × Nat)) (x27n : Nat) (x27c : Bool) (x28a : Option (Nat × Nat)) (x28n : Nat) (x28c : Bool) (h : AHeap) (nx : Nat) : Option (AV × AHeap × Nat) := F5_J5' go1 go1 call Y lf x18a x18n x18c x22 x27a x27n x27c x28a x28n x28c h nx

theorem F5_J1_eq' (J : StepF (AV × AHeap × Nat) → StepF (AV × AHeap × Nat)) (call : YldF → CallF) (Y : YldF) (lf : Nat) (x5 : Int) (x6a : Option (Nat × Nat)) (x6n : Nat) (x6c : Bool) (x15 : Int) (x16 : Int) (x17 : Int) (x18a : Option (Nat × Nat)) (x18n : Nat) (x18c : Bool) (x19a : Option (Nat × Nat)) (x19n : Nat) (x19c : Bool) (x20 : Option (Nat × Nat)) (x22 : Int) (h : AHeap) (nx : Nat) : F5_J1' go1 J call Y lf x5 x6a x6n x6c x15 x16 x17 x18a x18n x18c x19a x19n x19c x20 x22 h nx =
    (x19a).bind fun p1 =>
    if 0 ≤ (x22 : Int) ∧ x22 < ((x19n : Nat) : Int) then
    ((ldA h p1.1 ((p1.2 + Int.toNat x22 * 2) + 1)).bind fun v2 =>
    (asSl v2).bind fun s3 =>
    (srcS h s3.1 s3.2.1 1).bind fun q4 =>
    (appD h none 0 false 1 1 (nx + 5) q4).bind fun e5 =>
    let h6 := AHeap.puts h e5.sets
    (call Y 8 [(.int .i64 x5), (.int .i64 (wrapA .i64 (Int.tdiv ((e5.n : Nat) : Int) 4)))] h6 (nx + 14)).bind fun r7 =>
    (asI .i64 r7.1).bind fun n8 =>
    F5_L2' J J call Y lf lf x6a x6n x6c x15 x16 x17 x18a x18n x18c x19a x19n x19c x20 x22 e5.a e5.n e5.c (wrapA .i64 (4 * n8)) 0 r7.2.1 (r7.2.2 + 1))
    else none := by kernel_rfl

theorem F5_J1_eq (call : YldF → CallF) (Y : YldF) (lf : Nat) (x5 : Int) (x6a : Option (Nat × Nat)) (x6n : Nat) (x6c : Bool) (x15 : Int) (x16 : Int) (x17 : Int) (x18a : Option (Nat × Nat)) (x18n : Nat) (x18c : Bool) (x19a : Option (Nat × Nat)) (x19n : Nat) (x19c : Bool) (x20 : Option (Nat × Nat)) (x22 : Int) (h : AHeap) (nx : Nat) : F5_J1 call Y lf x5 x6a x6n x6c x15 x16 x17 x18a x18n x18c x19a x19n x19c x20 x22 h nx =
    (x19a).bind fun p1 =>
    if 0 ≤ (x22 : Int) ∧ x22 < ((x19n : Nat) : Int) then
    ((ldA h p1.1 ((p1.2 + Int.toNat x22 * 2) + 1)).bind fun v2 =>
    (asSl v2).bind fun s3 =>
    (srcS h s3.1 s3.2.1 1).bind fun q4 =>
    (appD h none 0 false 1 1 (nx + 5) q4).bind fun e5 =>
    let h6 := AHeap.puts h e5.sets
    (call Y 8 [(.int .i64 x5), (.int .i64 (wrapA .i64 (Int.tdiv ((e5.n : Nat) : Int) 4)))] h6 (nx + 14)).bind fun r7 =>
    (asI .i64 r7.1).bind fun n8 =>
    F5_L2 call Y lf lf x6a x6n x6c x15 x16 x17 x18a x18n x18c x19a x19n x19c x20 x22 e5.a e5.n e5.c (wrapA .i64 (4 * n8)) 0 r7.2.1 (r7.2.2 + 1))
    else none := F5_J1_eq' go1 call Y lf x5 x6a x6n x6c x15 x16 x17 x18a x18n x18c x19a x19n x19c x20 x22 h nx

theorem F5_L2_eq' (J : StepF (AV × AHeap × Nat) → StepF (AV × AHeap × Nat)) (call : YldF → CallF) (Y : YldF) (lf : Nat) (n0 : Nat) (x6a : Option (Nat × Nat)) (x6n : Nat) (x6c : Bool) (x15 : Int) (x16 : Int) (x17 : Int) (x18a : Option (Nat × Nat)) (x18n : Nat) (x18c : Bool) (x19a : Option (Nat × Nat)) (x19n : Nat) (x19c : Bool) (x20 : Option (Nat × Nat)) (x22 : Int) (x23a : Option (Nat × Nat)) (x23n : Nat) (x23c : Bool) (x24 : Int) (x25 : Int) (h : AHeap) (nx : Nat) : F5_L2' go1 J call Y lf (n0 + 1) x6a x6n x6c x15 x16 x17 x18a x18n x18c x19a x19n x19c x20 x22 x23a x23n x23c x24 x25 h nx =
    if (decide ((x25 : Int) < 4)) = true then
    (if (decide ((x25 : Int) < ((x6n : Nat) : Int))) = true then
    (F5_J3' J J call Y lf n0 x6a x6n x6c x15 x16 x17 x18a x18n x18c x19a x19n x19c x20 x22 x23a x23n x23c x24 x25 h (nx + 8))
    else
    (F5_J4' J J call Y lf x15 x16 x17 x18a x18n x18c x19a x19n x19c x20 x22 x23a x23n x23c h (nx + 8)))
    else
    (F5_J4' J J call Y lf x15 x16 x17 x18a x18n x18c x19a x19n x19c x20 x22 x23a x23n x23c h (nx + 8)) := by kernel_rfl

theorem F5_L2_eq (call : YldF → CallF) (Y : YldF) (lf : Nat) (n0 : Nat) (x6a : Option (Nat × Nat)) (x6n : Nat) (x6c : Bool) (x15 : Int) (x16 : Int) (x17 : Int) (x18a : Option (Nat × Nat)) (x18n : Nat) (x18c : Bool) (x19a : Option (Nat × Nat)) (x19n : Nat) (x19c : Bool) (x20 : Option (Nat × Nat)) (x22 : Int) (x23a : Option (Nat × Nat)) (x23n : Nat) (x23c : Bool) (x24 : Int) (x25 : Int) (h : AHeap) (nx : Nat) : F5_L2 call Y lf (n0 + 1) x6a x6n x6c x15 x16 x17 x18a x18n x18c x19a x19n x19c x20 x22 x23a x23n x23c x24 x25 h nx =
    if (decide ((x25 : Int) < 4)) = true then
    (if (decide ((x25 : Int) < ((x6n : Nat) : Int))) = true then
    (F5_J3 call Y lf n0 x6a x6n x6c x15 x16 x17 x18a x18n x18c x19a x19n x19c x20 x22 x23a x23n x23c x24 x25 h (nx + 8))
    else
    (F5_J4 call Y lf x15 x16 x17 x18a x18n x18c x19a x19n x19c x20 x22 x23a x23n x23c h (nx + 8)))
    else
    (F5_J4 call Y lf x15 x16 x17 x18a x18n x18c x19a x19n x19c x20 x22 x23a x23n x23c h (nx + 8)) := F5_L2_eq' go1 call Y lf n0 x6a x6n x6c x15 x16 x17 x18a x18n x18c x19a x19n x19c x20 x22 x23a x23n x23c x24 x25 h nx

theorem F5_L2_zero (call : YldF → CallF) (Y : YldF) (lf : Nat) (x6a : Option (Nat × Nat)) (x6n : Nat) (x6c : Bool) (x15 : Int) (x16 : Int) (x17 : Int) (x18a : Option (Nat × Nat)) (x18n : Nat) (x18c : Bool) (x19a : Option (Nat × Nat)) (x19n : Nat) (x19c : Bool) (x20 : Option (Nat × Nat)) (x22 : Int) (x23a : Option (Nat × Nat)) (x23n : Nat) (x23c : Bool) (x24 : Int) (x25 : Int) (h : AHeap) (nx : Nat) : F5_L2 call Y lf 0 x6a x6n x6c x15 x16 x17 x18a x18n x18c x19a x19n x19c x20 x22 x23a x23n x23c x24 x25 h nx = none := by kernel_rfl

theorem F5_J3_eq' (J : StepF (AV × AHeap × Nat) → StepF (AV × AHeap × Nat)) (call : YldF → CallF) (Y : YldF) (lf : Nat) (n0 : Nat) (x6a : Option (Nat × Nat)) (x6n : Nat) (x6c : Bool) (x15 : Int) (x16 : Int) (x17 : Int) (x18a : Option (Nat × Nat)) (x18n : Nat) (x18c : Bool) (x19a : Option (Nat × Nat)) (x19n : Nat) (x19c : Bool) (x20 : Option (Nat × Nat)) (x22 : Int) (x23a : Option (Nat × Nat)) (x23n : Nat) (x23c : Bool) (x24 : Int) (x25 : Int) (h : AHeap) (nx : Nat) : F5_J3' go1 J call Y lf n0 x6a x6n x6c x15 x16 x17 x18a x18n x18c x19a x19n x19c x20 x22 x23a x23n x23c x24 x25 h nx =
    (x23a).bind fun p1 =>
    if 0 ≤ ((wrapA .i64 (x24 + x25)) : Int) ∧ (wrapA .i64 (x24 + x25)) < ((x23n : Nat) : Int) then
    ((ldA h p1.1 (p1.2 + Int.toNat (wrapA .i64 (x24 + x25)) * 1)).bind fun v2 =>
    (asI .u8 v2).bind fun n3 =>
    (x6a).bind fun p4 =>
    if 0 ≤ (x25 : Int) ∧ x25 < ((x6n : Nat) : Int) then
    ((ldA h p4.1 (p4.2 + Int.toNat x25 * 1)).bind fun v5 =>
    (asI .u8 v5).bind fun n6 =>
    (x23a).bind fun p7 =>
    if 0 ≤ ((wrapA .i64 (x24 + x25)) : Int) ∧ (wrapA .i64 (x24 + x25)) < ((x23n : Nat) : Int) then
    ((stA h p7.1 (p7.2 + Int.toNat (wrapA .i64 (x24 + x25)) * 1) (.int .u8 (bits .xor .u8 n3 n6)) 1).bind fun b8 =>
    let h9 := AHeap.put h p7.1 (some b8)
    F5_L2' J J call Y lf n0 x6a x6n x6c x15 x16 x17 x18a x18n x18c x19a x19n x19c x20 x22 x23a x23n x23c x24 (wrapA .i64 (x25 + 1)) h9 (nx + 16))
    else none)
    else none)
    else none := by kernel_rfl

theorem F5_J3_eq (call : YldF → CallF) (Y : YldF) (lf : Nat) (n0 : Nat) (x6a : Option (Nat × Nat)) (x6n : Nat) (x6c : Bool) (x15 : Int) (x16 : Int) (x17 : Int) (x18a : Option (Nat × Nat)) (x18n : Nat) (x18c : Bool) (x19a : Option (Nat × Nat)) (x19n : Nat) (x19c : Bool) (x20 : Option (Nat × Nat)) (x22 : Int) (x23a : Option (Nat × Nat)) (x23n : Nat) (x23c : Bool) (x24 : Int) (x25 : Int) (h : AHeap) (nx : Nat) : F5_J3 call Y lf n0 x6a x6n x6c x15 x16 x17 x18a x18n x18c x19a x19n x19c x20 x22 x23a x23n x23c x24 x25 h nx =
    (x23a).bind fun p1 =>
    if 0 ≤ ((wrapA .i64 (x24 + x25)) : Int) ∧ (wrapA .i64 (x24 + x25)) < ((x23n : Nat) : Int) then
    ((ldA h p1.1 (p1.2 + Int.toNat (wrapA .i64 (x24 + x25)) * 1)).bind fun v2 =>
    (asI .u8 v2).bind fun n3 =>
    (x6a).bind fun p4 =>
    if 0 ≤ (x25 : Int) ∧ x25 < ((x6n : Nat) : Int) then
    ((ldA h p4.1 (p4.2 + Int.toNat x25 * 1)).bind fun v5 =>
    (asI .u8 v5).bind fun n6 =>
    (x23a).bind fun p7 =>
    if 0 ≤ ((wrapA .i64 (x24 + x25)) : Int) ∧ (wrapA .i64 (x24 + x25)) < ((x23n : Nat) : Int) then
    ((stA h p7.1 (p7.2 + Int.toNat (wrapA .i64 (x24 + x25)) * 1) (.int .u8 (bits .xor .u8 n3 n6)) 1).bind fun b8 =>
    let h9 := AHeap.put h p7.1 (some b8)
    F5_L2 call Y lf n0 x6a x6n x6c x15 x16 x17 x18a x18n x18c x19a x19n x19c x20 x22 x23a x23n x23c x24 (wrapA .i64 (x25 + 1)) h9 (nx + 16))
    else none)
    else none)
    else none := F5_J3_eq' go1 call Y lf n0 x6a x6n x6c x15 x16 x17 x18a x18n x18c x19a x19n x19c x20 x22 x23a x23n x23c x24 x25 h nx

theorem F5_J4_eq' (J : StepF (AV × AHeap × Nat) → StepF (AV × AHeap × Nat)) (call : YldF → CallF) (Y : YldF) (lf : Nat) (x15 : Int) (x16 : Int) (x17 : Int) (x18a : Option (Nat × Nat)) (x18n : Nat) (x18c : Bool) (x19a : Option (Nat × Nat)) (x19n : Nat) (x19c : Bool) (x20 : Option (Nat × Nat)) (x22 : Int) (x23a : Option (Nat × Nat)) (x23n : Nat) (x23c : Bool) (h : AHeap) (nx : Nat) : F5_J4' go1 J call Y lf x15 x16 x17 x18a x18n x18c x19a x19n x19c x20 x22 x23a x23n x23c h nx =
    (x19a).bind fun p1 =>
    if 0 ≤ (x22 : Int) ∧ x22 < ((x19n : Nat) : Int) then
    ((ldA h p1.1 ((p1.2 + Int.toNat x22 * 2) + 1)).bind fun v2 =>
    (asSl v2).bind fun s3 =>
    (call Y 13 [(.slice x23a x23n x23c), (.slice s3.1 s3.2.1 s3.2.2)] h (nx + 8)).bind fun r4 =>
    (asB r4.1).bind fun t5 =>
    (x19a).bind fun p6 =>
    if 0 ≤ (x22 : Int) ∧ x22 < ((x19n : Nat) : Int) then
    ((stA r4.2.1 p6.1 ((p6.2 + Int.toNat x22 * 2) + 1) (.slice x23a x23n x23c) 1).bind fun b7 =>
    let h8 := AHeap.put r4.2.1 p6.1 (some b7)
    (x20).bind fun p9 =>
    (ldR h8 p9.1 p9.2 4).bind fun l10 =>
    (asAgg 4 (AV.agg l10)).bind fun d11 =>
    (asI .i64 (d11.getD 0 .bad)).bind fun n12 =>
    (asI .i64 (d11.getD 1 .bad)).bind fun n13 =>
    (asI .i64 (d11.getD 2 .bad)).bind fun n14 =>
    (asI .i64 (d11.getD 3 .bad)).bind fun n15 =>
    (call Y 12 [(.int .i64 x15), (.int .i64 x16), (.int .i64 x17), (.int .i64 ((x18n : Nat) : Int)), (.slice x19a x19n x19c), (.agg [(.int .i64 n12), (.int .i64 n13), (.int .i64 n14), (.int .i64 n15)])] h8 (r4.2.2 + 21)).bind fun r16 =>
    (asTup 3 r16.1).bind fun d17 =>
    (asSl (d17.getD 0 .bad)).bind fun s18 =>
    (asSl (d17.getD 1 .bad)).bind fun s19 =>
    (asI .i64 (d17.getD 2 .bad)).bind fun n20 =>
    if ((n20 : Int) != 0) = true then
    (some ((.bool false), r16.2.1, (r16.2.2 + 3)))
    else
    (if t5 = true then
    (if ((((s19.2.1 : Nat) : Int) : Int) == 0) = true then
    ((call Y 13 [(.slice s18.1 s18.2.1 s18.2.2), (.slice x18a x18n x18c)] r16.2.1 (r16.2.2 + 17)).bind fun r21 =>
    (asB r21.1).bind fun t22 =>
    some ((.bool t22), r21.2.1, r21.2.2))
    else
    (some ((.bool false), r16.2.1, (r16.2.2 + 17))))
    else
    (if (decide ((x22 : Int) < x16)) = true then
    (if ((((s19.2.1 : Nat) : Int) : Int) == 0) = true then
    ((call Y 13 [(.slice s18.1 s18.2.1 s18.2.2), (.slice x18a x18n x18c)] r16.2.1 (r16.2.2 + 17)).bind fun r23 =>
    (asB r23.1).bind fun t24 =>
    some ((.bool t24), r23.2.1, r23.2.2))
    else
    (some ((.bool false), r16.2.1, (r16.2.2 + 17))))
    else
    (F5_J5' J J call Y lf x18a x18n x18c x22 s18.1 s18.2.1 s18.2.2 s19.1 s19.2.1 s19.2.2 r16.2.1 (r16.2.2 + 8)))))
    else none)
    else none := by kernel_rfl

theorem F5_J4_eq (call : YldF → CallF) (Y : YldF) (lf : Nat) (x15 : Int) (x16 : Int) (x17 : Int) (x18a : Option (Nat × Nat)) (x18n : Nat) (x18c : Bool) (x19a : Option (Nat × Nat)) (x19n : Nat) (x19c : Bool) (x20 : Option (Nat × Nat)) (x22 : Int) (x23a : Option (Nat × Nat)) (x23n : Nat) (x23c : Bool) (h : AHeap) (nx : Nat) : F5_J4 call Y lf x15 x16 x17 x18a x18n x18c x19a x19n x19c x20 x22 x23a x23n x23c h nx =
    (x19a).bind fun p1 =>
    if 0 ≤ (x22 : Int) ∧ x22 < ((x19n : Nat) : Int) then
    ((ldA h p1.1 ((p1.2 + Int.toNat x22 * 2) + 1)).bind fun v2 =>
    (asSl v2).bind fun s3 =>
    (call Y 13 [(.slice x23a x23n x23c), (.slice s3.1 s3.2.1 s3.2.2)] h (nx + 8)).bind fun r4 =>
    (asB r4.1).bind fun t5 =>
    (x19a).bind fun p6 =>
    if 0 ≤ (x22 : Int) ∧ x22 < ((x19n : Nat) : Int) then
    ((stA r4.2.1 p6.1 ((p6.2 + Int.toNat x22 * 2) + 1) (.slice x23a x23n x23c) 1).bind fun b7 =>
    let h8 := AHeap.put r4.2.1 p6.1 (some b7)
    (x20).bind fun p9 =>
    (ldR h8 p9.1 p9.2 4).bind fun l10 =>
    (asAgg 4 (AV.agg l10)).bind fun d11 =>
    (asI .i64 (d11.getD 0 .bad)).bind fun n12 =>
    (asI .i64 (d11.getD 1 .bad)).bind fun n13 =>
    (asI .i64 (d11.getD 2 .bad)).bind fun n14 =>
    (asI .i64 (d11.getD 3 .bad)).bind fun n15 =>
    (call Y 12 [(.int .i64 x15), (.int .i64 x16), (.int .i64 x17), (.int .i64 ((x18n : Nat) : Int)), (.slice x19a x19n x19c), (.agg [(.int .i64 n12), (.int .i64 n13), (.int .i64 n14), (.int .i64 n15)])] h8 (r4.2.2 + 21)).bind fun r16 =>
    (asTup 3 r16.1).bind fun d17 =>
    (asSl (d17.getD 0 .bad)).bind fun s18 =>
    (asSl (d17.getD 1 .bad)).bind fun s19 =>
    (asI .i64 (d17.getD 2 .bad)).bind fun n20 =>
    if ((n20 : Int) != 0) = true then
    (some ((.bool false), r16.2.1, (r16.2.2 + 3)))
    else
    (if t5 = true then
    (if ((((s19.2.1 : Nat) : Int) : Int) == 0) = true then
    ((call Y 13 [(.slice s18.1 s18.2.1 s18.2.2), (.slice x18a x18n x18c)] r16.2.1 (r16.2.2 + 17)).bind fun r21 =>
    (asB r21.1).bind fun t22 =>
    some ((.bool t22), r21.2.1, r21.2.2))
    else
    (some ((.bool false), r16.2.1, (r16.2.2 + 17))))
    else
    (if (decide ((x22 : Int) < x16)) = true then
    (if ((((s19.2.1 : Nat) : Int) : Int) == 0) = true then
    ((call Y 13 [(.slice s18.1 s18.2.1 s18.2.2), (.slice x18a x18n x18c)] r16.2.1 (r16.2.2 + 17)).bind fun r23 =>
    (asB r23.1).bind fun t24 =>
    some ((.bool t24), r23.2.1, r23.2.2))
    else
    (some ((.bool false), r16.2.1, (r16.2.2 + 17))))
    else
    (F5_J5 call Y lf x18a x18n x18c x22 s18.1 s18.2.1 s18.2.2 s19.1 s19.2.1 s19.2.2 r16.2.1 (r16.2.2 + 8)))))
    else none)
    else none := F5_J4_eq' go1 call Y lf x15 x16 x17 x18a x18n x18c x19a x19n x19c x20 x22 x23a x23n x23c h nx

theorem F5_J5_eq' (J : StepF (AV × AHeap × Nat) → StepF (AV × AHeap × Nat)) (call : YldF → CallF) (Y : YldF) (lf : Nat) (x18a : Option (Nat × Nat)) (x18n : Nat) (x18c : Bool) (x22 : Int) (x27a : Option (Nat × Nat)) (x27n : Nat) (x27c : Bool) (x28a : Option (Nat × Nat)) (x28n : Nat) (x28c : Bool) (h : AHeap) (nx : Nat) : F5_J5' go1 J call Y lf x18a x18n x18c x22 x27a x27n x27c x28a x28n x28c h nx =
    if ((((x28n : Nat) : Int) : Int) == 1) = true then
    ((x28a).bind fun p1 =>
    if 0 ≤ (0 : Int) ∧ 0 < ((x28n : Nat) : Int) then
    ((ldA h p1.1 (p1.2 + Int.toNat 0 * 1)).bind fun v2 =>
    (asI .i64 v2).bind fun n3 =>
    if (decide ((n3 : Int) ≤ x22)) = true then
    ((x28a).bind fun p4 =>
    if 0 ≤ (0 : Int) ∧ 0 < ((x28n : Nat) : Int) then
    ((ldA h p4.1 (p4.2 + Int.toNat 0 * 1)).bind fun v5 =>
    (asI .i64 v5).bind fun n6 =>
    if (decide ((n6 : Int) < x22)) = true then
    (some ((.bool true), h, (nx + 23)))
    else
    ((call Y 13 [(.slice x27a x27n x27c), (.slice x18a x18n x18c)] h (nx + 23)).bind fun r7 =>
    (asB r7.1).bind fun t8 =>
    some ((.bool t8), r7.2.1, r7.2.2)))
    else none)
    else
    (some ((.bool false), h, (nx + 23))))
    else none)
    else
    (some ((.bool false), h, (nx + 23))) := by kernel_rfl

theorem F5_J5_eq (call : YldF → CallF) (Y : YldF) (lf : Nat) (x18a : Option (Nat × Nat)) (x18n : Nat) (x18c : Bool) (x22 : Int) (x27a : Option (Nat × Nat)) (x27n : Nat) (x27c : Bool) (x28a : Option (Nat × Nat)) (x28n : Nat) (x28c : Bool) (h : AHeap) (nx : Nat) : F5_J5 call Y lf x18a x18n x18c x22 x27a x27n x27c x28a x28n x28c h nx =
    if ((((x28n : Nat) : Int) : Int) == 1) = true then
    ((x28a).bind fun p1 =>
    if 0 ≤ (0 : Int) ∧ 0 < ((x28n : Nat) : Int) then
    ((ldA h p1.1 (p1.2 + Int.toNat 0 * 1)).bind fun v2 =>
    (asI .i64 v2).bind fun n3 =>
    if (decide ((n3 : Int) ≤ x22)) = true then
    ((x28a).bind fun p4 =>
    if 0 ≤ (0 : Int) ∧ 0 < ((x28n : Nat) : Int) then
    ((ldA h p4.1 (p4.2 + Int.toNat 0 * 1)).bind fun v5 =>
    (asI .i64 v5).bind fun n6 =>
    if (decide ((n6 : Int) < x22)) = true then
    (some ((.bool true), h, (nx + 23)))
    else
    ((call Y 13 [(.slice x27a x27n x27c), (.slice x18a x18n x18c)] h (nx + 23)).bind fun r7 =>
    (asB r7.1).bind fun t8 =>
    some ((.bool t8), r7.2.1, r7.2.2)))
    else none)
    else
    (some ((.bool false), h, (nx + 23))))
    else none)
    else
    (some ((.bool false), h, (nx + 23))) := F5_J5_eq' go1 call Y lf x18a x18n x18c x22 x27a x27n x27c x28a x28n x28c h nx

theorem F5_eq' (J : StepF (AV × AHeap × Nat) → StepF (AV × AHeap × Nat)) (n : Nat) (Y : YldF) (x0 : Int) (x1 : Int) (x2 : Int) (x3a : Option (Nat × Nat)) (x3n : Nat) (x3c : Bool) (x4 : Int) (x5 : Int) (x6a : Option (Nat × Nat)) (x6n : Nat) (x6c : Bool) (h : AHeap) (nx : Nat) : rootJ J Try.prog keepT (callP Try.prog keepT n) Y n 5 [(.int .i64 x0), (.int .i64 x1), (.int .i64 x2), (.slice x3a x3n x3c), (.int .i64 x4), (.int .i64 x5), (.slice x6a x6n x6c)] h nx =
    ((callP Try.prog keepT n) Y 7 [(.int .i64 x0), (.int .i64 x1)] h (nx + 9)).bind fun r1 =>
    (asTup 2 r1.1).bind fun d2 =>
    (asI .i64 (d2.getD 0 .bad)).bind fun n3 =>
    (asI .i64 (d2.getD 1 .bad)).bind fun n4 =>
    ((callP Try.prog keepT n) Y 8 [(.int .i64 x2), (.int .i64 60000)] r1.2.1 (r1.2.2 + 3)).bind fun r5 =>
    (asI .i64 r5.1).bind fun n6 =>
    ((callP Try.prog keepT n) Y 9 [(.slice x3a x3n x3c), (.int .i64 1000)] r5.2.1 (r5.2.2 + 3)).bind fun r7 =>
    (asSl r7.1).bind fun s8 =>
    ((callP Try.prog keepT n) Y 10 [(.int .i64 n3), (.int .i64 n4), (.int .i64 n6), (.slice s8.1 s8.2.1 s8.2.2)] r7.2.1 (r7.2.2 + 13)).bind fun r9 =>
    (asTup 3 r9.1).bind fun d10 =>
    (asSl (d10.getD 0 .bad)).bind fun s11 =>
    (asAgg 4 (d10.getD 1 .bad)).bind fun d12 =>
    (asI .i64 (d12.getD 0 .bad)).bind fun n13 =>
    (asI .i64 (d12.getD 1 .bad)).bind fun n14 =>
    (asI .i64 (d12.getD 2 .bad)).bind fun n15 =>
    (asI .i64 (d12.getD 3 .bad)).bind fun n16 =>
    (asB (d10.getD 2 .bad)).bind fun t17 =>
    let h18 := AHeap.put r9.2.1 (r7.2.2 + 9) (some ⟨[(.int .i64 0), (.int .i64 0), (.int .i64 0), (.int .i64 0)], 4, true⟩)
    (stA h18 (r7.2.2 + 9) 0 (.agg [(.int .i64 n13), (.int .i64 n14), (.int .i64 n15), (.int .i64 n16)]) 4).bind fun b19 =>
    let h20 := AHeap.put h18 (r7.2.2 + 9) (some b19)
    if (!t17) = true then
    (some ((.bool false), h20, (r9.2.2 + 3)))
    else
    (((callP Try.prog keepT n) Y 8 [(.int .i64 x4), (.int .i64 ((s11.2.1 : Nat) : Int))] h20 (r9.2.2 + 7)).bind fun r21 =>
    (asI .i64 r21.1).bind fun n22 =>
    (s11.1).bind fun p23 =>
    if 0 ≤ (n22 : Int) ∧ n22 < ((s11.2.1 : Nat) : Int) then
    ((ldA r21.2.1 p23.1 ((p23.2 + Int.toNat n22 * 2) + 1)).bind fun v24 =>
    (asSl v24).bind fun s25 =>
    if (decide ((((s25.2.1 : Nat) : Int) : Int) < 4)) = true then
    (some ((.bool false), r21.2.1, (r21.2.2 + 18)))
    else
    ((s11.1).bind fun p26 =>
    if 0 ≤ (n22 : Int) ∧ n22 < ((s11.2.1 : Nat) : Int) then
    ((ldA r21.2.1 p26.1 ((p26.2 + Int.toNat n22 * 2) + 1)).bind fun v27 =>
    (asSl v27).bind fun s28 =>
    if (((Int.tmod ((s28.2.1 : Nat) : Int) 4) : Int) != 0) = true then
    (some ((.bool false), r21.2.1, (r21.2.2 + 18)))
    else
    (F5_J1' J J (callP Try.prog keepT n) Y n x5 x6a x6n x6c n3 n4 n6 s8.1 s8.2.1 s8.2.2 s11.1 s11.2.1 s11.2.2 (some ((r7.2.2 + 9), 0)) n22 r21.2.1 (r21.2.2 + 17)))
    else none))
    else none) := by kernel_rfl

/-- quickset/quicksetkeep.GatherWord -/
theorem F5_eq (n : Nat) (Y : YldF) (x0 : Int) (x1 : Int) (x2 : Int) (x3a : Option (Nat × Nat)) (x3n : Nat) (x3c : Bool) (x4 : Int) (x5 : Int) (x6a : Option (Nat × Nat)) (x6n : Nat) (x6c : Bool) (h : AHeap) (nx : Nat) : callP Try.prog keepT (n + 1) Y 5 [(.int .i64 x0), (.int .i64 x1), (.int .i64 x2), (.slice x3a x3n x3c), (.int .i64 x4), (.int .i64 x5), (.slice x6a x6n x6c)] h nx =
    ((callP Try.prog keepT n) Y 7 [(.int .i64 x0), (.int .i64 x1)] h (nx + 9)).bind fun r1 =>
    (asTup 2 r1.1).bind fun d2 =>
    (asI .i64 (d2.getD 0 .bad)).bind fun n3 =>
    (asI .i64 (d2.getD 1 .bad)).bind fun n4 =>
    ((callP Try.prog keepT n) Y 8 [(.int .i64 x2), (.int .i64 60000)] r1.2.1 (r1.2.2 + 3)).bind fun r5 =>
    (asI .i64 r5.1).bind fun n6 =>
    ((callP Try.prog keepT n) Y 9 [(.slice x3a x3n x3c), (.int .i64 1000)] r5.2.1 (r5.2.2 + 3)).bind fun r7 =>
    (asSl r7.1).bind fun s8 =>
    ((callP Try.prog keepT n) Y 10 [(.int .i64 n3), (.int .i64 n4), (.int .i64 n6), (.slice s8.1 s8.2.1 s8.2.2)] r7.2.1 (r7.2.2 + 13)).bind fun r9 =>
    (asTup 3 r9.1).bind fun d10 =>
    (asSl (d10.getD 0 .bad)).bind fun s11 =>
    (asAgg 4 (d10.getD 1 .bad)).bind fun d12 =>
    (asI .i64 (d12.getD 0 .bad)).bind fun n13 =>
    (asI .i64 (d12.getD 1 .bad)).bind fun n14 =>
    (asI .i64 (d12.getD 2 .bad)).bind fun n15 =>
    (asI .i64 (d12.getD 3 .bad)).bind fun n16 =>
    (asB (d10.getD 2 .bad)).bind fun t17 =>
    let h18 := AHeap.put r9.2.1 (r7.2.2 + 9) (some ⟨[(.int .i64 0), (.int .i64 0), (.int .i64 0), (.int .i64 0)], 4, true⟩)
    (stA h18 (r7.2.2 + 9) 0 (.agg [(.int .i64 n13), (.int .i64 n14), (.int .i64 n15), (.int .i64 n16)]) 4).bind fun b19 =>
    let h20 := AHeap.put h18 (r7.2.2 + 9) (some b19)
    if (!t17) = true then
    (some ((.bool false), h20, (r9.2.2 + 3)))
    else
    (((callP Try.prog keepT n) Y 8 [(.int .i64 x4), (.int .i64 ((s11.2.1 : Nat) : Int))] h20 (r9.2.2 + 7)).bind fun r21 =>
    (asI .i64 r21.1).bind fun n22 =>
    (s11.1).bind fun p23 =>
    if 0 ≤ (n22 : Int) ∧ n22 < ((s11.2.1 : Nat) : Int) then
    ((ldA r21.2.1 p23.1 ((p23.2 + Int.toNat n22 * 2) + 1)).bind fun v24 =>
    (asSl v24).bind fun s25 =>
    if (decide ((((s25.2.1 : Nat) : Int) : Int) < 4)) = true then
    (some ((.bool false), r21.2.1, (r21.2.2 + 18)))
    else
    ((s11.1).bind fun p26 =>
    if 0 ≤ (n22 : Int) ∧ n22 < ((s11.2.1 : Nat) : Int) then
    ((ldA r21.2.1 p26.1 ((p26.2 + Int.toNat n22 * 2) + 1)).bind fun v27 =>
    (asSl v27).bind fun s28 =>
    if (((Int.tmod ((s28.2.1 : Nat) : Int) 4) : Int) != 0) = true then
    (some ((.bool false), r21.2.1, (r21.2.2 + 18)))
    else
    (F5_J1 (callP Try.prog keepT n) Y n x5 x6a x6n x6c n3 n4 n6 s8.1 s8.2.1 s8.2.2 s11.1 s11.2.1 s11.2.2 (some ((r7.2.2 + 9), 0)) n22 r21.2.1 (r21.2.2 + 17)))
    else none))
    else none) := F5_eq' go1 n Y x0 x1 x2 x3a x3n x3c x4 x5 x6a x6n x6c h nx

noncomputable def c7 : Code := (Try.f7.body).getD .skip

noncomputable def r7 : List ResultVar := Try.f7.results.toList

theorem F7_eq' (J : StepF (AV × AHeap × Nat) → StepF (AV × AHeap × Nat)) (n : Nat) (Y : YldF) (x0 : Int) (x1 : Int) (h : AHeap) (nx : Nat) : rootJ J Try.prog keepT (callP Try.prog keepT n) Y n 7 [(.int .i64 x0), (.int .i64 x1)] h nx =
    ((callP Try.prog keepT n) Y 8 [(.int .i64 x0), (.int .i64 7)] h (nx + 6)).bind fun r1 =>
    (asI .i64 r1.1).bind fun n2 =>
    ((callP Try.prog keepT n) Y 8 [(.int .i64 x1), (.int .i64 (if (wrapA .i64 ((wrapA .i64 (2 + n2)) - 1)) < 3 then (wrapA .i64 ((wrapA .i64 (2 + n2)) - 1)) else 3))] r1.2.1 (r1.2.2 + 9)).bind fun r3 =>
    (asI .i64 r3.1).bind fun n4 =>
    some ((.tuple [(.int .i64 (wrapA .i64 (2 + n2))), (.int .i64 (wrapA .i64 (1 + n4)))]), r3.2.1, r3.2.2) := by kernel_rfl

/-- quickset/quicksetkeep.Shape -/
theorem F7_eq (n : Nat) (Y : YldF) (x0 : Int) (x1 : Int) (h : AHeap) (nx : Nat) : callP Try.prog keepT (n + 1) Y 7 [(.int .i64 x0), (.int .i64 x1)] h nx =
    ((callP Try.prog keepT n) Y 8 [(.int .i64 x0), (.int .i64 7)] h (nx + 6)).bind fun r1 =>
    (asI .i64 r1.1).bind fun n2 =>
    ((callP Try.prog keepT n) Y 8 [(.int .i64 x1), (.int .i64 (if (wrapA .i64 ((wrapA .i64 (2 + n2)) - 1)) < 3 then (wrapA .i64 ((wrapA .i64 (2 + n2)) - 1)) else 3))] r1.2.1 (r1.2.2 + 9)).bind fun r3 =>
    (asI .i64 r3.1).bind fun n4 =>
    some ((.tuple [(.int .i64 (wrapA .i64 (2 + n2))), (.int .i64 (wrapA .i64 (1 + n4)))]), r3.2.1, r3.2.2) := F7_eq' go1 n Y x0 x1 h nx

noncomputable def c8 : Code := (Try.f8.body).getD .skip

noncomputable def r8 : List ResultVar := Try.f8.results.toList

theorem F8_eq' (J : StepF (AV × AHeap × Nat) → StepF (AV × AHeap × Nat)) (n : Nat) (Y : YldF) (x0 : Int) (x1 : Int) (h : AHeap) (nx : Nat) : rootJ J Try.prog keepT (callP Try.prog keepT n) Y n 8 [(.int .i64 x0), (.int .i64 x1)] h nx =
    if (x1 : Int) = 0 then none else
    (if (decide (((Int.tmod x0 x1) : Int) < 0)) = true then
    (some ((.int .i64 (wrapA .i64 ((Int.tmod x0 x1) + x1))), h, (nx + 11)))
    else
    (some ((.int .i64 (Int.tmod x0 x1)), h, (nx + 9)))) := by kernel_rfl

/-- quickset/quicksetkeep.Picked -/
theorem F8_eq (n : Nat) (Y : YldF) (x0 : Int) (x1 : Int) (h : AHeap) (nx : Nat) : callP Try.prog keepT (n + 1) Y 8 [(.int .i64 x0), (.int .i64 x1)] h nx =
    if (x1 : Int) = 0 then none else
    (if (decide (((Int.tmod x0 x1) : Int) < 0)) = true then
    (some ((.int .i64 (wrapA .i64 ((Int.tmod x0 x1) + x1))), h, (nx + 11)))
    else
    (some ((.int .i64 (Int.tmod x0 x1)), h, (nx + 9)))) := F8_eq' go1 n Y x0 x1 h nx

noncomputable def c9 : Code := (Try.f9.body).getD .skip

noncomputable def r9 : List ResultVar := Try.f9.results.toList

theorem F9_eq' (J : StepF (AV × AHeap × Nat) → StepF (AV × AHeap × Nat)) (n : Nat) (Y : YldF) (x0a : Option (Nat × Nat)) (x0n : Nat) (x0c : Bool) (x1 : Int) (h : AHeap) (nx : Nat) : rootJ J Try.prog keepT (callP Try.prog keepT n) Y n 9 [(.slice x0a x0n x0c), (.int .i64 x1)] h nx =
    if ((((x0n : Nat) : Int) : Int) == 0) = true then
    (let h1 := AHeap.put h (nx + 4) (some ⟨[(.int .u8 7)], 1, true⟩)
    some ((.slice (some ((nx + 4), 0)) 1 true), h1, (nx + 6)))
    else
    ((cutA h x0a x0n x0c 1 none (some (.int .i64 (if x1 < ((x0n : Nat) : Int) then x1 else ((x0n : Nat) : Int)))) none).bind fun s2 =>
    (srcS h s2.1 s2.2.1 1).bind fun q3 =>
    (appD h none 0 false 1 1 (nx + 10) q3).bind fun e4 =>
    let h5 := AHeap.puts h e4.sets
    some ((.slice e4.a e4.n e4.c), h5, (nx + 12))) := by kernel_rfl

/-- quickset/quicksetkeep.Block -/
theorem F9_eq (n : Nat) (Y : YldF) (x0a : Option (Nat × Nat)) (x0n : Nat) (x0c : Bool) (x1 : Int) (h : AHeap) (nx : Nat) : callP Try.prog keepT (n + 1) Y 9 [(.slice x0a x0n x0c), (.int .i64 x1)] h nx =
    if ((((x0n : Nat) : Int) : Int) == 0) = true then
    (let h1 := AHeap.put h (nx + 4) (some ⟨[(.int .u8 7)], 1, true⟩)
    some ((.slice (some ((nx + 4), 0)) 1 true), h1, (nx + 6)))
    else
    ((cutA h x0a x0n x0c 1 none (some (.int .i64 (if x1 < ((x0n : Nat) : Int) then x1 else ((x0n : Nat) : Int)))) none).bind fun s2 =>
    (srcS h s2.1 s2.2.1 1).bind fun q3 =>
    (appD h none 0 false 1 1 (nx + 10) q3).bind fun e4 =>
    let h5 := AHeap.puts h e4.sets
    some ((.slice e4.a e4.n e4.c), h5, (nx + 12))) := F9_eq' go1 n Y x0a x0n x0c x1 h nx

noncomputable def c10 : Code := (Try.f10.body).getD .skip

noncomputable def r10 : List ResultVar := Try.f10.results.toList

noncomputable def F10_J1' (W J : StepF (AV × AHeap × Nat) → StepF (AV × AHeap × Nat)) (call : YldF → CallF) (Y : YldF) (lf : Nat) (x9 : Option (Nat × Nat)) (x11a : Option (Nat × Nat)) (x11n : Nat) (x11c : Bool) (x13 : Option (Nat × Nat)) (h : AHeap) (nx : Nat) : Option (AV × AHeap × Nat) :=
  goK W J drawK (machOf Try.prog) call Y (keepT 10) lf c10 [1, 1, 1, 1] [] (retK (machOf Try.prog) ⟨c10, 60, r10, keepT 10⟩) ⟨60, mkL [(9, (.ptr x9)), (11, (.slice x11a x11n x11c)), (13, (.ptr x13))]⟩ h nx

noncomputable def F10_J1 (call : YldF → CallF) (Y : YldF) (lf : Nat) (x9 : Option (Nat × Nat)) (x11a : Option (Nat × Nat)) (x11n : Nat) (x11c : Bool) (x13 : Option (Nat × Nat)) (h : AHeap) (nx : Nat) : Option (AV × AHeap × Nat) := F10_J1' go1 go1 call Y lf x9 x11a x11n x11c x13 h nx

noncomputable def F10_L2' (W J : StepF (AV × AHeap × Nat) → StepF (AV × AHeap × Nat)) (call : YldF → CallF) (Y : YldF) (lf : Nat) (n0 : Nat) (x9 : Option (Nat × Nat)) (x11a : Option (Nat × Nat)) (x11n : Nat) (x11c : Bool) (x13 : Option (Nat × Nat)) (x15a : Option (Nat × Nat)) (x15n : Nat) (x15c : Bool) (x16 : Int) (h : AHeap) (nx : Nat) : Option (AV × AHeap × Nat) :=
  goK W J drawK (machOf Try.prog) call Y (keepT 10) lf c10 [1, 1, 1, 1, 1, 0, 1, 0, 9] [n0] (retK (machOf Try.prog) ⟨c10, 60, r10, keepT 10⟩) ⟨60, mkL [(9, (.ptr x9)), (11, (.slice x11a x11n x11c)), (13, (.ptr x13)), (15, (.slice x15a x15n x15c)), (16, (.int .i64 x16))]⟩ h nx

noncomputable def F10_L2 (call : YldF → CallF) (Y : YldF) (lf : Nat) (n0 : Nat) (x9 : Option (Nat × Nat)) (x11a : Option (Nat × Nat)) (x11n : Nat) (x11c : Bool) (x13 : Option (Nat × Nat)) (x15a : Option (Nat × Nat)) (x15n : Nat) (x15c : Bool) (x16 : Int) (h : AHeap) (nx : Nat) : Option (AV × AHeap × Nat) := F10_L2' go1 go1 call Y lf n0 x9 x11a x11n x11c x13 x15a x15n x15c x16 h nx

theorem F10_J1_eq' (J : StepF (AV × AHeap × Nat) → StepF (AV × AHeap × Nat)) (call : YldF → CallF) (Y : YldF) (lf : Nat) (x9 : Option (Nat × Nat)) (x11a : Option (Nat × Nat)) (x11n : Nat) (x11c : Bool) (x13 : Option (Nat × Nat)) (h : AHeap) (nx : Nat) : F10_J1' go1 J call Y lf x9 x11a x11n x11c x13 h nx =
    F10_L2' J J call Y lf lf x9 x11a x11n x11c x13 none 0 false 0 h (nx + 2) := by kernel_rfl

theorem F10_J1_eq (call : YldF → CallF) (Y : YldF) (lf : Nat) (x9 : Option (Nat × Nat)) (x11a : Option (Nat × Nat)) (x11n : Nat) (x11c : Bool) (x13 : Option (Nat × Nat)) (h : AHeap) (nx : Nat) : F10_J1 call Y lf x9 x11a x11n x11c x13 h nx =
    F10_L2 call Y lf lf x9 x11a x11n x11c x13 none 0 false 0 h (nx + 2) := F10_J1_eq' go1 call Y lf x9 x11a x11n x11c x13 h nx

theorem F10_L2_eq' (J : StepF (AV × AHeap × Nat) → StepF (AV × AHeap × Nat)) (call : YldF → CallF) (Y : YldF) (lf : Nat) (n0 : Nat) (x9 : Option (Nat × Nat)) (x11a : Option (Nat × Nat)) (x11n : Nat) (x11c : Bool) (x13 : Option (Nat × Nat)) (x15a : Option (Nat × Nat)) (x15n : Nat) (x15c : Bool) (x16 : Int) (h : AHeap) (nx : Nat) : F10_L2' go1 J call Y lf (n0 + 1) x9 x11a x11n x11c x13 x15a x15n x15c x16 h nx =
    if (decide ((x16 : Int) < ((x11n : Nat) : Int))) = true then
    ((x11a).bind fun p1 =>
    if 0 ≤ (x16 : Int) ∧ x16 < ((x11n : Nat) : Int) then
    ((ldA h p1.1 (p1.2 + Int.toNat x16 * 1)).bind fun v2 =>
    (asSl v2).bind fun s3 =>
    let h4 := AHeap.put h (nx + 10) (some ⟨[(.bool false), (.slice s3.1 s3.2.1 s3.2.2)], 2, true⟩)
    (srcS h4 (some ((nx + 10), 0)) 1 2).bind fun q5 =>
    (appD h4 x15a x15n x15c 2 32 (nx + 11) q5).bind fun e6 =>
    let h7 := AHeap.puts h4 e6.sets
    F10_L2' J J call Y lf n0 x9 x11a x11n x11c x13 e6.a e6.n e6.c (wrapA .i64 (x16 + 1)) h7 (nx + 16))
    else none)
    else
    ((x13).bind fun p8 =>
    (ldR h p8.1 p8.2 4).bind fun l9 =>
    (asAgg 4 (AV.agg l9)).bind fun d10 =>
    (asI .i64 (d10.getD 0 .bad)).bind fun n11 =>
    (asI .i64 (d10.getD 1 .bad)).bind fun n12 =>
    (asI .i64 (d10.getD 2 .bad)).bind fun n13 =>
    (asI .i64 (d10.getD 3 .bad)).bind fun n14 =>
    (x9).bind fun p15 =>
    (stA h p15.1 p15.2 (.agg [(.int .i64 n11), (.int .i64 n12), (.int .i64 n13), (.int .i64 n14)]) 4).bind fun b16 =>
    let h17 := AHeap.put h p15.1 (some b16)
    (x9).bind fun p18 =>
    (ldR h17 p18.1 p18.2 4).bind fun l19 =>
    (asAgg 4 (AV.agg l19)).bind fun d20 =>
    (asI .i64 (d20.getD 0 .bad)).bind fun n21 =>
    (asI .i64 (d20.getD 1 .bad)).bind fun n22 =>
    (asI .i64 (d20.getD 2 .bad)).bind fun n23 =>
    (asI .i64 (d20.getD 3 .bad)).bind fun n24 =>
    some ((.tuple [(.slice x15a x15n x15c), (.agg [(.int .i64 n21), (.int .i64 n22), (.int .i64 n23), (.int .i64 n24)]), (.bool true)]), h17, (nx + 9))) := by kernel_rfl

theorem F10_L2_eq (call : YldF → CallF) (Y : YldF) (lf : Nat) (n0 : Nat) (x9 : Option (Nat × Nat)) (x11a : Option (Nat × Nat)) (x11n : Nat) (x11c : Bool) (x13 : Option (Nat × Nat)) (x15a : Option (Nat × Nat)) (x15n : Nat) (x15c : Bool) (x16 : Int) (h : AHeap) (nx : Nat) : F10_L2 call Y lf (n0 + 1) x9 x11a x11n x11c x13 x15a x15n x15c x16 h nx =
    if (decide ((x16 : Int) < ((x11n : Nat) : Int))) = true then
    ((x11a).bind fun p1 =>
    if 0 ≤ (x16 : Int) ∧ x16 < ((x11n : Nat) : Int) then
    ((ldA h p1.1 (p1.2 + Int.toNat x16 * 1)).bind fun v2 =>
    (asSl v2).bind fun s3 =>
    let h4 := AHeap.put h (nx + 10) (some ⟨[(.bool false), (.slice s3.1 s3.2.1 s3.2.2)], 2, true⟩)
    (srcS h4 (some ((nx + 10), 0)) 1 2).bind fun q5 =>
    (appD h4 x15a x15n x15c 2 32 (nx + 11) q5).bind fun e6 =>
    let h7 := AHeap.puts h4 e6.sets
    F10_L2 call Y lf n0 x9 x11a x11n x11c x13 e6.a e6.n e6.c (wrapA .i64 (x16 + 1)) h7 (nx + 16))
    else none)
    else
    ((x13).bind fun p8 =>
    (ldR h p8.1 p8.2 4).bind fun l9 =>
    (asAgg 4 (AV.agg l9)).bind fun d10 =>
    (asI .i64 (d10.getD 0 .bad)).bind fun n11 =>
    (asI .i64 (d10.getD 1 .bad)).bind fun n12 =>
    (asI .i64 (d10.getD 2 .bad)).bind fun n13 =>
    (asI .i64 (d10.getD 3 .bad)).bind fun n14 =>
    (x9).bind fun p15 =>
    (stA h p15.1 p15.2 (.agg [(.int .i64 n11), (.int .i64 n12), (.int .i64 n13), (.int .i64 n14)]) 4).bind fun b16 =>
    let h17 := AHeap.put h p15.1 (some b16)
    (x9).bind fun p18 =>
    (ldR h17 p18.1 p18.2 4).bind fun l19 =>
    (asAgg 4 (AV.agg l19)).bind fun d20 =>
    (asI .i64 (d20.getD 0 .bad)).bind fun n21 =>
    (asI .i64 (d20.getD 1 .bad)).bind fun n22 =>
    (asI .i64 (d20.getD 2 .bad)).bind fun n23 =>
    (asI .i64 (d20.getD 3 .bad)).bind fun n24 =>
    some ((.tuple [(.slice x15a x15n x15c), (.agg [(.int .i64 n21), (.int .i64 n22), (.int .i64 n23), (.int .i64 n24)]), (.bool true)]), h17, (nx + 9))) := F10_L2_eq' go1 call Y lf n0 x9 x11a x11n x11c x13 x15a x15n x15c x16 h nx

theorem F10_L2_zero (call : YldF → CallF) (Y : YldF) (lf : Nat) (x9 : Option (Nat × Nat)) (x11a : Option (Nat × Nat)) (x11n : Nat) (x11c : Bool) (x13 : Option (Nat × Nat)) (x15a : Option (Nat × Nat)) (x15n : Nat) (x15c : Bool) (x16 : Int) (h : AHeap) (nx : Nat) : F10_L2 call Y lf 0 x9 x11a x11n x11c x13 x15a x15n x15c x16 h nx = none := by kernel_rfl

theorem F10_eq' (J : StepF (AV × AHeap × Nat) → StepF (AV × AHeap × Nat)) (n : Nat) (Y : YldF) (x0 : Int) (x1 : Int) (x2 : Int) (x3a : Option (Nat × Nat)) (x3n : Nat) (x3c : Bool) (h : AHeap) (nx : Nat) : rootJ J Try.prog keepT (callP Try.prog keepT n) Y n 10 [(.int .i64 x0), (.int .i64 x1), (.int .i64 x2), (.slice x3a x3n x3c)] h nx =
    let h1 := AHeap.put h (nx + 1) (some ⟨[(.int .i64 0), (.int .i64 0), (.int .i64 0), (.int .i64 0)], 4, true⟩)
    ((callP Try.prog keepT n) Y 16 [(.int .i64 x0), (.int .i64 x1), (.int .i64 x2), (.slice x3a x3n x3c)] h1 (nx + 13)).bind fun r2 =>
    (asTup 2 r2.1).bind fun d3 =>
    (asSl (d3.getD 0 .bad)).bind fun s4 =>
    (asI .i64 (d3.getD 1 .bad)).bind fun n5 =>
    ((callP Try.prog keepT n) Y 15 [(.slice x3a x3n x3c)] r2.2.1 (r2.2.2 + 9)).bind fun r6 =>
    (asSl r6.1).bind fun s7 =>
    ((callP Try.prog keepT n) Y 14 [(.slice s7.1 s7.2.1 s7.2.2)] r6.2.1 r6.2.2).bind fun r8 =>
    (asTup 2 r8.1).bind fun d9 =>
    (asAgg 4 (d9.getD 0 .bad)).bind fun d10 =>
    (asI .i64 (d10.getD 0 .bad)).bind fun n11 =>
    (asI .i64 (d10.getD 1 .bad)).bind fun n12 =>
    (asI .i64 (d10.getD 2 .bad)).bind fun n13 =>
    (asI .i64 (d10.getD 3 .bad)).bind fun n14 =>
    (asI .i64 (d9.getD 1 .bad)).bind fun n15 =>
    let h16 := AHeap.put r8.2.1 (r2.2.2 + 6) (some ⟨[(.int .i64 0), (.int .i64 0), (.int .i64 0), (.int .i64 0)], 4, true⟩)
    (stA h16 (r2.2.2 + 6) 0 (.agg [(.int .i64 n11), (.int .i64 n12), (.int .i64 n13), (.int .i64 n14)]) 4).bind fun b17 =>
    let h18 := AHeap.put h16 (r2.2.2 + 6) (some b17)
    if ((n5 : Int) != 0) = true then
    ((ldR h18 (r2.2.2 + 6) 0 4).bind fun l19 =>
    (asAgg 4 (AV.agg l19)).bind fun d20 =>
    (asI .i64 (d20.getD 0 .bad)).bind fun n21 =>
    (asI .i64 (d20.getD 1 .bad)).bind fun n22 =>
    (asI .i64 (d20.getD 2 .bad)).bind fun n23 =>
    (asI .i64 (d20.getD 3 .bad)).bind fun n24 =>
    (stA h18 (nx + 1) 0 (.agg [(.int .i64 n21), (.int .i64 n22), (.int .i64 n23), (.int .i64 n24)]) 4).bind fun b25 =>
    let h26 := AHeap.put h18 (nx + 1) (some b25)
    (ldR h26 (nx + 1) 0 4).bind fun l27 =>
    (asAgg 4 (AV.agg l27)).bind fun d28 =>
    (asI .i64 (d28.getD 0 .bad)).bind fun n29 =>
    (asI .i64 (d28.getD 1 .bad)).bind fun n30 =>
    (asI .i64 (d28.getD 2 .bad)).bind fun n31 =>
    (asI .i64 (d28.getD 3 .bad)).bind fun n32 =>
    some ((.tuple [(.slice none 0 false), (.agg [(.int .i64 n29), (.int .i64 n30), (.int .i64 n31), (.int .i64 n32)]), (.bool false)]), h26, (r8.2.2 + 16)))
    else
    (if ((n15 : Int) != 0) = true then
    ((ldR h18 (r2.2.2 + 6) 0 4).bind fun l33 =>
    (asAgg 4 (AV.agg l33)).bind fun d34 =>
    (asI .i64 (d34.getD 0 .bad)).bind fun n35 =>
    (asI .i64 (d34.getD 1 .bad)).bind fun n36 =>
    (asI .i64 (d34.getD 2 .bad)).bind fun n37 =>
    (asI .i64 (d34.getD 3 .bad)).bind fun n38 =>
    (stA h18 (nx + 1) 0 (.agg [(.int .i64 n35), (.int .i64 n36), (.int .i64 n37), (.int .i64 n38)]) 4).bind fun b39 =>
    let h40 := AHeap.put h18 (nx + 1) (some b39)
    (ldR h40 (nx + 1) 0 4).bind fun l41 =>
    (asAgg 4 (AV.agg l41)).bind fun d42 =>
    (asI .i64 (d42.getD 0 .bad)).bind fun n43 =>
    (asI .i64 (d42.getD 1 .bad)).bind fun n44 =>
    (asI .i64 (d42.getD 2 .bad)).bind fun n45 =>
    (asI .i64 (d42.getD 3 .bad)).bind fun n46 =>
    some ((.tuple [(.slice none 0 false), (.agg [(.int .i64 n43), (.int .i64 n44), (.int .i64 n45), (.int .i64 n46)]), (.bool false)]), h40, (r8.2.2 + 16)))
    else
    (if (decide ((((s4.2.1 : Nat) : Int) : Int) ≤ x1)) = true then
    ((ldR h18 (r2.2.2 + 6) 0 4).bind fun l47 =>
    (asAgg 4 (AV.agg l47)).bind fun d48 =>
    (asI .i64 (d48.getD 0 .bad)).bind fun n49 =>
    (asI .i64 (d48.getD 1 .bad)).bind fun n50 =>
    (asI .i64 (d48.getD 2 .bad)).bind fun n51 =>
    (asI .i64 (d48.getD 3 .bad)).bind fun n52 =>
    (stA h18 (nx + 1) 0 (.agg [(.int .i64 n49), (.int .i64 n50), (.int .i64 n51), (.int .i64 n52)]) 4).bind fun b53 =>
    let h54 := AHeap.put h18 (nx + 1) (some b53)
    (ldR h54 (nx + 1) 0 4).bind fun l55 =>
    (asAgg 4 (AV.agg l55)).bind fun d56 =>
    (asI .i64 (d56.getD 0 .bad)).bind fun n57 =>
    (asI .i64 (d56.getD 1 .bad)).bind fun n58 =>
    (asI .i64 (d56.getD 2 .bad)).bind fun n59 =>
    (asI .i64 (d56.getD 3 .bad)).bind fun n60 =>
    some ((.tuple [(.slice none 0 false), (.agg [(.int .i64 n57), (.int .i64 n58), (.int .i64 n59), (.int .i64 n60)]), (.bool false)]), h54, (r8.2.2 + 16)))
    else
    (F10_J1' J J (callP Try.prog keepT n) Y n (some ((nx + 1), 0)) s4.1 s4.2.1 s4.2.2 (some ((r2.2.2 + 6), 0)) h18 (r8.2.2 + 12)))) := by kernel_rfl

/-- quickset/quicksetkeep.laid -/
theorem F10_eq (n : Nat) (Y : YldF) (x0 : Int) (x1 : Int) (x2 : Int) (x3a : Option (Nat × Nat)) (x3n : Nat) (x3c : Bool) (h : AHeap) (nx : Nat) : callP Try.prog keepT (n + 1) Y 10 [(.int .i64 x0), (.int .i64 x1), (.int .i64 x2), (.slice x3a x3n x3c)] h nx =
    let h1 := AHeap.put h (nx + 1) (some ⟨[(.int .i64 0), (.int .i64 0), (.int .i64 0), (.int .i64 0)], 4, true⟩)
    ((callP Try.prog keepT n) Y 16 [(.int .i64 x0), (.int .i64 x1), (.int .i64 x2), (.slice x3a x3n x3c)] h1 (nx + 13)).bind fun r2 =>
    (asTup 2 r2.1).bind fun d3 =>
    (asSl (d3.getD 0 .bad)).bind fun s4 =>
    (asI .i64 (d3.getD 1 .bad)).bind fun n5 =>
    ((callP Try.prog keepT n) Y 15 [(.slice x3a x3n x3c)] r2.2.1 (r2.2.2 + 9)).bind fun r6 =>
    (asSl r6.1).bind fun s7 =>
    ((callP Try.prog keepT n) Y 14 [(.slice s7.1 s7.2.1 s7.2.2)] r6.2.1 r6.2.2).bind fun r8 =>
    (asTup 2 r8.1).bind fun d9 =>
    (asAgg 4 (d9.getD 0 .bad)).bind fun d10 =>
    (asI .i64 (d10.getD 0 .bad)).bind fun n11 =>
    (asI .i64 (d10.getD 1 .bad)).bind fun n12 =>
    (asI .i64 (d10.getD 2 .bad)).bind fun n13 =>
    (asI .i64 (d10.getD 3 .bad)).bind fun n14 =>
    (asI .i64 (d9.getD 1 .bad)).bind fun n15 =>
    let h16 := AHeap.put r8.2.1 (r2.2.2 + 6) (some ⟨[(.int .i64 0), (.int .i64 0), (.int .i64 0), (.int .i64 0)], 4, true⟩)
    (stA h16 (r2.2.2 + 6) 0 (.agg [(.int .i64 n11), (.int .i64 n12), (.int .i64 n13), (.int .i64 n14)]) 4).bind fun b17 =>
    let h18 := AHeap.put h16 (r2.2.2 + 6) (some b17)
    if ((n5 : Int) != 0) = true then
    ((ldR h18 (r2.2.2 + 6) 0 4).bind fun l19 =>
    (asAgg 4 (AV.agg l19)).bind fun d20 =>
    (asI .i64 (d20.getD 0 .bad)).bind fun n21 =>
    (asI .i64 (d20.getD 1 .bad)).bind fun n22 =>
    (asI .i64 (d20.getD 2 .bad)).bind fun n23 =>
    (asI .i64 (d20.getD 3 .bad)).bind fun n24 =>
    (stA h18 (nx + 1) 0 (.agg [(.int .i64 n21), (.int .i64 n22), (.int .i64 n23), (.int .i64 n24)]) 4).bind fun b25 =>
    let h26 := AHeap.put h18 (nx + 1) (some b25)
    (ldR h26 (nx + 1) 0 4).bind fun l27 =>
    (asAgg 4 (AV.agg l27)).bind fun d28 =>
    (asI .i64 (d28.getD 0 .bad)).bind fun n29 =>
    (asI .i64 (d28.getD 1 .bad)).bind fun n30 =>
    (asI .i64 (d28.getD 2 .bad)).bind fun n31 =>
    (asI .i64 (d28.getD 3 .bad)).bind fun n32 =>
    some ((.tuple [(.slice none 0 false), (.agg [(.int .i64 n29), (.int .i64 n30), (.int .i64 n31), (.int .i64 n32)]), (.bool false)]), h26, (r8.2.2 + 16)))
    else
    (if ((n15 : Int) != 0) = true then
    ((ldR h18 (r2.2.2 + 6) 0 4).bind fun l33 =>
    (asAgg 4 (AV.agg l33)).bind fun d34 =>
    (asI .i64 (d34.getD 0 .bad)).bind fun n35 =>
    (asI .i64 (d34.getD 1 .bad)).bind fun n36 =>
    (asI .i64 (d34.getD 2 .bad)).bind fun n37 =>
    (asI .i64 (d34.getD 3 .bad)).bind fun n38 =>
    (stA h18 (nx + 1) 0 (.agg [(.int .i64 n35), (.int .i64 n36), (.int .i64 n37), (.int .i64 n38)]) 4).bind fun b39 =>
    let h40 := AHeap.put h18 (nx + 1) (some b39)
    (ldR h40 (nx + 1) 0 4).bind fun l41 =>
    (asAgg 4 (AV.agg l41)).bind fun d42 =>
    (asI .i64 (d42.getD 0 .bad)).bind fun n43 =>
    (asI .i64 (d42.getD 1 .bad)).bind fun n44 =>
    (asI .i64 (d42.getD 2 .bad)).bind fun n45 =>
    (asI .i64 (d42.getD 3 .bad)).bind fun n46 =>
    some ((.tuple [(.slice none 0 false), (.agg [(.int .i64 n43), (.int .i64 n44), (.int .i64 n45), (.int .i64 n46)]), (.bool false)]), h40, (r8.2.2 + 16)))
    else
    (if (decide ((((s4.2.1 : Nat) : Int) : Int) ≤ x1)) = true then
    ((ldR h18 (r2.2.2 + 6) 0 4).bind fun l47 =>
    (asAgg 4 (AV.agg l47)).bind fun d48 =>
    (asI .i64 (d48.getD 0 .bad)).bind fun n49 =>
    (asI .i64 (d48.getD 1 .bad)).bind fun n50 =>
    (asI .i64 (d48.getD 2 .bad)).bind fun n51 =>
    (asI .i64 (d48.getD 3 .bad)).bind fun n52 =>
    (stA h18 (nx + 1) 0 (.agg [(.int .i64 n49), (.int .i64 n50), (.int .i64 n51), (.int .i64 n52)]) 4).bind fun b53 =>
    let h54 := AHeap.put h18 (nx + 1) (some b53)
    (ldR h54 (nx + 1) 0 4).bind fun l55 =>
    (asAgg 4 (AV.agg l55)).bind fun d56 =>
    (asI .i64 (d56.getD 0 .bad)).bind fun n57 =>
    (asI .i64 (d56.getD 1 .bad)).bind fun n58 =>
    (asI .i64 (d56.getD 2 .bad)).bind fun n59 =>
    (asI .i64 (d56.getD 3 .bad)).bind fun n60 =>
    some ((.tuple [(.slice none 0 false), (.agg [(.int .i64 n57), (.int .i64 n58), (.int .i64 n59), (.int .i64 n60)]), (.bool false)]), h54, (r8.2.2 + 16)))
    else
    (F10_J1 (callP Try.prog keepT n) Y n (some ((nx + 1), 0)) s4.1 s4.2.1 s4.2.2 (some ((r2.2.2 + 6), 0)) h18 (r8.2.2 + 12)))) := F10_eq' go1 n Y x0 x1 x2 x3a x3n x3c h nx

noncomputable def c12 : Code := (Try.f12.body).getD .skip

noncomputable def r12 : List ResultVar := Try.f12.results.toList

noncomputable def F12_L1' (W J : StepF (AV × AHeap × Nat) → StepF (AV × AHeap × Nat)) (call : YldF → CallF) (Y : YldF) (lf : Nat) (n0 : Nat) (x1 : Int) (x9 : Option (Nat × Nat)) (x10 : Option (Nat × Nat)) (x11 : Option (Nat × Nat)) (x12 : Option (Nat × Nat)) (x13 : Option (Nat × Nat)) (x14 : Option (Nat × Nat)) (x15 : Option (Nat × Nat)) (x17 : Option (Nat × Nat)) (x18 : Option (Nat × Nat)) (x45a : Option (Nat × Nat)) (x45n : Nat) (x45c : Bool) (x46 : Int) (x47 : Int) (h : AHeap) (nx : Nat) : Option (AV × AHeap × Nat) :=
  goK W J drawK (machOf Try.prog) call Y (keepT 12) lf c12 [1, 1, 1, 1, 1, 0, 1, 0, 9] [n0] (retK (machOf Try.prog) ⟨c12, 128, r12, keepT 12⟩) ⟨128, mkL [(1, (.int .i64 x1)), (9, (.ptr x9)), (10, (.ptr x10)), (11, (.ptr x11)), (12, (.ptr x12)), (13, (.ptr x13)), (14, (.ptr x14)), (15, (.ptr x15)), (17, (.ptr x17)), (18, (.ptr x18)), (45, (.slice x45a x45n x45c)), (46, (.int .i64 x46)), (47, (.int .i64 x47))]⟩ h nx

noncomputable def F12_L1 (call : YldF → CallF) (Y : YldF) (lf : Nat) (n0 : Nat) (x1 : Int) (x9 : Option (Nat × Nat)) (x10 : Option (Nat × Nat)) (x11 : Option (Nat × Nat)) (x12 : Option (Nat × Nat)) (x13 : Option (Nat × Nat)) (x14 : Option (Nat × Nat)) (x15 : Option (Nat × Nat)) (x17 : Option (Nat × Nat)) (x18 : Option (Nat × Nat)) (x45a : Option (Nat × Nat)) (x45n : Nat) (x45c : Bool) (x46 : Int) (x47 : Int) (h : AHeap) (nx : Nat) : Option (AV × AHeap × Nat) := F12_L1' go1 go1 call Y lf n0 x1 x9 x10 x11 x12 x13 x14 x15 x17 x18 x45a x45n x45c x46 x47 h nx

noncomputable def F12_L2' (W J : StepF (AV × AHeap × Nat) → StepF (AV × AHeap × Nat)) (call : YldF → CallF) (Y : YldF) (lf : Nat) (n0 : Nat) (x1 : Int) (x9 : Option (Nat × Nat)) (x10 : Option (Nat × Nat)) (x11 : Option (Nat × Nat)) (x12 : Option (Nat × Nat)) (x13 : Option (Nat × Nat)) (x14 : Option (Nat × Nat)) (x15 : Option (Nat × Nat)) (x17 : Option (Nat × Nat)) (x18 : Option (Nat × Nat)) (x21 : Int) (h : AHeap) (nx : Nat) : Option (AV × AHeap × Nat) :=
  goK W J drawK (machOf Try.prog) call Y (keepT 12) lf c12 [1, 1, 1, 1, 1, 1, 1, 0, 1, 0, 9] [n0] (retK (machOf Try.prog) ⟨c12, 128, r12, keepT 12⟩) ⟨128, mkL [(1, (.int .i64 x1)), (9, (.ptr x9)), (10, (.ptr x10)), (11, (.ptr x11)), (12, (.ptr x12)), (13, (.ptr x13)), (14, (.ptr x14)), (15, (.ptr x15)), (17, (.ptr x17)), (18, (.ptr x18)), (21, (.int .i64 x21))]⟩ h nx

noncomputable def F12_L2 (call : YldF → CallF) (Y : YldF) (lf : Nat) (n0 : Nat) (x1 : Int) (x9 : Option (Nat × Nat)) (x10 : Option (Nat × Nat)) (x11 : Option (Nat × Nat)) (x12 : Option (Nat × Nat)) (x13 : Option (Nat × Nat)) (x14 : Option (Nat × Nat)) (x15 : Option (Nat × Nat)) (x17 : Option (Nat × Nat)) (x18 : Option (Nat × Nat)) (x21 : Int) (h : AHeap) (nx : Nat) : Option (AV × AHeap × Nat) := F12_L2' go1 go1 call Y lf n0 x1 x9 x10 x11 x12 x13 x14 x15 x17 x18 x21 h nx

noncomputable def F12_J3' (W J : StepF (AV × AHeap × Nat) → StepF (AV × AHeap × Nat)) (call : YldF → CallF) (Y : YldF) (lf : Nat) (n0 : Nat) (x1 : Int) (x9 : Option (Nat × Nat)) (x10 : Option (Nat × Nat)) (x11 : Option (Nat × Nat)) (x12 : Option (Nat × Nat)) (x13 : Option (Nat × Nat)) (x14 : Option (Nat × Nat)) (x15 : Option (Nat × Nat)) (x17 : Option (Nat × Nat)) (x18 : Option (Nat × Nat)) (x21 : Int) (h : AHeap) (nx : Nat) : Option (AV × AHeap × Nat) :=
  goK W J drawK (machOf Try.prog) call Y (keepT 12) lf c12 [1, 1, 1, 1, 1, 1, 1, 0, 1, 0, 0, 1] [n0] (retK (machOf Try.prog) ⟨c12, 128, r12, keepT 12⟩) ⟨128, mkL [(1, (.int .i64 x1)), (9, (.ptr x9)), (10, (.ptr x10)), (11, (.ptr x11)), (12, (.ptr x12)), (13, (.ptr x13)), (14, (.ptr x14)), (15, (.ptr x15)), (17, (.ptr x17)), (18, (.ptr x18)), (21, (.int .i64 x21))]⟩ h nx

noncomputable def F12_J3 (call : YldF → CallF) (Y : YldF) (lf : Nat) (n0 : Nat) (x1 : Int) (x9 : Option (Nat × Nat)) (x10 : Option (Nat × Nat)) (x11 : Option (Nat × Nat)) (x12 : Option (Nat × Nat)) (x13 : Option (Nat × Nat)) (x14 : Option (Nat × Nat)) (x15 : Option (Nat × Nat)) (x17 : Option (Nat × Nat)) (x18 : Option (Nat × Nat)) (x21 : Int) (h : AHeap) (nx : Nat) : Option (AV × AHeap × Nat) := F12_J3' go1 go1 call Y lf n0 x1 x9 x10 x11 x12 x13 x14 x15 x17 x18 x21 h nx

noncomputable def F12_R4' (W J : StepF (AV × AHeap × Nat) → StepF (AV × AHeap × Nat)) (call : YldF → CallF) (Y : YldF) (lf : Nat) (n0 : Nat) (n1 : Nat) (x9 : Option (Nat × Nat)) (x10 : Option (Nat × Nat)) (x11 : Option (Nat × Nat)) (x12 : Option (Nat × Nat)) (x13 : Option (Nat × Nat)) (x14 : Option (Nat × Nat)) (x15 : Option (Nat × Nat)) (x17 : Option (Nat × Nat)) (x18 : Option (Nat × Nat)) (y0a : Option (Nat × Nat)) (y0n : Nat) (y0c : Bool) (h : AHeap) (nx : Nat) : Option (AV × AHeap × Nat) :=
  goK W J drawK (machOf Try.prog) call Y (keepT 12) lf c12 [1, 1, 1, 1, 1, 1, 1, 0, 1, 0, 0, 1, 0, 0, 1, 0, 8] [n0, n1] (retK (machOf Try.prog) ⟨c12, 128, r12, keepT 12⟩) (putPs ⟨128, mkL [(9, (.ptr x9)), (10, (.ptr x10)), (11, (.ptr x11)), (12, (.ptr x12)), (13, (.ptr x13)), (14, (.ptr x14)), (15, (.ptr x15)), (17, (.ptr x17)), (18, (.ptr x18))]⟩ [(.slice y0a y0n y0c)] [92] 0) h nx

noncomputable def F12_R4 (call : YldF → CallF) (Y : YldF) (lf : Nat) (n0 : Nat) (n1 : Nat) (x9 : Option (Nat × Nat)) (x10 : Option (Nat × Nat)) (x11 : Option (Nat × Nat)) (x12 : Option (Nat × Nat)) (x13 : Option (Nat × Nat)) (x14 : Option (Nat × Nat)) (x15 : Option (Nat × Nat)) (x17 : Option (Nat × Nat)) (x18 : Option (Nat × Nat)) (y0a : Option (Nat × Nat)) (y0n : Nat) (y0c : Bool) (h : AHeap) (nx : Nat) : Option (AV × AHeap × Nat) := F12_R4' go1 go1 call Y lf n0 n1 x9 x10 x11 x12 x13 x14 x15 x17 x18 y0a y0n y0c h nx

noncomputable def F12_L5' (W J : StepF (AV × AHeap × Nat) → StepF (AV × AHeap × Nat)) (call : YldF → CallF) (Y : YldF) (lf : Nat) (n0 : Nat) (n1 : Nat) (n2 : Nat) (x9 : Option (Nat × Nat)) (x10 : Option (Nat × Nat)) (x11 : Option (Nat × Nat)) (x12 : Option (Nat × Nat)) (x13 : Option (Nat × Nat)) (x14 : Option (Nat × Nat)) (x15 : Option (Nat × Nat)) (x17 : Option (Nat × Nat)) (x18 : Option (Nat × Nat)) (x22a : Option (Nat × Nat)) (x22n : Nat) (x22c : Bool) (x93a : Option (Nat × Nat)) (x93n : Nat) (x93c : Bool) (x94 : Int) (x95 : Int) (h : AHeap) (nx : Nat) : Option (AV × AHeap × Nat) :=
  goK W J drawK (machOf Try.prog) call Y (keepT 12) lf c12 [1, 1, 1, 1, 1, 1, 1, 0, 1, 0, 0, 1, 0, 0, 1, 0, 1, 0, 0, 1, 0, 9] [n0, n1, n2] (retK (machOf Try.prog) ⟨c12, 128, r12, keepT 12⟩) ⟨128, mkL [(9, (.ptr x9)), (10, (.ptr x10)), (11, (.ptr x11)), (12, (.ptr x12)), (13, (.ptr x13)), (14, (.ptr x14)), (15, (.ptr x15)), (17, (.ptr x17)), (18, (.ptr x18)), (22, (.slice x22a x22n x22c)), (93, (.slice x93a x93n x93c)), (94, (.int .i64 x94)), (95, (.int .i64 x95))]⟩ h nx

noncomputable def F12_L5 (call : YldF → CallF) (Y : YldF) (lf : Nat) (n0 : Nat) (n1 : Nat) (n2 : Nat) (x9 : Option (Nat × Nat)) (x10 : Option (Nat × Nat)) (x11 : Option (Nat × Nat)) (x12 : Option (Nat × Nat)) (x13 : Option (Nat × Nat)) (x14 : Option (Nat × Nat)) (x15 : Option (Nat × Nat)) (x17 : Option (Nat × Nat)) (x18 : Option (Nat × Nat)) (x22a : Option (Nat × Nat)) (x22n : Nat) (x22c : Bool) (x93a : Option (Nat × Nat)) (x93n : Nat) (x93c : Bool) (x94 : Int) (x95 : Int) (h : AHeap) (nx : Nat) : Option (AV × AHeap × Nat) := F12_L5' go1 go1 call Y lf n0 n1 n2 x9 x10 x11 x12 x13 x14 x15 x17 x18 x22a x22n x22c x93a x93n x93c x94 x95 h nx

theorem F12_L1_eq' (J : StepF (AV × AHeap × Nat) → StepF (AV × AHeap × Nat)) (call : YldF → CallF) (Y : YldF) (lf : Nat) (n0 : Nat) (x1 : Int) (x9 : Option (Nat × Nat)) (x10 : Option (Nat × Nat)) (x11 : Option (Nat × Nat)) (x12 : Option (Nat × Nat)) (x13 : Option (Nat × Nat)) (x14 : Option (Nat × Nat)) (x15 : Option (Nat × Nat)) (x17 : Option (Nat × Nat)) (x18 : Option (Nat × Nat)) (x45a : Option (Nat × Nat)) (x45n : Nat) (x45c : Bool) (x46 : Int) (x47 : Int) (h : AHeap) (nx : Nat) : F12_L1' go1 J call Y lf (n0 + 1) x1 x9 x10 x11 x12 x13 x14 x15 x17 x18 x45a x45n x45c x46 x47 h nx =
    if (decide ((x47 : Int) < x46)) = true then
    ((x45a).bind fun p1 =>
    if 0 ≤ (x47 : Int) ∧ x47 < ((x45n : Nat) : Int) then
    ((ldR h p1.1 (p1.2 + Int.toNat x47 * 2) 2).bind fun l2 =>
    (asAgg 2 (AV.agg l2)).bind fun d3 =>
    (asB (d3.getD 0 .bad)).bind fun t4 =>
    (asSl (d3.getD 1 .bad)).bind fun s5 =>
    let h6 := AHeap.put h (nx + 4) (some ⟨[(.bool false), (.slice none 0 false)], 2, true⟩)
    (stA h6 (nx + 4) 0 (.agg [(.bool t4), (.slice s5.1 s5.2.1 s5.2.2)]) 2).bind fun b7 =>
    let h8 := AHeap.put h6 (nx + 4) (some b7)
    (ldA h8 (nx + 4) 0).bind fun v9 =>
    (asB v9).bind fun t10 =>
    if t10 = true then
    ((x17).bind fun p11 =>
    (ldA h8 p11.1 p11.2).bind fun v12 =>
    (asSl v12).bind fun s13 =>
    let h14 := AHeap.put h8 (nx + 11) (some ⟨[(.int .i64 x47)], 1, true⟩)
    (srcS h14 (some ((nx + 11), 0)) 1 1).bind fun q15 =>
    (appD h14 s13.1 s13.2.1 s13.2.2 1 8 (nx + 12) q15).bind fun e16 =>
    let h17 := AHeap.puts h14 e16.sets
    (x17).bind fun p18 =>
    (stA h17 p18.1 p18.2 (.slice e16.a e16.n e16.c) 1).bind fun b19 =>
    let h20 := AHeap.put h17 p18.1 (some b19)
    F12_L1' J J call Y lf n0 x1 x9 x10 x11 x12 x13 x14 x15 x17 x18 x45a x45n x45c x46 (wrapA .i64 (x47 + 1)) h20 (nx + 16))
    else
    ((ldA h8 (nx + 4) 1).bind fun v21 =>
    (asSl v21).bind fun s22 =>
    (x15).bind fun p23 =>
    (ldR h8 p23.1 p23.2 3).bind fun l24 =>
    (asAgg 3 (AV.agg l24)).bind fun d25 =>
    (asSl (d25.getD 0 .bad)).bind fun s26 =>
    (asI .i64 (d25.getD 1 .bad)).bind fun n27 =>
    (asI .i64 (d25.getD 2 .bad)).bind fun n28 =>
    (call Y 18 [(.agg [(.slice s26.1 s26.2.1 s26.2.2), (.int .i64 n27), (.int .i64 n28)]), (.int .i64 x47)] h8 (nx + 16)).bind fun r29 =>
    (asI .i64 r29.1).bind fun n30 =>
    ifKept [(h8, r29.2.1, [(nx + 4)])]
    (if ((((s22.2.1 : Nat) : Int) : Int) != n30) = true then
    ((x12).bind fun p31 =>
    (stA r29.2.1 p31.1 p31.2 (.slice none 0 false) 1).bind fun b32 =>
    let h33 := AHeap.put r29.2.1 p31.1 (some b32)
    (x13).bind fun p34 =>
    (stA h33 p34.1 p34.2 (.slice none 0 false) 1).bind fun b35 =>
    let h36 := AHeap.put h33 p34.1 (some b35)
    (x14).bind fun p37 =>
    (stA h36 p37.1 p37.2 (.int .i64 4) 1).bind fun b38 =>
    let h39 := AHeap.put h36 p37.1 (some b38)
    (x12).bind fun p40 =>
    (ldA h39 p40.1 p40.2).bind fun v41 =>
    (asSl v41).bind fun s42 =>
    (x13).bind fun p43 =>
    (ldA h39 p43.1 p43.2).bind fun v44 =>
    (asSl v44).bind fun s45 =>
    (x14).bind fun p46 =>
    (ldA h39 p46.1 p46.2).bind fun v47 =>
    (asI .i64 v47).bind fun n48 =>
    some ((.tuple [(.slice s42.1 s42.2.1 s42.2.2), (.slice s45.1 s45.2.1 s45.2.2), (.int .i64 n48)]), h39, (r29.2.2 + 3)))
    else
    ((x18).bind fun p49 =>
    (ldA r29.2.1 p49.1 p49.2).bind fun v50 =>
    (asSl v50).bind fun s51 =>
    let h52 := AHeap.put r29.2.1 (r29.2.2 + 2) (some ⟨[(.int .i64 x47)], 1, true⟩)
    (srcS h52 (some ((r29.2.2 + 2), 0)) 1 1).bind fun q53 =>
    (appD h52 s51.1 s51.2.1 s51.2.2 1 8 (r29.2.2 + 3) q53).bind fun e54 =>
    let h55 := AHeap.puts h52 e54.sets
    (x18).bind fun p56 =>
    (stA h55 p56.1 p56.2 (.slice e54.a e54.n e54.c) 1).bind fun b57 =>
    let h58 := AHeap.put h55 p56.1 (some b57)
    F12_L1' J J call Y lf n0 x1 x9 x10 x11 x12 x13 x14 x15 x17 x18 x45a x45n x45c x46 (wrapA .i64 (x47 + 1)) h58 (r29.2.2 + 7)))))
    else none)
    else
    ((x17).bind fun p59 =>
    (ldA h p59.1 p59.2).bind fun v60 =>
    (asSl v60).bind fun s61 =>
    if (decide ((((s61.2.1 : Nat) : Int) : Int) > x1)) = true then
    ((x12).bind fun p62 =>
    (stA h p62.1 p62.2 (.slice none 0 false) 1).bind fun b63 =>
    let h64 := AHeap.put h p62.1 (some b63)
    (x13).bind fun p65 =>
    (stA h64 p65.1 p65.2 (.slice none 0 false) 1).bind fun b66 =>
    let h67 := AHeap.put h64 p65.1 (some b66)
    (x14).bind fun p68 =>
    (stA h67 p68.1 p68.2 (.int .i64 12) 1).bind fun b69 =>
    let h70 := AHeap.put h67 p68.1 (some b69)
    (x12).bind fun p71 =>
    (ldA h70 p71.1 p71.2).bind fun v72 =>
    (asSl v72).bind fun s73 =>
    (x13).bind fun p74 =>
    (ldA h70 p74.1 p74.2).bind fun v75 =>
    (asSl v75).bind fun s76 =>
    (x14).bind fun p77 =>
    (ldA h70 p77.1 p77.2).bind fun v78 =>
    (asI .i64 v78).bind fun n79 =>
    some ((.tuple [(.slice s73.1 s73.2.1 s73.2.2), (.slice s76.1 s76.2.1 s76.2.2), (.int .i64 n79)]), h70, (nx + 8)))
    else
    (F12_L2' J J call Y lf lf x1 x9 x10 x11 x12 x13 x14 x15 x17 x18 0 h (nx + 6))) := by kernel_rfl

theorem F12_L1_eq (call : YldF → CallF) (Y : YldF) (lf : Nat) (n0 : Nat) (x1 : Int) (x9 : Option (Nat × Nat)) (x10 : Option (Nat × Nat)) (x11 : Option (Nat × Nat)) (x12 : Option (Nat × Nat)) (x13 : Option (Nat × Nat)) (x14 : Option (Nat × Nat)) (x15 : Option (Nat × Nat)) (x17 : Option (Nat × Nat)) (x18 : Option (Nat × Nat)) (x45a : Option (Nat × Nat)) (x45n : Nat) (x45c : Bool) (x46 : Int) (x47 : Int) (h : AHeap) (nx : Nat) : F12_L1 call Y lf (n0 + 1) x1 x9 x10 x11 x12 x13 x14 x15 x17 x18 x45a x45n x45c x46 x47 h nx =
    if (decide ((x47 : Int) < x46)) = true then
    ((x45a).bind fun p1 =>
    if 0 ≤ (x47 : Int) ∧ x47 < ((x45n : Nat) : Int) then
    ((ldR h p1.1 (p1.2 + Int.toNat x47 * 2) 2).bind fun l2 =>
    (asAgg 2 (AV.agg l2)).bind fun d3 =>
    (asB (d3.getD 0 .bad)).bind fun t4 =>
    (asSl (d3.getD 1 .bad)).bind fun s5 =>
    let h6 := AHeap.put h (nx + 4) (some ⟨[(.bool false), (.slice none 0 false)], 2, true⟩)
    (stA h6 (nx + 4) 0 (.agg [(.bool t4), (.slice s5.1 s5.2.1 s5.2.2)]) 2).bind fun b7 =>
    let h8 := AHeap.put h6 (nx + 4) (some b7)
    (ldA h8 (nx + 4) 0).bind fun v9 =>
    (asB v9).bind fun t10 =>
    if t10 = true then
    ((x17).bind fun p11 =>
    (ldA h8 p11.1 p11.2).bind fun v12 =>
    (asSl v12).bind fun s13 =>
    let h14 := AHeap.put h8 (nx + 11) (some ⟨[(.int .i64 x47)], 1, true⟩)
    (srcS h14 (some ((nx + 11), 0)) 1 1).bind fun q15 =>
    (appD h14 s13.1 s13.2.1 s13.2.2 1 8 (nx + 12) q15).bind fun e16 =>
    let h17 := AHeap.puts h14 e16.sets
    (x17).bind fun p18 =>
    (stA h17 p18.1 p18.2 (.slice e16.a e16.n e16.c) 1).bind fun b19 =>
    let h20 := AHeap.put h17 p18.1 (some b19)
    F12_L1 call Y lf n0 x1 x9 x10 x11 x12 x13 x14 x15 x17 x18 x45a x45n x45c x46 (wrapA .i64 (x47 + 1)) h20 (nx + 16))
    else
    ((ldA h8 (nx + 4) 1).bind fun v21 =>
    (asSl v21).bind fun s22 =>
    (x15).bind fun p23 =>
    (ldR h8 p23.1 p23.2 3).bind fun l24 =>
    (asAgg 3 (AV.agg l24)).bind fun d25 =>
    (asSl (d25.getD 0 .bad)).bind fun s26 =>
    (asI .i64 (d25.getD 1 .bad)).bind fun n27 =>
    (asI .i64 (d25.getD 2 .bad)).bind fun n28 =>
    (call Y 18 [(.agg [(.slice s26.1 s26.2.1 s26.2.2), (.int .i64 n27), (.int .i64 n28)]), (.int .i64 x47)] h8 (nx + 16)).bind fun r29 =>
    (asI .i64 r29.1).bind fun n30 =>
    ifKept [(h8, r29.2.1, [(nx + 4)])]
    (if ((((s22.2.1 : Nat) : Int) : Int) != n30) = true then
    ((x12).bind fun p31 =>
    (stA r29.2.1 p31.1 p31.2 (.slice none 0 false) 1).bind fun b32 =>
    let h33 := AHeap.put r29.2.1 p31.1 (some b32)
    (x13).bind fun p34 =>
    (stA h33 p34.1 p34.2 (.slice none 0 false) 1).bind fun b35 =>
    let h36 := AHeap.put h33 p34.1 (some b35)
    (x14).bind fun p37 =>
    (stA h36 p37.1 p37.2 (.int .i64 4) 1).bind fun b38 =>
    let h39 := AHeap.put h36 p37.1 (some b38)
    (x12).bind fun p40 =>
    (ldA h39 p40.1 p40.2).bind fun v41 =>
    (asSl v41).bind fun s42 =>
    (x13).bind fun p43 =>
    (ldA h39 p43.1 p43.2).bind fun v44 =>
    (asSl v44).bind fun s45 =>
    (x14).bind fun p46 =>
    (ldA h39 p46.1 p46.2).bind fun v47 =>
    (asI .i64 v47).bind fun n48 =>
    some ((.tuple [(.slice s42.1 s42.2.1 s42.2.2), (.slice s45.1 s45.2.1 s45.2.2), (.int .i64 n48)]), h39, (r29.2.2 + 3)))
    else
    ((x18).bind fun p49 =>
    (ldA r29.2.1 p49.1 p49.2).bind fun v50 =>
    (asSl v50).bind fun s51 =>
    let h52 := AHeap.put r29.2.1 (r29.2.2 + 2) (some ⟨[(.int .i64 x47)], 1, true⟩)
    (srcS h52 (some ((r29.2.2 + 2), 0)) 1 1).bind fun q53 =>
    (appD h52 s51.1 s51.2.1 s51.2.2 1 8 (r29.2.2 + 3) q53).bind fun e54 =>
    let h55 := AHeap.puts h52 e54.sets
    (x18).bind fun p56 =>
    (stA h55 p56.1 p56.2 (.slice e54.a e54.n e54.c) 1).bind fun b57 =>
    let h58 := AHeap.put h55 p56.1 (some b57)
    F12_L1 call Y lf n0 x1 x9 x10 x11 x12 x13 x14 x15 x17 x18 x45a x45n x45c x46 (wrapA .i64 (x47 + 1)) h58 (r29.2.2 + 7)))))
    else none)
    else
    ((x17).bind fun p59 =>
    (ldA h p59.1 p59.2).bind fun v60 =>
    (asSl v60).bind fun s61 =>
    if (decide ((((s61.2.1 : Nat) : Int) : Int) > x1)) = true then
    ((x12).bind fun p62 =>
    (stA h p62.1 p62.2 (.slice none 0 false) 1).bind fun b63 =>
    let h64 := AHeap.put h p62.1 (some b63)
    (x13).bind fun p65 =>
    (stA h64 p65.1 p65.2 (.slice none 0 false) 1).bind fun b66 =>
    let h67 := AHeap.put h64 p65.1 (some b66)
    (x14).bind fun p68 =>
    (stA h67 p68.1 p68.2 (.int .i64 12) 1).bind fun b69 =>
    let h70 := AHeap.put h67 p68.1 (some b69)
    (x12).bind fun p71 =>
    (ldA h70 p71.1 p71.2).bind fun v72 =>
    (asSl v72).bind fun s73 =>
    (x13).bind fun p74 =>
    (ldA h70 p74.1 p74.2).bind fun v75 =>
    (asSl v75).bind fun s76 =>
    (x14).bind fun p77 =>
    (ldA h70 p77.1 p77.2).bind fun v78 =>
    (asI .i64 v78).bind fun n79 =>
    some ((.tuple [(.slice s73.1 s73.2.1 s73.2.2), (.slice s76.1 s76.2.1 s76.2.2), (.int .i64 n79)]), h70, (nx + 8)))
    else
    (F12_L2 call Y lf lf x1 x9 x10 x11 x12 x13 x14 x15 x17 x18 0 h (nx + 6))) := F12_L1_eq' go1 call Y lf n0 x1 x9 x10 x11 x12 x13 x14 x15 x17 x18 x45a x45n x45c x46 x47 h nx

theorem F12_L1_zero (call : YldF → CallF) (Y : YldF) (lf : Nat) (x1 : Int) (x9 : Option (Nat × Nat)) (x10 : Option (Nat × Nat)) (x11 : Option (Nat × Nat)) (x12 : Option (Nat × Nat)) (x13 : Option (Nat × Nat)) (x14 : Option (Nat × Nat)) (x15 : Option (Nat × Nat)) (x17 : Option (Nat × Nat)) (x18 : Option (Nat × Nat)) (x45a : Option (Nat × Nat)) (x45n : Nat) (x45c : Bool) (x46 : Int) (x47 : Int) (h : AHeap) (nx : Nat) : F12_L1 call Y lf 0 x1 x9 x10 x11 x12 x13 x14 x15 x17 x18 x45a x45n x45c x46 x47 h nx = none := by kernel_rfl

theorem F12_L2_eq' (J : StepF (AV × AHeap × Nat) → StepF (AV × AHeap × Nat)) (call : YldF → CallF) (Y : YldF) (lf : Nat) (n0 : Nat) (x1 : Int) (x9 : Option (Nat × Nat)) (x10 : Option (Nat × Nat)) (x11 : Option (Nat × Nat)) (x12 : Option (Nat × Nat)) (x13 : Option (Nat × Nat)) (x14 : Option (Nat × Nat)) (x15 : Option (Nat × Nat)) (x17 : Option (Nat × Nat)) (x18 : Option (Nat × Nat)) (x21 : Int) (h : AHeap) (nx : Nat) : F12_L2' go1 J call Y lf (n0 + 1) x1 x9 x10 x11 x12 x13 x14 x15 x17 x18 x21 h nx =
    (x17).bind fun p1 =>
    (ldA h p1.1 p1.2).bind fun v2 =>
    (asSl v2).bind fun s3 =>
    if (decide ((x21 : Int) ≤ (wrapA .i64 (x1 - ((s3.2.1 : Nat) : Int))))) = true then
    ((x18).bind fun p4 =>
    (ldA h p4.1 p4.2).bind fun v5 =>
    (asSl v5).bind fun s6 =>
    if (decide ((x21 : Int) ≤ ((s6.2.1 : Nat) : Int))) = true then
    (F12_J3' J J call Y lf n0 x1 x9 x10 x11 x12 x13 x14 x15 x17 x18 x21 h (nx + 12))
    else
    ((x12).bind fun p7 =>
    (stA h p7.1 p7.2 (.slice none 0 false) 1).bind fun b8 =>
    let h9 := AHeap.put h p7.1 (some b8)
    (x13).bind fun p10 =>
    (stA h9 p10.1 p10.2 (.slice none 0 false) 1).bind fun b11 =>
    let h12 := AHeap.put h9 p10.1 (some b11)
    (x14).bind fun p13 =>
    (stA h12 p13.1 p13.2 (.int .i64 11) 1).bind fun b14 =>
    let h15 := AHeap.put h12 p13.1 (some b14)
    (x12).bind fun p16 =>
    (ldA h15 p16.1 p16.2).bind fun v17 =>
    (asSl v17).bind fun s18 =>
    (x13).bind fun p19 =>
    (ldA h15 p19.1 p19.2).bind fun v20 =>
    (asSl v20).bind fun s21 =>
    (x14).bind fun p22 =>
    (ldA h15 p22.1 p22.2).bind fun v23 =>
    (asI .i64 v23).bind fun n24 =>
    some ((.tuple [(.slice s18.1 s18.2.1 s18.2.2), (.slice s21.1 s21.2.1 s21.2.2), (.int .i64 n24)]), h15, (nx + 15))))
    else
    ((x12).bind fun p25 =>
    (stA h p25.1 p25.2 (.slice none 0 false) 1).bind fun b26 =>
    let h27 := AHeap.put h p25.1 (some b26)
    (x13).bind fun p28 =>
    (stA h27 p28.1 p28.2 (.slice none 0 false) 1).bind fun b29 =>
    let h30 := AHeap.put h27 p28.1 (some b29)
    (x14).bind fun p31 =>
    (stA h30 p31.1 p31.2 (.int .i64 11) 1).bind fun b32 =>
    let h33 := AHeap.put h30 p31.1 (some b32)
    (x12).bind fun p34 =>
    (ldA h33 p34.1 p34.2).bind fun v35 =>
    (asSl v35).bind fun s36 =>
    (x13).bind fun p37 =>
    (ldA h33 p37.1 p37.2).bind fun v38 =>
    (asSl v38).bind fun s39 =>
    (x14).bind fun p40 =>
    (ldA h33 p40.1 p40.2).bind fun v41 =>
    (asI .i64 v41).bind fun n42 =>
    some ((.tuple [(.slice s36.1 s36.2.1 s36.2.2), (.slice s39.1 s39.2.1 s39.2.2), (.int .i64 n42)]), h33, (nx + 15))) := by kernel_rfl

theorem F12_L2_eq (call : YldF → CallF) (Y : YldF) (lf : Nat) (n0 : Nat) (x1 : Int) (x9 : Option (Nat × Nat)) (x10 : Option (Nat × Nat)) (x11 : Option (Nat × Nat)) (x12 : Option (Nat × Nat)) (x13 : Option (Nat × Nat)) (x14 : Option (Nat × Nat)) (x15 : Option (Nat × Nat)) (x17 : Option (Nat × Nat)) (x18 : Option (Nat × Nat)) (x21 : Int) (h : AHeap) (nx : Nat) : F12_L2 call Y lf (n0 + 1) x1 x9 x10 x11 x12 x13 x14 x15 x17 x18 x21 h nx =
    (x17).bind fun p1 =>
    (ldA h p1.1 p1.2).bind fun v2 =>
    (asSl v2).bind fun s3 =>
    if (decide ((x21 : Int) ≤ (wrapA .i64 (x1 - ((s3.2.1 : Nat) : Int))))) = true then
    ((x18).bind fun p4 =>
    (ldA h p4.1 p4.2).bind fun v5 =>
    (asSl v5).bind fun s6 =>
    if (decide ((x21 : Int) ≤ ((s6.2.1 : Nat) : Int))) = true then
    (F12_J3 call Y lf n0 x1 x9 x10 x11 x12 x13 x14 x15 x17 x18 x21 h (nx + 12))
    else
    ((x12).bind fun p7 =>
    (stA h p7.1 p7.2 (.slice none 0 false) 1).bind fun b8 =>
    let h9 := AHeap.put h p7.1 (some b8)
    (x13).bind fun p10 =>
    (stA h9 p10.1 p10.2 (.slice none 0 false) 1).bind fun b11 =>
    let h12 := AHeap.put h9 p10.1 (some b11)
    (x14).bind fun p13 =>
    (stA h12 p13.1 p13.2 (.int .i64 11) 1).bind fun b14 =>
    let h15 := AHeap.put h12 p13.1 (some b14)
    (x12).bind fun p16 =>
    (ldA h15 p16.1 p16.2).bind fun v17 =>
    (asSl v17).bind fun s18 =>
    (x13).bind fun p19 =>
    (ldA h15 p19.1 p19.2).bind fun v20 =>
    (asSl v20).bind fun s21 =>
    (x14).bind fun p22 =>
    (ldA h15 p22.1 p22.2).bind fun v23 =>
    (asI .i64 v23).bind fun n24 =>
    some ((.tuple [(.slice s18.1 s18.2.1 s18.2.2), (.slice s21.1 s21.2.1 s21.2.2), (.int .i64 n24)]), h15, (nx + 15))))
    else
    ((x12).bind fun p25 =>
    (stA h p25.1 p25.2 (.slice none 0 false) 1).bind fun b26 =>
    let h27 := AHeap.put h p25.1 (some b26)
    (x13).bind fun p28 =>
    (stA h27 p28.1 p28.2 (.slice none 0 false) 1).bind fun b29 =>
    let h30 := AHeap.put h27 p28.1 (some b29)
    (x14).bind fun p31 =>
    (stA h30 p31.1 p31.2 (.int .i64 11) 1).bind fun b32 =>
    let h33 := AHeap.put h30 p31.1 (some b32)
    (x12).bind fun p34 =>
    (ldA h33 p34.1 p34.2).bind fun v35 =>
    (asSl v35).bind fun s36 =>
    (x13).bind fun p37 =>
    (ldA h33 p37.1 p37.2).bind fun v38 =>
    (asSl v38).bind fun s39 =>
    (x14).bind fun p40 =>
    (ldA h33 p40.1 p40.2).bind fun v41 =>
    (asI .i64 v41).bind fun n42 =>
    some ((.tuple [(.slice s36.1 s36.2.1 s36.2.2), (.slice s39.1 s39.2.1 s39.2.2), (.int .i64 n42)]), h33, (nx + 15))) := F12_L2_eq' go1 call Y lf n0 x1 x9 x10 x11 x12 x13 x14 x15 x17 x18 x21 h nx

theorem F12_L2_zero (call : YldF → CallF) (Y : YldF) (lf : Nat) (x1 : Int) (x9 : Option (Nat × Nat)) (x10 : Option (Nat × Nat)) (x11 : Option (Nat × Nat)) (x12 : Option (Nat × Nat)) (x13 : Option (Nat × Nat)) (x14 : Option (Nat × Nat)) (x15 : Option (Nat × Nat)) (x17 : Option (Nat × Nat)) (x18 : Option (Nat × Nat)) (x21 : Int) (h : AHeap) (nx : Nat) : F12_L2 call Y lf 0 x1 x9 x10 x11 x12 x13 x14 x15 x17 x18 x21 h nx = none := by kernel_rfl

theorem F12_J3_eq' (J : StepF (AV × AHeap × Nat) → StepF (AV × AHeap × Nat)) (call : YldF → CallF) (Y : YldF) (lf : Nat) (n0 : Nat) (x1 : Int) (x9 : Option (Nat × Nat)) (x10 : Option (Nat × Nat)) (x11 : Option (Nat × Nat)) (x12 : Option (Nat × Nat)) (x13 : Option (Nat × Nat)) (x14 : Option (Nat × Nat)) (x15 : Option (Nat × Nat)) (x17 : Option (Nat × Nat)) (x18 : Option (Nat × Nat)) (x21 : Int) (h : AHeap) (nx : Nat) : F12_J3' go1 J call Y lf n0 x1 x9 x10 x11 x12 x13 x14 x15 x17 x18 x21 h nx =
    (x18).bind fun p1 =>
    (ldA h p1.1 p1.2).bind fun v2 =>
    (asSl v2).bind fun s3 =>
    (call Y 19 [(.int .i64 ((s3.2.1 : Nat) : Int)), (.int .i64 x21)] h (nx + 4)).bind fun r4 =>
    (asFn r4.1).bind fun q5 =>
    (call (YX r4.2.2 (fun a6 h7 c8 => if Nat.beq a6.length 1 = true then
    ((asSl (a6.getD 0 .bad)).bind fun s9 =>
    F12_R4' J J call Y lf n0 r4.2.2 x9 x10 x11 x12 x13 x14 x15 x17 x18 s9.1 s9.2.1 s9.2.2 h7 c8)
    else none) Y) q5.1 (q5.2.1 ++ [.yld r4.2.2] ++ q5.2.2) (AHeap.put r4.2.1 r4.2.2 (some ⟨[], LB, true⟩)) (r4.2.2 + 1)).bind fun r10 =>
    (r10.2.1 r4.2.2).bind fun b11 =>
    if Nat.beq b11.es LB = true then
    (let h12 := AHeap.put r10.2.1 r4.2.2 none
    F12_L2' J J call Y lf n0 x1 x9 x10 x11 x12 x13 x14 x15 x17 x18 (wrapA .i64 (x21 + 1)) h12 (r10.2.2 + 3))
    else
    (if Nat.beq b11.es (LB + 2) = true then
    (let h12 := AHeap.put r10.2.1 r4.2.2 none
    (x12).bind fun p13 =>
    (ldA h12 p13.1 p13.2).bind fun v14 =>
    (asSl v14).bind fun s15 =>
    (x13).bind fun p16 =>
    (ldA h12 p16.1 p16.2).bind fun v17 =>
    (asSl v17).bind fun s18 =>
    (x14).bind fun p19 =>
    (ldA h12 p19.1 p19.2).bind fun v20 =>
    (asI .i64 v20).bind fun n21 =>
    some ((.tuple [(.slice s15.1 s15.2.1 s15.2.2), (.slice s18.1 s18.2.1 s18.2.2), (.int .i64 n21)]), h12, r10.2.2))
    else
    (if Nat.beq b11.es (LB + 3 + 6) = true then
    (let h12 := AHeap.put r10.2.1 r4.2.2 none
    none)
    else
    (none))) := by kernel_rfl

theorem F12_J3_eq (call : YldF → CallF) (Y : YldF) (lf : Nat) (n0 : Nat) (x1 : Int) (x9 : Option (Nat × Nat)) (x10 : Option (Nat × Nat)) (x11 : Option (Nat × Nat)) (x12 : Option (Nat × Nat)) (x13 : Option (Nat × Nat)) (x14 : Option (Nat × Nat)) (x15 : Option (Nat × Nat)) (x17 : Option (Nat × Nat)) (x18 : Option (Nat × Nat)) (x21 : Int) (h : AHeap) (nx : Nat) : F12_J3 call Y lf n0 x1 x9 x10 x11 x12 x13 x14 x15 x17 x18 x21 h nx =
    (x18).bind fun p1 =>
    (ldA h p1.1 p1.2).bind fun v2 =>
    (asSl v2).bind fun s3 =>
    (call Y 19 [(.int .i64 ((s3.2.1 : Nat) : Int)), (.int .i64 x21)] h (nx + 4)).bind fun r4 =>
    (asFn r4.1).bind fun q5 =>
    (call (YX r4.2.2 (fun a6 h7 c8 => if Nat.beq a6.length 1 = true then
    ((asSl (a6.getD 0 .bad)).bind fun s9 =>
    F12_R4 call Y lf n0 r4.2.2 x9 x10 x11 x12 x13 x14 x15 x17 x18 s9.1 s9.2.1 s9.2.2 h7 c8)
    else none) Y) q5.1 (q5.2.1 ++ [.yld r4.2.2] ++ q5.2.2) (AHeap.put r4.2.1 r4.2.2 (some ⟨[], LB, true⟩)) (r4.2.2 + 1)).bind fun r10 =>
    (r10.2.1 r4.2.2).bind fun b11 =>
    if Nat.beq b11.es LB = true then
    (let h12 := AHeap.put r10.2.1 r4.2.2 none
    F12_L2 call Y lf n0 x1 x9 x10 x11 x12 x13 x14 x15 x17 x18 (wrapA .i64 (x21 + 1)) h12 (r10.2.2 + 3))
    else
    (if Nat.beq b11.es (LB + 2) = true then
    (let h12 := AHeap.put r10.2.1 r4.2.2 none
    (x12).bind fun p13 =>
    (ldA h12 p13.1 p13.2).bind fun v14 =>
    (asSl v14).bind fun s15 =>
    (x13).bind fun p16 =>
    (ldA h12 p16.1 p16.2).bind fun v17 =>
    (asSl v17).bind fun s18 =>
    (x14).bind fun p19 =>
    (ldA h12 p19.1 p19.2).bind fun v20 =>
    (asI .i64 v20).bind fun n21 =>
    some ((.tuple [(.slice s15.1 s15.2.1 s15.2.2), (.slice s18.1 s18.2.1 s18.2.2), (.int .i64 n21)]), h12, r10.2.2))
    else
    (if Nat.beq b11.es (LB + 3 + 6) = true then
    (let h12 := AHeap.put r10.2.1 r4.2.2 none
    none)
    else
    (none))) := F12_J3_eq' go1 call Y lf n0 x1 x9 x10 x11 x12 x13 x14 x15 x17 x18 x21 h nx

theorem F12_R4_eq' (J : StepF (AV × AHeap × Nat) → StepF (AV × AHeap × Nat)) (call : YldF → CallF) (Y : YldF) (lf : Nat) (n0 : Nat) (n1 : Nat) (x9 : Option (Nat × Nat)) (x10 : Option (Nat × Nat)) (x11 : Option (Nat × Nat)) (x12 : Option (Nat × Nat)) (x13 : Option (Nat × Nat)) (x14 : Option (Nat × Nat)) (x15 : Option (Nat × Nat)) (x17 : Option (Nat × Nat)) (x18 : Option (Nat × Nat)) (y0a : Option (Nat × Nat)) (y0n : Nat) (y0c : Bool) (h : AHeap) (nx : Nat) : F12_R4' go1 J call Y lf n0 n1 x9 x10 x11 x12 x13 x14 x15 x17 x18 y0a y0n y0c h nx =
    if isReady h n1 LB = true then
    (let h1 := AHeap.put h n1 (some ⟨[], LB + 1, true⟩)
    F12_L5' J J call Y lf n0 n1 lf x9 x10 x11 x12 x13 x14 x15 x17 x18 y0a y0n y0c y0a y0n y0c ((y0n : Nat) : Int) 0 h1 (nx + 4))
    else none := by kernel_rfl

theorem F12_R4_eq (call : YldF → CallF) (Y : YldF) (lf : Nat) (n0 : Nat) (n1 : Nat) (x9 : Option (Nat × Nat)) (x10 : Option (Nat × Nat)) (x11 : Option (Nat × Nat)) (x12 : Option (Nat × Nat)) (x13 : Option (Nat × Nat)) (x14 : Option (Nat × Nat)) (x15 : Option (Nat × Nat)) (x17 : Option (Nat × Nat)) (x18 : Option (Nat × Nat)) (y0a : Option (Nat × Nat)) (y0n : Nat) (y0c : Bool) (h : AHeap) (nx : Nat) : F12_R4 call Y lf n0 n1 x9 x10 x11 x12 x13 x14 x15 x17 x18 y0a y0n y0c h nx =
    if isReady h n1 LB = true then
    (let h1 := AHeap.put h n1 (some ⟨[], LB + 1, true⟩)
    F12_L5 call Y lf n0 n1 lf x9 x10 x11 x12 x13 x14 x15 x17 x18 y0a y0n y0c y0a y0n y0c ((y0n : Nat) : Int) 0 h1 (nx + 4))
    else none := F12_R4_eq' go1 call Y lf n0 n1 x9 x10 x11 x12 x13 x14 x15 x17 x18 y0a y0n y0c h nx

theorem F12_L5_eq' (J : StepF (AV × AHeap × Nat) → StepF (AV × AHeap × Nat)) (call : YldF → CallF) (Y : YldF) (lf : Nat) (n0 : Nat) (n1 : Nat) (n2 : Nat) (x9 : Option (Nat × Nat)) (x10 : Option (Nat × Nat)) (x11 : Option (Nat × Nat)) (x12 : Option (Nat × Nat)) (x13 : Option (Nat × Nat)) (x14 : Option (Nat × Nat)) (x15 : Option (Nat × Nat)) (x17 : Option (Nat × Nat)) (x18 : Option (Nat × Nat)) (x22a : Option (Nat × Nat)) (x22n : Nat) (x22c : Bool) (x93a : Option (Nat × Nat)) (x93n : Nat) (x93c : Bool) (x94 : Int) (x95 : Int) (h : AHeap) (nx : Nat) : F12_L5' go1 J call Y lf n0 n1 (n2 + 1) x9 x10 x11 x12 x13 x14 x15 x17 x18 x22a x22n x22c x93a x93n x93c x94 x95 h nx =
    if (decide ((x95 : Int) < x94)) = true then
    ((x93a).bind fun p1 =>
    if 0 ≤ (x95 : Int) ∧ x95 < ((x93n : Nat) : Int) then
    ((ldA h p1.1 (p1.2 + Int.toNat x95 * 1)).bind fun v2 =>
    (asI .i64 v2).bind fun n3 =>
    (x18).bind fun p4 =>
    (ldA h p4.1 p4.2).bind fun v5 =>
    (asSl v5).bind fun s6 =>
    (s6.1).bind fun p7 =>
    if 0 ≤ (n3 : Int) ∧ n3 < ((s6.2.1 : Nat) : Int) then
    ((ldA h p7.1 (p7.2 + Int.toNat n3 * 1)).bind fun v8 =>
    (asI .i64 v8).bind fun n9 =>
    (x22a).bind fun p10 =>
    if 0 ≤ (x95 : Int) ∧ x95 < ((x22n : Nat) : Int) then
    ((stA h p10.1 (p10.2 + Int.toNat x95 * 1) (.int .i64 n9) 1).bind fun b11 =>
    let h12 := AHeap.put h p10.1 (some b11)
    F12_L5' J J call Y lf n0 n1 n2 x9 x10 x11 x12 x13 x14 x15 x17 x18 x22a x22n x22c x93a x93n x93c x94 (wrapA .i64 (x95 + 1)) h12 (nx + 16))
    else none)
    else none)
    else none)
    else
    ((x15).bind fun p13 =>
    (ldR h p13.1 p13.2 3).bind fun l14 =>
    (asAgg 3 (AV.agg l14)).bind fun d15 =>
    (asSl (d15.getD 0 .bad)).bind fun s16 =>
    (asI .i64 (d15.getD 1 .bad)).bind fun n17 =>
    (asI .i64 (d15.getD 2 .bad)).bind fun n18 =>
    (x10).bind fun p19 =>
    (ldA h p19.1 p19.2).bind fun v20 =>
    (asSl v20).bind fun s21 =>
    (x17).bind fun p22 =>
    (ldA h p22.1 p22.2).bind fun v23 =>
    (asSl v23).bind fun s24 =>
    (call Y 21 [(.slice s24.1 s24.2.1 s24.2.2)] h (nx + 9)).bind fun r25 =>
    (asSl r25.1).bind fun s26 =>
    (srcS r25.2.1 x22a x22n 1).bind fun q27 =>
    (appD r25.2.1 s26.1 s26.2.1 s26.2.2 1 8 (nx + 6) q27).bind fun e28 =>
    let h29 := AHeap.puts r25.2.1 e28.sets
    (call Y 20 [(.agg [(.slice s16.1 s16.2.1 s16.2.2), (.int .i64 n17), (.int .i64 n18)]), (.slice s21.1 s21.2.1 s21.2.2), (.slice e28.a e28.n e28.c)] h29 r25.2.2).bind fun r30 =>
    (asSl r30.1).bind fun s31 =>
    ifApart [((idsOf e28.sets), [p13.1]), ((idsOf e28.sets), [p19.1])]
    (ifKept [(h, r25.2.1, [p13.1]), (h, r25.2.1, [p19.1])]
    ((call Y 14 [(.slice s31.1 s31.2.1 s31.2.2)] r30.2.1 (r30.2.2 + 8)).bind fun r32 =>
    (asTup 2 r32.1).bind fun d33 =>
    (asAgg 4 (d33.getD 0 .bad)).bind fun d34 =>
    (asI .i64 (d34.getD 0 .bad)).bind fun n35 =>
    (asI .i64 (d34.getD 1 .bad)).bind fun n36 =>
    (asI .i64 (d34.getD 2 .bad)).bind fun n37 =>
    (asI .i64 (d34.getD 3 .bad)).bind fun n38 =>
    (asI .i64 (d33.getD 1 .bad)).bind fun n39 =>
    let h40 := AHeap.put r32.2.1 (r30.2.2 + 5) (some ⟨[(.int .i64 0), (.int .i64 0), (.int .i64 0), (.int .i64 0)], 4, true⟩)
    (stA h40 (r30.2.2 + 5) 0 (.agg [(.int .i64 n35), (.int .i64 n36), (.int .i64 n37), (.int .i64 n38)]) 4).bind fun b41 =>
    let h42 := AHeap.put h40 (r30.2.2 + 5) (some b41)
    (ldR h42 (r30.2.2 + 5) 0 4).bind fun l43 =>
    (asAgg 4 (AV.agg l43)).bind fun d44 =>
    (asI .i64 (d44.getD 0 .bad)).bind fun n45 =>
    (asI .i64 (d44.getD 1 .bad)).bind fun n46 =>
    (asI .i64 (d44.getD 2 .bad)).bind fun n47 =>
    (asI .i64 (d44.getD 3 .bad)).bind fun n48 =>
    (x11).bind fun p49 =>
    (ldR h42 p49.1 p49.2 4).bind fun l50 =>
    (asAgg 4 (AV.agg l50)).bind fun d51 =>
    (asI .i64 (d51.getD 0 .bad)).bind fun n52 =>
    (asI .i64 (d51.getD 1 .bad)).bind fun n53 =>
    (asI .i64 (d51.getD 2 .bad)).bind fun n54 =>
    (asI .i64 (d51.getD 3 .bad)).bind fun n55 =>
    if (eqCells [(.int .i64 n45), (.int .i64 n46), (.int .i64 n47), (.int .i64 n48)] [(.int .i64 n52), (.int .i64 n53), (.int .i64 n54), (.int .i64 n55)]) = true then
    ((x9).bind fun p56 =>
    (ldA h42 p56.1 p56.2).bind fun v57 =>
    (asI .i64 v57).bind fun n58 =>
    (x9).bind fun p59 =>
    (ldA h42 p59.1 p59.2).bind fun v60 =>
    (asI .i64 v60).bind fun n61 =>
    (cutA h42 s31.1 s31.2.1 s31.2.2 1 none (some (.int .i64 n58)) (some (.int .i64 n61))).bind fun s62 =>
    (x12).bind fun p63 =>
    (stA h42 p63.1 p63.2 (.slice s62.1 s62.2.1 s62.2.2) 1).bind fun b64 =>
    let h65 := AHeap.put h42 p63.1 (some b64)
    (x13).bind fun p66 =>
    (stA h65 p66.1 p66.2 (.slice x22a x22n x22c) 1).bind fun b67 =>
    let h68 := AHeap.put h65 p66.1 (some b67)
    (x14).bind fun p69 =>
    (stA h68 p69.1 p69.2 (.int .i64 0) 1).bind fun b70 =>
    let h71 := AHeap.put h68 p69.1 (some b70)
    if isReady h71 n1 (LB + 1) = true then some (.bool false, AHeap.put h71 n1 (some ⟨[], LB + 2, true⟩), (r32.2.2 + 11)) else none)
    else
    (if isReady h42 n1 (LB + 1) = true then some (.bool true, AHeap.put h42 n1 (some ⟨[], LB, true⟩), (r32.2.2 + 3)) else none)))) := by kernel_rfl

theorem F12_L5_eq (call : YldF → CallF) (Y : YldF) (lf : Nat) (n0 : Nat) (n1 : Nat) (n2 : Nat) (x9 : Option (Nat × Nat)) (x10 : Option (Nat × Nat)) (x11 : Option (Nat × Nat)) (x12 : Option (Nat × Nat)) (x13 : Option (Nat × Nat)) (x14 : Option (Nat × Nat)) (x15 : Option (Nat × Nat)) (x17 : Option (Nat × Nat)) (x18 : Option (Nat × Nat)) (x22a : Option (Nat × Nat)) (x22n : Nat) (x22c : Bool) (x93a : Option (Nat × Nat)) (x93n : Nat) (x93c : Bool) (x94 : Int) (x95 : Int) (h : AHeap) (nx : Nat) : F12_L5 call Y lf n0 n1 (n2 + 1) x9 x10 x11 x12 x13 x14 x15 x17 x18 x22a x22n x22c x93a x93n x93c x94 x95 h nx =
    if (decide ((x95 : Int) < x94)) = true then
    ((x93a).bind fun p1 =>
    if 0 ≤ (x95 : Int) ∧ x95 < ((x93n : Nat) : Int) then
    ((ldA h p1.1 (p1.2 + Int.toNat x95 * 1)).bind fun v2 =>
    (asI .i64 v2).bind fun n3 =>
    (x18).bind fun p4 =>
    (ldA h p4.1 p4.2).bind fun v5 =>
    (asSl v5).bind fun s6 =>
    (s6.1).bind fun p7 =>
    if 0 ≤ (n3 : Int) ∧ n3 < ((s6.2.1 : Nat) : Int) then
    ((ldA h p7.1 (p7.2 + Int.toNat n3 * 1)).bind fun v8 =>
    (asI .i64 v8).bind fun n9 =>
    (x22a).bind fun p10 =>
    if 0 ≤ (x95 : Int) ∧ x95 < ((x22n : Nat) : Int) then
    ((stA h p10.1 (p10.2 + Int.toNat x95 * 1) (.int .i64 n9) 1).bind fun b11 =>
    let h12 := AHeap.put h p10.1 (some b11)
    F12_L5 call Y lf n0 n1 n2 x9 x10 x11 x12 x13 x14 x15 x17 x18 x22a x22n x22c x93a x93n x93c x94 (wrapA .i64 (x95 + 1)) h12 (nx + 16))
    else none)
    else none)
    else none)
    else
    ((x15).bind fun p13 =>
    (ldR h p13.1 p13.2 3).bind fun l14 =>
    (asAgg 3 (AV.agg l14)).bind fun d15 =>
    (asSl (d15.getD 0 .bad)).bind fun s16 =>
    (asI .i64 (d15.getD 1 .bad)).bind fun n17 =>
    (asI .i64 (d15.getD 2 .bad)).bind fun n18 =>
    (x10).bind fun p19 =>
    (ldA h p19.1 p19.2).bind fun v20 =>
    (asSl v20).bind fun s21 =>
    (x17).bind fun p22 =>
    (ldA h p22.1 p22.2).bind fun v23 =>
    (asSl v23).bind fun s24 =>
    (call Y 21 [(.slice s24.1 s24.2.1 s24.2.2)] h (nx + 9)).bind fun r25 =>
    (asSl r25.1).bind fun s26 =>
    (srcS r25.2.1 x22a x22n 1).bind fun q27 =>
    (appD r25.2.1 s26.1 s26.2.1 s26.2.2 1 8 (nx + 6) q27).bind fun e28 =>
    let h29 := AHeap.puts r25.2.1 e28.sets
    (call Y 20 [(.agg [(.slice s16.1 s16.2.1 s16.2.2), (.int .i64 n17), (.int .i64 n18)]), (.slice s21.1 s21.2.1 s21.2.2), (.slice e28.a e28.n e28.c)] h29 r25.2.2).bind fun r30 =>
    (asSl r30.1).bind fun s31 =>
    ifApart [((idsOf e28.sets), [p13.1]), ((idsOf e28.sets), [p19.1])]
    (ifKept [(h, r25.2.1, [p13.1]), (h, r25.2.1, [p19.1])]
    ((call Y 14 [(.slice s31.1 s31.2.1 s31.2.2)] r30.2.1 (r30.2.2 + 8)).bind fun r32 =>
    (asTup 2 r32.1).bind fun d33 =>
    (asAgg 4 (d33.getD 0 .bad)).bind fun d34 =>
    (asI .i64 (d34.getD 0 .bad)).bind fun n35 =>
    (asI .i64 (d34.getD 1 .bad)).bind fun n36 =>
    (asI .i64 (d34.getD 2 .bad)).bind fun n37 =>
    (asI .i64 (d34.getD 3 .bad)).bind fun n38 =>
    (asI .i64 (d33.getD 1 .bad)).bind fun n39 =>
    let h40 := AHeap.put r32.2.1 (r30.2.2 + 5) (some ⟨[(.int .i64 0), (.int .i64 0), (.int .i64 0), (.int .i64 0)], 4, true⟩)
    (stA h40 (r30.2.2 + 5) 0 (.agg [(.int .i64 n35), (.int .i64 n36), (.int .i64 n37), (.int .i64 n38)]) 4).bind fun b41 =>
    let h42 := AHeap.put h40 (r30.2.2 + 5) (some b41)
    (ldR h42 (r30.2.2 + 5) 0 4).bind fun l43 =>
    (asAgg 4 (AV.agg l43)).bind fun d44 =>
    (asI .i64 (d44.getD 0 .bad)).bind fun n45 =>
    (asI .i64 (d44.getD 1 .bad)).bind fun n46 =>
    (asI .i64 (d44.getD 2 .bad)).bind fun n47 =>
    (asI .i64 (d44.getD 3 .bad)).bind fun n48 =>
    (x11).bind fun p49 =>
    (ldR h42 p49.1 p49.2 4).bind fun l50 =>
    (asAgg 4 (AV.agg l50)).bind fun d51 =>
    (asI .i64 (d51.getD 0 .bad)).bind fun n52 =>
    (asI .i64 (d51.getD 1 .bad)).bind fun n53 =>
    (asI .i64 (d51.getD 2 .bad)).bind fun n54 =>
    (asI .i64 (d51.getD 3 .bad)).bind fun n55 =>
    if (eqCells [(.int .i64 n45), (.int .i64 n46), (.int .i64 n47), (.int .i64 n48)] [(.int .i64 n52), (.int .i64 n53), (.int .i64 n54), (.int .i64 n55)]) = true then
    ((x9).bind fun p56 =>
    (ldA h42 p56.1 p56.2).bind fun v57 =>
    (asI .i64 v57).bind fun n58 =>
    (x9).bind fun p59 =>
    (ldA h42 p59.1 p59.2).bind fun v60 =>
    (asI .i64 v60).bind fun n61 =>
    (cutA h42 s31.1 s31.2.1 s31.2.2 1 none (some (.int .i64 n58)) (some (.int .i64 n61))).bind fun s62 =>
    (x12).bind fun p63 =>
    (stA h42 p63.1 p63.2 (.slice s62.1 s62.2.1 s62.2.2) 1).bind fun b64 =>
    let h65 := AHeap.put h42 p63.1 (some b64)
    (x13).bind fun p66 =>
    (stA h65 p66.1 p66.2 (.slice x22a x22n x22c) 1).bind fun b67 =>
    let h68 := AHeap.put h65 p66.1 (some b67)
    (x14).bind fun p69 =>
    (stA h68 p69.1 p69.2 (.int .i64 0) 1).bind fun b70 =>
    let h71 := AHeap.put h68 p69.1 (some b70)
    if isReady h71 n1 (LB + 1) = true then some (.bool false, AHeap.put h71 n1 (some ⟨[], LB + 2, true⟩), (r32.2.2 + 11)) else none)
    else
    (if isReady h42 n1 (LB + 1) = true then some (.bool true, AHeap.put h42 n1 (some ⟨[], LB, true⟩), (r32.2.2 + 3)) else none)))) := F12_L5_eq' go1 call Y lf n0 n1 n2 x9 x10 x11 x12 x13 x14 x15 x17 x18 x22a x22n x22c x93a x93n x93c x94 x95 h nx

theorem F12_L5_zero (call : YldF → CallF) (Y : YldF) (lf : Nat) (n0 : Nat) (n1 : Nat) (x9 : Option (Nat × Nat)) (x10 : Option (Nat × Nat)) (x11 : Option (Nat × Nat)) (x12 : Option (Nat × Nat)) (x13 : Option (Nat × Nat)) (x14 : Option (Nat × Nat)) (x15 : Option (Nat × Nat)) (x17 : Option (Nat × Nat)) (x18 : Option (Nat × Nat)) (x22a : Option (Nat × Nat)) (x22n : Nat) (x22c : Bool) (x93a : Option (Nat × Nat)) (x93n : Nat) (x93c : Bool) (x94 : Int) (x95 : Int) (h : AHeap) (nx : Nat) : F12_L5 call Y lf n0 n1 0 x9 x10 x11 x12 x13 x14 x15 x17 x18 x22a x22n x22c x93a x93n x93c x94 x95 h nx = none := by kernel_rfl

theorem F12_eq' (J : StepF (AV × AHeap × Nat) → StepF (AV × AHeap × Nat)) (n : Nat) (Y : YldF) (x0 : Int) (x1 : Int) (x2 : Int) (x3 : Int) (x4a : Option (Nat × Nat)) (x4n : Nat) (x4c : Bool) (x5_0 : Int) (x5_1 : Int) (x5_2 : Int) (x5_3 : Int) (h : AHeap) (nx : Nat) : rootJ J Try.prog keepT (callP Try.prog keepT n) Y n 12 [(.int .i64 x0), (.int .i64 x1), (.int .i64 x2), (.int .i64 x3), (.slice x4a x4n x4c), (.agg [(.int .i64 x5_0), (.int .i64 x5_1), (.int .i64 x5_2), (.int .i64 x5_3)])] h nx =
    let h1 := AHeap.put h nx (some ⟨[(.int .i64 x3)], 1, true⟩)
    let h2 := AHeap.put h1 (nx + 1) (some ⟨[(.slice x4a x4n x4c)], 1, true⟩)
    let h3 := AHeap.put h2 (nx + 2) (some ⟨[(.int .i64 x5_0), (.int .i64 x5_1), (.int .i64 x5_2), (.int .i64 x5_3)], 4, true⟩)
    let h4 := AHeap.put h3 (nx + 3) (some ⟨[(.slice none 0 false)], 1, true⟩)
    let h5 := AHeap.put h4 (nx + 4) (some ⟨[(.slice none 0 false)], 1, true⟩)
    let h6 := AHeap.put h5 (nx + 5) (some ⟨[(.int .i64 0)], 1, true⟩)
    (ldA h6 nx 0).bind fun v7 =>
    (asI .i64 v7).bind fun n8 =>
    ((callP Try.prog keepT n) Y 17 [(.int .i64 x0), (.int .i64 x1), (.int .i64 x2), (.int .i64 n8)] h6 (nx + 17)).bind fun r9 =>
    (asTup 2 r9.1).bind fun d10 =>
    (asAgg 3 (d10.getD 0 .bad)).bind fun d11 =>
    (asSl (d11.getD 0 .bad)).bind fun s12 =>
    (asI .i64 (d11.getD 1 .bad)).bind fun n13 =>
    (asI .i64 (d11.getD 2 .bad)).bind fun n14 =>
    (asI .i64 (d10.getD 1 .bad)).bind fun n15 =>
    let h16 := AHeap.put r9.2.1 (nx + 14) (some ⟨[(.slice none 0 false), (.int .i64 0), (.int .i64 0)], 3, true⟩)
    (stA h16 (nx + 14) 0 (.agg [(.slice s12.1 s12.2.1 s12.2.2), (.int .i64 n13), (.int .i64 n14)]) 3).bind fun b17 =>
    let h18 := AHeap.put h16 (nx + 14) (some b17)
    if ((n15 : Int) != 0) = true then
    ((stA h18 (nx + 3) 0 (.slice none 0 false) 1).bind fun b19 =>
    let h20 := AHeap.put h18 (nx + 3) (some b19)
    (stA h20 (nx + 4) 0 (.slice none 0 false) 1).bind fun b21 =>
    let h22 := AHeap.put h20 (nx + 4) (some b21)
    (stA h22 (nx + 5) 0 (.int .i64 n15) 1).bind fun b23 =>
    let h24 := AHeap.put h22 (nx + 5) (some b23)
    (ldA h24 (nx + 3) 0).bind fun v25 =>
    (asSl v25).bind fun s26 =>
    (ldA h24 (nx + 4) 0).bind fun v27 =>
    (asSl v27).bind fun s28 =>
    (ldA h24 (nx + 5) 0).bind fun v29 =>
    (asI .i64 v29).bind fun n30 =>
    some ((.tuple [(.slice s26.1 s26.2.1 s26.2.2), (.slice s28.1 s28.2.1 s28.2.2), (.int .i64 n30)]), h24, (r9.2.2 + 6)))
    else
    ((ldA h18 (nx + 1) 0).bind fun v31 =>
    (asSl v31).bind fun s32 =>
    (ldA h18 (nx + 14) 0).bind fun v33 =>
    (asSl v33).bind fun s34 =>
    if ((((s32.2.1 : Nat) : Int) : Int) != ((s34.2.1 : Nat) : Int)) = true then
    ((stA h18 (nx + 3) 0 (.slice none 0 false) 1).bind fun b35 =>
    let h36 := AHeap.put h18 (nx + 3) (some b35)
    (stA h36 (nx + 4) 0 (.slice none 0 false) 1).bind fun b37 =>
    let h38 := AHeap.put h36 (nx + 4) (some b37)
    (stA h38 (nx + 5) 0 (.int .i64 4) 1).bind fun b39 =>
    let h40 := AHeap.put h38 (nx + 5) (some b39)
    (ldA h40 (nx + 3) 0).bind fun v41 =>
    (asSl v41).bind fun s42 =>
    (ldA h40 (nx + 4) 0).bind fun v43 =>
    (asSl v43).bind fun s44 =>
    (ldA h40 (nx + 5) 0).bind fun v45 =>
    (asI .i64 v45).bind fun n46 =>
    some ((.tuple [(.slice s42.1 s42.2.1 s42.2.2), (.slice s44.1 s44.2.1 s44.2.2), (.int .i64 n46)]), h40, (r9.2.2 + 11)))
    else
    (let h47 := AHeap.put h18 (r9.2.2 + 8) (some ⟨[(.slice none 0 false)], 1, true⟩)
    let h48 := AHeap.put h47 (r9.2.2 + 9) (some ⟨[(.slice none 0 false)], 1, true⟩)
    (ldA h48 (nx + 1) 0).bind fun v49 =>
    (asSl v49).bind fun s50 =>
    F12_L1' J J (callP Try.prog keepT n) Y n n x1 (some (nx, 0)) (some ((nx + 1), 0)) (some ((nx + 2), 0)) (some ((nx + 3), 0)) (some ((nx + 4), 0)) (some ((nx + 5), 0)) (some ((nx + 14), 0)) (some ((r9.2.2 + 8), 0)) (some ((r9.2.2 + 9), 0)) s50.1 s50.2.1 s50.2.2 ((s50.2.1 : Nat) : Int) 0 h48 (r9.2.2 + 13))) := by kernel_rfl

/-- quickset/stripe.Gather -/
theorem F12_eq (n : Nat) (Y : YldF) (x0 : Int) (x1 : Int) (x2 : Int) (x3 : Int) (x4a : Option (Nat × Nat)) (x4n : Nat) (x4c : Bool) (x5_0 : Int) (x5_1 : Int) (x5_2 : Int) (x5_3 : Int) (h : AHeap) (nx : Nat) : callP Try.prog keepT (n + 1) Y 12 [(.int .i64 x0), (.int .i64 x1), (.int .i64 x2), (.int .i64 x3), (.slice x4a x4n x4c), (.agg [(.int .i64 x5_0), (.int .i64 x5_1), (.int .i64 x5_2), (.int .i64 x5_3)])] h nx =
    let h1 := AHeap.put h nx (some ⟨[(.int .i64 x3)], 1, true⟩)
    let h2 := AHeap.put h1 (nx + 1) (some ⟨[(.slice x4a x4n x4c)], 1, true⟩)
    let h3 := AHeap.put h2 (nx + 2) (some ⟨[(.int .i64 x5_0), (.int .i64 x5_1), (.int .i64 x5_2), (.int .i64 x5_3)], 4, true⟩)
    let h4 := AHeap.put h3 (nx + 3) (some ⟨[(.slice none 0 false)], 1, true⟩)
    let h5 := AHeap.put h4 (nx + 4) (some ⟨[(.slice none 0 false)], 1, true⟩)
    let h6 := AHeap.put h5 (nx + 5) (some ⟨[(.int .i64 0)], 1, true⟩)
    (ldA h6 nx 0).bind fun v7 =>
    (asI .i64 v7).bind fun n8 =>
    ((callP Try.prog keepT n) Y 17 [(.int .i64 x0), (.int .i64 x1), (.int .i64 x2), (.int .i64 n8)] h6 (nx + 17)).bind fun r9 =>
    (asTup 2 r9.1).bind fun d10 =>
    (asAgg 3 (d10.getD 0 .bad)).bind fun d11 =>
    (asSl (d11.getD 0 .bad)).bind fun s12 =>
    (asI .i64 (d11.getD 1 .bad)).bind fun n13 =>
    (asI .i64 (d11.getD 2 .bad)).bind fun n14 =>
    (asI .i64 (d10.getD 1 .bad)).bind fun n15 =>
    let h16 := AHeap.put r9.2.1 (nx + 14) (some ⟨[(.slice none 0 false), (.int .i64 0), (.int .i64 0)], 3, true⟩)
    (stA h16 (nx + 14) 0 (.agg [(.slice s12.1 s12.2.1 s12.2.2), (.int .i64 n13), (.int .i64 n14)]) 3).bind fun b17 =>
    let h18 := AHeap.put h16 (nx + 14) (some b17)
    if ((n15 : Int) != 0) = true then
    ((stA h18 (nx + 3) 0 (.slice none 0 false) 1).bind fun b19 =>
    let h20 := AHeap.put h18 (nx + 3) (some b19)
    (stA h20 (nx + 4) 0 (.slice none 0 false) 1).bind fun b21 =>
    let h22 := AHeap.put h20 (nx + 4) (some b21)
    (stA h22 (nx + 5) 0 (.int .i64 n15) 1).bind fun b23 =>
    let h24 := AHeap.put h22 (nx + 5) (some b23)
    (ldA h24 (nx + 3) 0).bind fun v25 =>
    (asSl v25).bind fun s26 =>
    (ldA h24 (nx + 4) 0).bind fun v27 =>
    (asSl v27).bind fun s28 =>
    (ldA h24 (nx + 5) 0).bind fun v29 =>
    (asI .i64 v29).bind fun n30 =>
    some ((.tuple [(.slice s26.1 s26.2.1 s26.2.2), (.slice s28.1 s28.2.1 s28.2.2), (.int .i64 n30)]), h24, (r9.2.2 + 6)))
    else
    ((ldA h18 (nx + 1) 0).bind fun v31 =>
    (asSl v31).bind fun s32 =>
    (ldA h18 (nx + 14) 0).bind fun v33 =>
    (asSl v33).bind fun s34 =>
    if ((((s32.2.1 : Nat) : Int) : Int) != ((s34.2.1 : Nat) : Int)) = true then
    ((stA h18 (nx + 3) 0 (.slice none 0 false) 1).bind fun b35 =>
    let h36 := AHeap.put h18 (nx + 3) (some b35)
    (stA h36 (nx + 4) 0 (.slice none 0 false) 1).bind fun b37 =>
    let h38 := AHeap.put h36 (nx + 4) (some b37)
    (stA h38 (nx + 5) 0 (.int .i64 4) 1).bind fun b39 =>
    let h40 := AHeap.put h38 (nx + 5) (some b39)
    (ldA h40 (nx + 3) 0).bind fun v41 =>
    (asSl v41).bind fun s42 =>
    (ldA h40 (nx + 4) 0).bind fun v43 =>
    (asSl v43).bind fun s44 =>
    (ldA h40 (nx + 5) 0).bind fun v45 =>
    (asI .i64 v45).bind fun n46 =>
    some ((.tuple [(.slice s42.1 s42.2.1 s42.2.2), (.slice s44.1 s44.2.1 s44.2.2), (.int .i64 n46)]), h40, (r9.2.2 + 11)))
    else
    (let h47 := AHeap.put h18 (r9.2.2 + 8) (some ⟨[(.slice none 0 false)], 1, true⟩)
    let h48 := AHeap.put h47 (r9.2.2 + 9) (some ⟨[(.slice none 0 false)], 1, true⟩)
    (ldA h48 (nx + 1) 0).bind fun v49 =>
    (asSl v49).bind fun s50 =>
    F12_L1 (callP Try.prog keepT n) Y n n x1 (some (nx, 0)) (some ((nx + 1), 0)) (some ((nx + 2), 0)) (some ((nx + 3), 0)) (some ((nx + 4), 0)) (some ((nx + 5), 0)) (some ((nx + 14), 0)) (some ((r9.2.2 + 8), 0)) (some ((r9.2.2 + 9), 0)) s50.1 s50.2.1 s50.2.2 ((s50.2.1 : Nat) : Int) 0 h48 (r9.2.2 + 13))) := F12_eq' go1 n Y x0 x1 x2 x3 x4a x4n x4c x5_0 x5_1 x5_2 x5_3 h nx

noncomputable def c13 : Code := (Try.f13.body).getD .skip

noncomputable def r13 : List ResultVar := Try.f13.results.toList

noncomputable def F13_L1' (W J : StepF (AV × AHeap × Nat) → StepF (AV × AHeap × Nat)) (call : YldF → CallF) (Y : YldF) (lf : Nat) (n0 : Nat) (x0a : Option (Nat × Nat)) (x0n : Nat) (x0c : Bool) (x1a : Option (Nat × Nat)) (x1n : Nat) (x1c : Bool) (x5 : Int) (h : AHeap) (nx : Nat) : Option (AV × AHeap × Nat) :=
  goK W J drawK (machOf Try.prog) call Y (keepT 13) lf c13 [1, 1, 0, 1, 0, 9] [n0] (retK (machOf Try.prog) ⟨c13, 26, r13, keepT 13⟩) ⟨26, mkL [(0, (.slice x0a x0n x0c)), (1, (.slice x1a x1n x1c)), (5, (.int .i64 x5))]⟩ h nx

noncomputable def F13_L1 (call : YldF → CallF) (Y : YldF) (lf : Nat) (n0 : Nat) (x0a : Option (Nat × Nat)) (x0n : Nat) (x0c : Bool) (x1a : Option (Nat × Nat)) (x1n : Nat) (x1c : Bool) (x5 : Int) (h : AHeap) (nx : Nat) : Option (AV × AHeap × Nat) := F13_L1' go1 go1 call Y lf n0 x0a x0n x0c x1a x1n x1c x5 h nx

theorem F13_L1_eq' (J : StepF (AV × AHeap × Nat) → StepF (AV × AHeap × Nat)) (call : YldF → CallF) (Y : YldF) (lf : Nat) (n0 : Nat) (x0a : Option (Nat × Nat)) (x0n : Nat) (x0c : Bool) (x1a : Option (Nat × Nat)) (x1n : Nat) (x1c : Bool) (x5 : Int) (h : AHeap) (nx : Nat) : F13_L1' go1 J call Y lf (n0 + 1) x0a x0n x0c x1a x1n x1c x5 h nx =
    if (decide ((x5 : Int) < ((x0n : Nat) : Int))) = true then
    ((x0a).bind fun p1 =>
    if 0 ≤ (x5 : Int) ∧ x5 < ((x0n : Nat) : Int) then
    ((ldA h p1.1 (p1.2 + Int.toNat x5 * 1)).bind fun v2 =>
    (asI .u8 v2).bind fun n3 =>
    (x1a).bind fun p4 =>
    if 0 ≤ (x5 : Int) ∧ x5 < ((x1n : Nat) : Int) then
    ((ldA h p4.1 (p4.2 + Int.toNat x5 * 1)).bind fun v5 =>
    (asI .u8 v5).bind fun n6 =>
    if ((n3 : Int) != n6) = true then
    (some ((.bool false), h, (nx + 14)))
    else
    (F13_L1' J J call Y lf n0 x0a x0n x0c x1a x1n x1c (wrapA .i64 (x5 + 1)) h (nx + 16)))
    else none)
    else none)
    else
    (some ((.bool true), h, (nx + 5))) := by kernel_rfl

theorem F13_L1_eq (call : YldF → CallF) (Y : YldF) (lf : Nat) (n0 : Nat) (x0a : Option (Nat × Nat)) (x0n : Nat) (x0c : Bool) (x1a : Option (Nat × Nat)) (x1n : Nat) (x1c : Bool) (x5 : Int) (h : AHeap) (nx : Nat) : F13_L1 call Y lf (n0 + 1) x0a x0n x0c x1a x1n x1c x5 h nx =
    if (decide ((x5 : Int) < ((x0n : Nat) : Int))) = true then
    ((x0a).bind fun p1 =>
    if 0 ≤ (x5 : Int) ∧ x5 < ((x0n : Nat) : Int) then
    ((ldA h p1.1 (p1.2 + Int.toNat x5 * 1)).bind fun v2 =>
    (asI .u8 v2).bind fun n3 =>
    (x1a).bind fun p4 =>
    if 0 ≤ (x5 : Int) ∧ x5 < ((x1n : Nat) : Int) then
    ((ldA h p4.1 (p4.2 + Int.toNat x5 * 1)).bind fun v5 =>
    (asI .u8 v5).bind fun n6 =>
    if ((n3 : Int) != n6) = true then
    (some ((.bool false), h, (nx + 14)))
    else
    (F13_L1 call Y lf n0 x0a x0n x0c x1a x1n x1c (wrapA .i64 (x5 + 1)) h (nx + 16)))
    else none)
    else none)
    else
    (some ((.bool true), h, (nx + 5))) := F13_L1_eq' go1 call Y lf n0 x0a x0n x0c x1a x1n x1c x5 h nx

theorem F13_L1_zero (call : YldF → CallF) (Y : YldF) (lf : Nat) (x0a : Option (Nat × Nat)) (x0n : Nat) (x0c : Bool) (x1a : Option (Nat × Nat)) (x1n : Nat) (x1c : Bool) (x5 : Int) (h : AHeap) (nx : Nat) : F13_L1 call Y lf 0 x0a x0n x0c x1a x1n x1c x5 h nx = none := by kernel_rfl

theorem F13_eq' (J : StepF (AV × AHeap × Nat) → StepF (AV × AHeap × Nat)) (n : Nat) (Y : YldF) (x0a : Option (Nat × Nat)) (x0n : Nat) (x0c : Bool) (x1a : Option (Nat × Nat)) (x1n : Nat) (x1c : Bool) (h : AHeap) (nx : Nat) : rootJ J Try.prog keepT (callP Try.prog keepT n) Y n 13 [(.slice x0a x0n x0c), (.slice x1a x1n x1c)] h nx =
    if ((((x0n : Nat) : Int) : Int) != ((x1n : Nat) : Int)) = true then
    (some ((.bool false), h, (nx + 7)))
    else
    (F13_L1' J J (callP Try.prog keepT n) Y n n x0a x0n x0c x1a x1n x1c 0 h (nx + 7)) := by kernel_rfl

/-- quickset/quicksetkeep.sameBytes -/
theorem F13_eq (n : Nat) (Y : YldF) (x0a : Option (Nat × Nat)) (x0n : Nat) (x0c : Bool) (x1a : Option (Nat × Nat)) (x1n : Nat) (x1c : Bool) (h : AHeap) (nx : Nat) : callP Try.prog keepT (n + 1) Y 13 [(.slice x0a x0n x0c), (.slice x1a x1n x1c)] h nx =
    if ((((x0n : Nat) : Int) : Int) != ((x1n : Nat) : Int)) = true then
    (some ((.bool false), h, (nx + 7)))
    else
    (F13_L1 (callP Try.prog keepT n) Y n n x0a x0n x0c x1a x1n x1c 0 h (nx + 7)) := F13_eq' go1 n Y x0a x0n x0c x1a x1n x1c h nx

noncomputable def c14 : Code := (Try.f14.body).getD .skip

noncomputable def r14 : List ResultVar := Try.f14.results.toList

theorem F14_eq' (J : StepF (AV × AHeap × Nat) → StepF (AV × AHeap × Nat)) (n : Nat) (Y : YldF) (x0a : Option (Nat × Nat)) (x0n : Nat) (x0c : Bool) (h : AHeap) (nx : Nat) : rootJ J Try.prog keepT (callP Try.prog keepT n) Y n 14 [(.slice x0a x0n x0c)] h nx =
    let h1 := AHeap.put h nx (some ⟨[(.int .i64 0), (.int .i64 0), (.int .i64 0), (.int .i64 0)], 4, true⟩)
    ((callP Try.prog keepT n) Y 22 [(.agg [(.int .i64 0), (.int .i64 0), (.int .i64 0), (.int .i64 0)]), (.slice x0a x0n x0c)] h1 (nx + 9)).bind fun r2 =>
    (asTup 2 r2.1).bind fun d3 =>
    (asAgg 4 (d3.getD 0 .bad)).bind fun d4 =>
    (asI .i64 (d4.getD 0 .bad)).bind fun n5 =>
    (asI .i64 (d4.getD 1 .bad)).bind fun n6 =>
    (asI .i64 (d4.getD 2 .bad)).bind fun n7 =>
    (asI .i64 (d4.getD 3 .bad)).bind fun n8 =>
    (asI .i64 (d3.getD 1 .bad)).bind fun n9 =>
    (stA r2.2.1 nx 0 (.agg [(.int .i64 n5), (.int .i64 n6), (.int .i64 n7), (.int .i64 n8)]) 4).bind fun b10 =>
    let h11 := AHeap.put r2.2.1 nx (some b10)
    (ldR h11 nx 0 4).bind fun l12 =>
    (asAgg 4 (AV.agg l12)).bind fun d13 =>
    (asI .i64 (d13.getD 0 .bad)).bind fun n14 =>
    (asI .i64 (d13.getD 1 .bad)).bind fun n15 =>
    (asI .i64 (d13.getD 2 .bad)).bind fun n16 =>
    (asI .i64 (d13.getD 3 .bad)).bind fun n17 =>
    some ((.tuple [(.agg [(.int .i64 n14), (.int .i64 n15), (.int .i64 n16), (.int .i64 n17)]), (.int .i64 n9)]), h11, r2.2.2) := by kernel_rfl

/-- quickset/flet.Of -/
theorem F14_eq (n : Nat) (Y : YldF) (x0a : Option (Nat × Nat)) (x0n : Nat) (x0c : Bool) (h : AHeap) (nx : Nat) : callP Try.prog keepT (n + 1) Y 14 [(.slice x0a x0n x0c)] h nx =
    let h1 := AHeap.put h nx (some ⟨[(.int .i64 0), (.int .i64 0), (.int .i64 0), (.int .i64 0)], 4, true⟩)
    ((callP Try.prog keepT n) Y 22 [(.agg [(.int .i64 0), (.int .i64 0), (.int .i64 0), (.int .i64 0)]), (.slice x0a x0n x0c)] h1 (nx + 9)).bind fun r2 =>
    (asTup 2 r2.1).bind fun d3 =>
    (asAgg 4 (d3.getD 0 .bad)).bind fun d4 =>
    (asI .i64 (d4.getD 0 .bad)).bind fun n5 =>
    (asI .i64 (d4.getD 1 .bad)).bind fun n6 =>
    (asI .i64 (d4.getD 2 .bad)).bind fun n7 =>
    (asI .i64 (d4.getD 3 .bad)).bind fun n8 =>
    (asI .i64 (d3.getD 1 .bad)).bind fun n9 =>
    (stA r2.2.1 nx 0 (.agg [(.int .i64 n5), (.int .i64 n6), (.int .i64 n7), (.int .i64 n8)]) 4).bind fun b10 =>
    let h11 := AHeap.put r2.2.1 nx (some b10)
    (ldR h11 nx 0 4).bind fun l12 =>
    (asAgg 4 (AV.agg l12)).bind fun d13 =>
    (asI .i64 (d13.getD 0 .bad)).bind fun n14 =>
    (asI .i64 (d13.getD 1 .bad)).bind fun n15 =>
    (asI .i64 (d13.getD 2 .bad)).bind fun n16 =>
    (asI .i64 (d13.getD 3 .bad)).bind fun n17 =>
    some ((.tuple [(.agg [(.int .i64 n14), (.int .i64 n15), (.int .i64 n16), (.int .i64 n17)]), (.int .i64 n9)]), h11, r2.2.2) := F14_eq' go1 n Y x0a x0n x0c h nx

noncomputable def c15 : Code := (Try.f15.body).getD .skip

noncomputable def r15 : List ResultVar := Try.f15.results.toList

noncomputable def F15_L1' (W J : StepF (AV × AHeap × Nat) → StepF (AV × AHeap × Nat)) (call : YldF → CallF) (Y : YldF) (lf : Nat) (n0 : Nat) (x3a : Option (Nat × Nat)) (x3n : Nat) (x3c : Bool) (h : AHeap) (nx : Nat) : Option (AV × AHeap × Nat) :=
  goK W J drawK (machOf Try.prog) call Y (keepT 15) lf c15 [1, 1, 0, 0, 9] [n0] (retK (machOf Try.prog) ⟨c15, 14, r15, keepT 15⟩) ⟨14, mkL [(3, (.slice x3a x3n x3c))]⟩ h nx

noncomputable def F15_L1 (call : YldF → CallF) (Y : YldF) (lf : Nat) (n0 : Nat) (x3a : Option (Nat × Nat)) (x3n : Nat) (x3c : Bool) (h : AHeap) (nx : Nat) : Option (AV × AHeap × Nat) := F15_L1' go1 go1 call Y lf n0 x3a x3n x3c h nx

theorem F15_L1_eq' (J : StepF (AV × AHeap × Nat) → StepF (AV × AHeap × Nat)) (call : YldF → CallF) (Y : YldF) (lf : Nat) (n0 : Nat) (x3a : Option (Nat × Nat)) (x3n : Nat) (x3c : Bool) (h : AHeap) (nx : Nat) : F15_L1' go1 J call Y lf (n0 + 1) x3a x3n x3c h nx =
    if (((Int.tmod ((x3n : Nat) : Int) 128) : Int) != 0) = true then
    (let h1 := AHeap.put h (nx + 5) (some ⟨[(.int .u8 0)], 1, true⟩)
    (srcS h1 (some ((nx + 5), 0)) 1 1).bind fun q2 =>
    (appD h1 x3a x3n x3c 1 1 (nx + 6) q2).bind fun e3 =>
    let h4 := AHeap.puts h1 e3.sets
    F15_L1' J J call Y lf n0 e3.a e3.n e3.c h4 (nx + 8))
    else
    (some ((.slice x3a x3n x3c), h, (nx + 6))) := by kernel_rfl

theorem F15_L1_eq (call : YldF → CallF) (Y : YldF) (lf : Nat) (n0 : Nat) (x3a : Option (Nat × Nat)) (x3n : Nat) (x3c : Bool) (h : AHeap) (nx : Nat) : F15_L1 call Y lf (n0 + 1) x3a x3n x3c h nx =
    if (((Int.tmod ((x3n : Nat) : Int) 128) : Int) != 0) = true then
    (let h1 := AHeap.put h (nx + 5) (some ⟨[(.int .u8 0)], 1, true⟩)
    (srcS h1 (some ((nx + 5), 0)) 1 1).bind fun q2 =>
    (appD h1 x3a x3n x3c 1 1 (nx + 6) q2).bind fun e3 =>
    let h4 := AHeap.puts h1 e3.sets
    F15_L1 call Y lf n0 e3.a e3.n e3.c h4 (nx + 8))
    else
    (some ((.slice x3a x3n x3c), h, (nx + 6))) := F15_L1_eq' go1 call Y lf n0 x3a x3n x3c h nx

theorem F15_L1_zero (call : YldF → CallF) (Y : YldF) (lf : Nat) (x3a : Option (Nat × Nat)) (x3n : Nat) (x3c : Bool) (h : AHeap) (nx : Nat) : F15_L1 call Y lf 0 x3a x3n x3c h nx = none := by kernel_rfl

theorem F15_eq' (J : StepF (AV × AHeap × Nat) → StepF (AV × AHeap × Nat)) (n : Nat) (Y : YldF) (x0a : Option (Nat × Nat)) (x0n : Nat) (x0c : Bool) (h : AHeap) (nx : Nat) : rootJ J Try.prog keepT (callP Try.prog keepT n) Y n 15 [(.slice x0a x0n x0c)] h nx =
    (srcS h x0a x0n 1).bind fun q1 =>
    (appD h none 0 false 1 1 (nx + 2) q1).bind fun e2 =>
    let h3 := AHeap.puts h e2.sets
    F15_L1' J J (callP Try.prog keepT n) Y n n e2.a e2.n e2.c h3 (nx + 4) := by kernel_rfl

/-- quickset/quicksetkeep.padded -/
theorem F15_eq (n : Nat) (Y : YldF) (x0a : Option (Nat × Nat)) (x0n : Nat) (x0c : Bool) (h : AHeap) (nx : Nat) : callP Try.prog keepT (n + 1) Y 15 [(.slice x0a x0n x0c)] h nx =
    (srcS h x0a x0n 1).bind fun q1 =>
    (appD h none 0 false 1 1 (nx + 2) q1).bind fun e2 =>
    let h3 := AHeap.puts h e2.sets
    F15_L1 (callP Try.prog keepT n) Y n n e2.a e2.n e2.c h3 (nx + 4) := F15_eq' go1 n Y x0a x0n x0c h nx

noncomputable def c16 : Code := (Try.f16.body).getD .skip

noncomputable def r16 : List ResultVar := Try.f16.results.toList

noncomputable def F16_L1' (W J : StepF (AV × AHeap × Nat) → StepF (AV × AHeap × Nat)) (call : YldF → CallF) (Y : YldF) (lf : Nat) (n0 : Nat) (x1 : Int) (x10 : Option (Nat × Nat)) (x12a : Option (Nat × Nat)) (x12n : Nat) (x12c : Bool) (x13a : Option (Nat × Nat)) (x13n : Nat) (x13c : Bool) (x14a : Option (Nat × Nat)) (x14n : Nat) (x14c : Bool) (x15 : Int) (h : AHeap) (nx : Nat) : Option (AV × AHeap × Nat) :=
  goK W J drawK (machOf Try.prog) call Y (keepT 16) lf c16 [1, 1, 1, 1, 1, 1, 1, 0, 1, 0, 9] [n0] (retK (machOf Try.prog) ⟨c16, 82, r16, keepT 16⟩) ⟨82, mkL [(1, (.int .i64 x1)), (10, (.ptr x10)), (12, (.slice x12a x12n x12c)), (13, (.slice x13a x13n x13c)), (14, (.slice x14a x14n x14c)), (15, (.int .i64 x15))]⟩ h nx

noncomputable def F16_L1 (call : YldF → CallF) (Y : YldF) (lf : Nat) (n0 : Nat) (x1 : Int) (x10 : Option (Nat × Nat)) (x12a : Option (Nat × Nat)) (x12n : Nat) (x12c : Bool) (x13a : Option (Nat × Nat)) (x13n : Nat) (x13c : Bool) (x14a : Option (Nat × Nat)) (x14n : Nat) (x14c : Bool) (x15 : Int) (h : AHeap) (nx : Nat) : Option (AV × AHeap × Nat) := F16_L1' go1 go1 call Y lf n0 x1 x10 x12a x12n x12c x13a x13n x13c x14a x14n x14c x15 h nx

theorem F16_L1_eq' (J : StepF (AV × AHeap × Nat) → StepF (AV × AHeap × Nat)) (call : YldF → CallF) (Y : YldF) (lf : Nat) (n0 : Nat) (x1 : Int) (x10 : Option (Nat × Nat)) (x12a : Option (Nat × Nat)) (x12n : Nat) (x12c : Bool) (x13a : Option (Nat × Nat)) (x13n : Nat) (x13c : Bool) (x14a : Option (Nat × Nat)) (x14n : Nat) (x14c : Bool) (x15 : Int) (h : AHeap) (nx : Nat) : F16_L1' go1 J call Y lf (n0 + 1) x1 x10 x12a x12n x12c x13a x13n x13c x14a x14n x14c x15 h nx =
    if (decide ((x15 : Int) < ((x13n : Nat) : Int))) = true then
    ((x10).bind fun p1 =>
    (ldR h p1.1 p1.2 3).bind fun l2 =>
    (asAgg 3 (AV.agg l2)).bind fun d3 =>
    (asSl (d3.getD 0 .bad)).bind fun s4 =>
    (asI .i64 (d3.getD 1 .bad)).bind fun n5 =>
    (asI .i64 (d3.getD 2 .bad)).bind fun n6 =>
    (call Y 18 [(.agg [(.slice s4.1 s4.2.1 s4.2.2), (.int .i64 n5), (.int .i64 n6)]), (.int .i64 x15)] h (nx + 20)).bind fun r7 =>
    (asI .i64 r7.1).bind fun n8 =>
    (cutA r7.2.1 x12a x12n x12c 1 none (some (.int .i64 n8)) none).bind fun s9 =>
    (call Y 24 [(.slice s9.1 s9.2.1 s9.2.2)] r7.2.1 r7.2.2).bind fun r10 =>
    (asSl r10.1).bind fun s11 =>
    (x10).bind fun p12 =>
    (ldR r10.2.1 p12.1 p12.2 3).bind fun l13 =>
    (asAgg 3 (AV.agg l13)).bind fun d14 =>
    (asSl (d14.getD 0 .bad)).bind fun s15 =>
    (asI .i64 (d14.getD 1 .bad)).bind fun n16 =>
    (asI .i64 (d14.getD 2 .bad)).bind fun n17 =>
    (call Y 18 [(.agg [(.slice s15.1 s15.2.1 s15.2.2), (.int .i64 n16), (.int .i64 n17)]), (.int .i64 x15)] r10.2.1 r10.2.2).bind fun r18 =>
    (asI .i64 r18.1).bind fun n19 =>
    (cutA r18.2.1 x12a x12n x12c 1 (some (.int .i64 n19)) none none).bind fun s20 =>
    (x13a).bind fun p21 =>
    if 0 ≤ (x15 : Int) ∧ x15 < ((x13n : Nat) : Int) then
    ((stA r18.2.1 p21.1 (p21.2 + Int.toNat x15 * 1) (.slice s11.1 s11.2.1 s11.2.2) 1).bind fun b22 =>
    let h23 := AHeap.put r18.2.1 p21.1 (some b22)
    ifApart [([p21.1], (rdOf x12a))]
    (ifKept [(h, r7.2.1, [p12.1]), (r7.2.1, r10.2.1, [p12.1])]
    ((x10).bind fun p24 =>
    (ldR h23 p24.1 p24.2 3).bind fun l25 =>
    (asAgg 3 (AV.agg l25)).bind fun d26 =>
    (asSl (d26.getD 0 .bad)).bind fun s27 =>
    (asI .i64 (d26.getD 1 .bad)).bind fun n28 =>
    (asI .i64 (d26.getD 2 .bad)).bind fun n29 =>
    (x13a).bind fun p30 =>
    if 0 ≤ (x15 : Int) ∧ x15 < ((x13n : Nat) : Int) then
    ((ldA h23 p30.1 (p30.2 + Int.toNat x15 * 1)).bind fun v31 =>
    (asSl v31).bind fun s32 =>
    (call Y 25 [(.agg [(.slice s27.1 s27.2.1 s27.2.2), (.int .i64 n28), (.int .i64 n29)]), (.slice s32.1 s32.2.1 s32.2.2)] h23 (r18.2.2 + 10)).bind fun r33 =>
    (asSl r33.1).bind fun s34 =>
    let h35 := AHeap.put r33.2.1 (r18.2.2 + 7) (some ⟨[(.slice s34.1 s34.2.1 s34.2.2)], 1, true⟩)
    (srcS h35 (some ((r18.2.2 + 7), 0)) 1 1).bind fun q36 =>
    (appD h35 x14a x14n x14c 1 24 (r18.2.2 + 8) q36).bind fun e37 =>
    let h38 := AHeap.puts h35 e37.sets
    F16_L1' J J call Y lf n0 x1 x10 s20.1 s20.2.1 s20.2.2 x13a x13n x13c e37.a e37.n e37.c (wrapA .i64 (x15 + 1)) h38 (r33.2.2 + 3))
    else none)))
    else none)
    else
    ((call Y 26 [(.slice x14a x14n x14c), (.int .i64 x1)] h (nx + 12)).bind fun r39 =>
    (asTup 2 r39.1).bind fun d40 =>
    (asSl (d40.getD 0 .bad)).bind fun s41 =>
    (asI .i64 (d40.getD 1 .bad)).bind fun n42 =>
    (copD r39.2.1 x13a x13n s41.1 s41.2.1 1).bind fun q43 =>
    let h44 := AHeap.puts r39.2.1 q43.2.1
    some ((.tuple [(.slice x13a x13n x13c), (.int .i64 0)]), h44, (r39.2.2 + 6))) := by kernel_rfl

theorem F16_L1_eq (call : YldF → CallF) (Y : YldF) (lf : Nat) (n0 : Nat) (x1 : Int) (x10 : Option (Nat × Nat)) (x12a : Option (Nat × Nat)) (x12n : Nat) (x12c : Bool) (x13a : Option (Nat × Nat)) (x13n : Nat) (x13c : Bool) (x14a : Option (Nat × Nat)) (x14n : Nat) (x14c : Bool) (x15 : Int) (h : AHeap) (nx : Nat) : F16_L1 call Y lf (n0 + 1) x1 x10 x12a x12n x12c x13a x13n x13c x14a x14n x14c x15 h nx =
    if (decide ((x15 : Int) < ((x13n : Nat) : Int))) = true then
    ((x10).bind fun p1 =>
    (ldR h p1.1 p1.2 3).bind fun l2 =>
    (asAgg 3 (AV.agg l2)).bind fun d3 =>
    (asSl (d3.getD 0 .bad)).bind fun s4 =>
    (asI .i64 (d3.getD 1 .bad)).bind fun n5 =>
    (asI .i64 (d3.getD 2 .bad)).bind fun n6 =>
    (call Y 18 [(.agg [(.slice s4.1 s4.2.1 s4.2.2), (.int .i64 n5), (.int .i64 n6)]), (.int .i64 x15)] h (nx + 20)).bind fun r7 =>
    (asI .i64 r7.1).bind fun n8 =>
    (cutA r7.2.1 x12a x12n x12c 1 none (some (.int .i64 n8)) none).bind fun s9 =>
    (call Y 24 [(.slice s9.1 s9.2.1 s9.2.2)] r7.2.1 r7.2.2).bind fun r10 =>
    (asSl r10.1).bind fun s11 =>
    (x10).bind fun p12 =>
    (ldR r10.2.1 p12.1 p12.2 3).bind fun l13 =>
    (asAgg 3 (AV.agg l13)).bind fun d14 =>
    (asSl (d14.getD 0 .bad)).bind fun s15 =>
    (asI .i64 (d14.getD 1 .bad)).bind fun n16 =>
    (asI .i64 (d14.getD 2 .bad)).bind fun n17 =>
    (call Y 18 [(.agg [(.slice s15.1 s15.2.1 s15.2.2), (.int .i64 n16), (.int .i64 n17)]), (.int .i64 x15)] r10.2.1 r10.2.2).bind fun r18 =>
    (asI .i64 r18.1).bind fun n19 =>
    (cutA r18.2.1 x12a x12n x12c 1 (some (.int .i64 n19)) none none).bind fun s20 =>
    (x13a).bind fun p21 =>
    if 0 ≤ (x15 : Int) ∧ x15 < ((x13n : Nat) : Int) then
    ((stA r18.2.1 p21.1 (p21.2 + Int.toNat x15 * 1) (.slice s11.1 s11.2.1 s11.2.2) 1).bind fun b22 =>
    let h23 := AHeap.put r18.2.1 p21.1 (some b22)
    ifApart [([p21.1], (rdOf x12a))]
    (ifKept [(h, r7.2.1, [p12.1]), (r7.2.1, r10.2.1, [p12.1])]
    ((x10).bind fun p24 =>
    (ldR h23 p24.1 p24.2 3).bind fun l25 =>
    (asAgg 3 (AV.agg l25)).bind fun d26 =>
    (asSl (d26.getD 0 .bad)).bind fun s27 =>
    (asI .i64 (d26.getD 1 .bad)).bind fun n28 =>
    (asI .i64 (d26.getD 2 .bad)).bind fun n29 =>
    (x13a).bind fun p30 =>
    if 0 ≤ (x15 : Int) ∧ x15 < ((x13n : Nat) : Int) then
    ((ldA h23 p30.1 (p30.2 + Int.toNat x15 * 1)).bind fun v31 =>
    (asSl v31).bind fun s32 =>
    (call Y 25 [(.agg [(.slice s27.1 s27.2.1 s27.2.2), (.int .i64 n28), (.int .i64 n29)]), (.slice s32.1 s32.2.1 s32.2.2)] h23 (r18.2.2 + 10)).bind fun r33 =>
    (asSl r33.1).bind fun s34 =>
    let h35 := AHeap.put r33.2.1 (r18.2.2 + 7) (some ⟨[(.slice s34.1 s34.2.1 s34.2.2)], 1, true⟩)
    (srcS h35 (some ((r18.2.2 + 7), 0)) 1 1).bind fun q36 =>
    (appD h35 x14a x14n x14c 1 24 (r18.2.2 + 8) q36).bind fun e37 =>
    let h38 := AHeap.puts h35 e37.sets
    F16_L1 call Y lf n0 x1 x10 s20.1 s20.2.1 s20.2.2 x13a x13n x13c e37.a e37.n e37.c (wrapA .i64 (x15 + 1)) h38 (r33.2.2 + 3))
    else none)))
    else none)
    else
    ((call Y 26 [(.slice x14a x14n x14c), (.int .i64 x1)] h (nx + 12)).bind fun r39 =>
    (asTup 2 r39.1).bind fun d40 =>
    (asSl (d40.getD 0 .bad)).bind fun s41 =>
    (asI .i64 (d40.getD 1 .bad)).bind fun n42 =>
    (copD r39.2.1 x13a x13n s41.1 s41.2.1 1).bind fun q43 =>
    let h44 := AHeap.puts r39.2.1 q43.2.1
    some ((.tuple [(.slice x13a x13n x13c), (.int .i64 0)]), h44, (r39.2.2 + 6))) := F16_L1_eq' go1 call Y lf n0 x1 x10 x12a x12n x12c x13a x13n x13c x14a x14n x14c x15 h nx

theorem F16_L1_zero (call : YldF → CallF) (Y : YldF) (lf : Nat) (x1 : Int) (x10 : Option (Nat × Nat)) (x12a : Option (Nat × Nat)) (x12n : Nat) (x12c : Bool) (x13a : Option (Nat × Nat)) (x13n : Nat) (x13c : Bool) (x14a : Option (Nat × Nat)) (x14n : Nat) (x14c : Bool) (x15 : Int) (h : AHeap) (nx : Nat) : F16_L1 call Y lf 0 x1 x10 x12a x12n x12c x13a x13n x13c x14a x14n x14c x15 h nx = none := by kernel_rfl

theorem F16_eq' (J : StepF (AV × AHeap × Nat) → StepF (AV × AHeap × Nat)) (n : Nat) (Y : YldF) (x0 : Int) (x1 : Int) (x2 : Int) (x3a : Option (Nat × Nat)) (x3n : Nat) (x3c : Bool) (h : AHeap) (nx : Nat) : rootJ J Try.prog keepT (callP Try.prog keepT n) Y n 16 [(.int .i64 x0), (.int .i64 x1), (.int .i64 x2), (.slice x3a x3n x3c)] h nx =
    ((callP Try.prog keepT n) Y 17 [(.int .i64 x0), (.int .i64 x1), (.int .i64 x2), (.int .i64 ((x3n : Nat) : Int))] h (nx + 14)).bind fun r1 =>
    (asTup 2 r1.1).bind fun d2 =>
    (asAgg 3 (d2.getD 0 .bad)).bind fun d3 =>
    (asSl (d3.getD 0 .bad)).bind fun s4 =>
    (asI .i64 (d3.getD 1 .bad)).bind fun n5 =>
    (asI .i64 (d3.getD 2 .bad)).bind fun n6 =>
    (asI .i64 (d2.getD 1 .bad)).bind fun n7 =>
    let h8 := AHeap.put r1.2.1 (nx + 11) (some ⟨[(.slice none 0 false), (.int .i64 0), (.int .i64 0)], 3, true⟩)
    (stA h8 (nx + 11) 0 (.agg [(.slice s4.1 s4.2.1 s4.2.2), (.int .i64 n5), (.int .i64 n6)]) 3).bind fun b9 =>
    let h10 := AHeap.put h8 (nx + 11) (some b9)
    if ((n7 : Int) != 0) = true then
    (some ((.tuple [(.slice none 0 false), (.int .i64 n7)]), h10, (r1.2.2 + 5)))
    else
    (((callP Try.prog keepT n) Y 23 [(.int .i64 ((x3n : Nat) : Int))] h10 (r1.2.2 + 8)).bind fun r11 =>
    (asI .i64 r11.1).bind fun n12 =>
    if (decide (0 ≤ ((wrapA .i64 (n12 * 128)) : Int)) && decide (((wrapA .i64 (n12 * 128)) : Int) ≤ (wrapA .i64 (n12 * 128))) && decide (((1 : Nat) : Int) * (wrapA .i64 (n12 * 128)) ≤ 281474976710656) && decide (((wrapA .i64 (n12 * 128)) : Int) ≤ 9223372036854775807) && 1 != 0) = true then
    (let h13 := AHeap.put r11.2.1 (r1.2.2 + 6) (some ⟨(madeA [(.int .u8 0)] (Int.toNat (wrapA .i64 (n12 * 128)) * 1)), 1, true⟩)
    (copD h13 (some ((r1.2.2 + 6), 0)) (Int.toNat (wrapA .i64 (n12 * 128))) x3a x3n 1).bind fun q14 =>
    let h15 := AHeap.puts h13 q14.2.1
    (ldA h15 (nx + 11) 0).bind fun v16 =>
    (asSl v16).bind fun s17 =>
    if (decide (0 ≤ (((s17.2.1 : Nat) : Int) : Int)) && decide ((((s17.2.1 : Nat) : Int) : Int) ≤ ((s17.2.1 : Nat) : Int)) && decide (((24 : Nat) : Int) * ((s17.2.1 : Nat) : Int) ≤ 281474976710656) && decide ((((s17.2.1 : Nat) : Int) : Int) ≤ 9223372036854775807) && 1 != 0) = true then
    (let h18 := AHeap.put h15 (r11.2.2 + 6) (some ⟨(madeA [(.slice none 0 false)] (Int.toNat ((s17.2.1 : Nat) : Int) * 1)), 1, true⟩)
    F16_L1' J J (callP Try.prog keepT n) Y n n x1 (some ((nx + 11), 0)) (some ((r1.2.2 + 6), 0)) (Int.toNat (wrapA .i64 (n12 * 128))) ((wrapA .i64 (n12 * 128)) == (wrapA .i64 (n12 * 128))) (some ((r11.2.2 + 6), 0)) (Int.toNat ((s17.2.1 : Nat) : Int)) (((s17.2.1 : Nat) : Int) == ((s17.2.1 : Nat) : Int)) none 0 false x1 h18 (r11.2.2 + 11))
    else none)
    else none) := by kernel_rfl

/-- quickset/stripe.Lay -/
theorem F16_eq (n : Nat) (Y : YldF) (x0 : Int) (x1 : Int) (x2 : Int) (x3a : Option (Nat × Nat)) (x3n : Nat) (x3c : Bool) (h : AHeap) (nx : Nat) : callP Try.prog keepT (n + 1) Y 16 [(.int .i64 x0), (.int .i64 x1), (.int .i64 x2), (.slice x3a x3n x3c)] h nx =
    ((callP Try.prog keepT n) Y 17 [(.int .i64 x0), (.int .i64 x1), (.int .i64 x2), (.int .i64 ((x3n : Nat) : Int))] h (nx + 14)).bind fun r1 =>
    (asTup 2 r1.1).bind fun d2 =>
    (asAgg 3 (d2.getD 0 .bad)).bind fun d3 =>
    (asSl (d3.getD 0 .bad)).bind fun s4 =>
    (asI .i64 (d3.getD 1 .bad)).bind fun n5 =>
    (asI .i64 (d3.getD 2 .bad)).bind fun n6 =>
    (asI .i64 (d2.getD 1 .bad)).bind fun n7 =>
    let h8 := AHeap.put r1.2.1 (nx + 11) (some ⟨[(.slice none 0 false), (.int .i64 0), (.int .i64 0)], 3, true⟩)
    (stA h8 (nx + 11) 0 (.agg [(.slice s4.1 s4.2.1 s4.2.2), (.int .i64 n5), (.int .i64 n6)]) 3).bind fun b9 =>
    let h10 := AHeap.put h8 (nx + 11) (some b9)
    if ((n7 : Int) != 0) = true then
    (some ((.tuple [(.slice none 0 false), (.int .i64 n7)]), h10, (r1.2.2 + 5)))
    else
    (((callP Try.prog keepT n) Y 23 [(.int .i64 ((x3n : Nat) : Int))] h10 (r1.2.2 + 8)).bind fun r11 =>
    (asI .i64 r11.1).bind fun n12 =>
    if (decide (0 ≤ ((wrapA .i64 (n12 * 128)) : Int)) && decide (((wrapA .i64 (n12 * 128)) : Int) ≤ (wrapA .i64 (n12 * 128))) && decide (((1 : Nat) : Int) * (wrapA .i64 (n12 * 128)) ≤ 281474976710656) && decide (((wrapA .i64 (n12 * 128)) : Int) ≤ 9223372036854775807) && 1 != 0) = true then
    (let h13 := AHeap.put r11.2.1 (r1.2.2 + 6) (some ⟨(madeA [(.int .u8 0)] (Int.toNat (wrapA .i64 (n12 * 128)) * 1)), 1, true⟩)
    (copD h13 (some ((r1.2.2 + 6), 0)) (Int.toNat (wrapA .i64 (n12 * 128))) x3a x3n 1).bind fun q14 =>
    let h15 := AHeap.puts h13 q14.2.1
    (ldA h15 (nx + 11) 0).bind fun v16 =>
    (asSl v16).bind fun s17 =>
    if (decide (0 ≤ (((s17.2.1 : Nat) : Int) : Int)) && decide ((((s17.2.1 : Nat) : Int) : Int) ≤ ((s17.2.1 : Nat) : Int)) && decide (((24 : Nat) : Int) * ((s17.2.1 : Nat) : Int) ≤ 281474976710656) && decide ((((s17.2.1 : Nat) : Int) : Int) ≤ 9223372036854775807) && 1 != 0) = true then
    (let h18 := AHeap.put h15 (r11.2.2 + 6) (some ⟨(madeA [(.slice none 0 false)] (Int.toNat ((s17.2.1 : Nat) : Int) * 1)), 1, true⟩)
    F16_L1 (callP Try.prog keepT n) Y n n x1 (some ((nx + 11), 0)) (some ((r1.2.2 + 6), 0)) (Int.toNat (wrapA .i64 (n12 * 128))) ((wrapA .i64 (n12 * 128)) == (wrapA .i64 (n12 * 128))) (some ((r11.2.2 + 6), 0)) (Int.toNat ((s17.2.1 : Nat) : Int)) (((s17.2.1 : Nat) : Int) == ((s17.2.1 : Nat) : Int)) none 0 false x1 h18 (r11.2.2 + 11))
    else none)
    else none) := F16_eq' go1 n Y x0 x1 x2 x3a x3n x3c h nx

noncomputable def c17 : Code := (Try.f17.body).getD .skip

noncomputable def r17 : List ResultVar := Try.f17.results.toList

theorem F17_eq' (J : StepF (AV × AHeap × Nat) → StepF (AV × AHeap × Nat)) (n : Nat) (Y : YldF) (x0 : Int) (x1 : Int) (x2 : Int) (x3 : Int) (h : AHeap) (nx : Nat) : rootJ J Try.prog keepT (callP Try.prog keepT n) Y n 17 [(.int .i64 x0), (.int .i64 x1), (.int .i64 x2), (.int .i64 x3)] h nx =
    let h1 := AHeap.put h nx (some ⟨[(.slice none 0 false), (.int .i64 0), (.int .i64 0)], 3, true⟩)
    ((callP Try.prog keepT n) Y 27 [(.int .i64 x3)] h1 (nx + 5)).bind fun r2 =>
    (asB r2.1).bind fun t3 =>
    if (!t3) = true then
    ((stA r2.2.1 nx 0 (.agg [(.slice none 0 false), (.int .i64 0), (.int .i64 0)]) 3).bind fun b4 =>
    let h5 := AHeap.put r2.2.1 nx (some b4)
    (ldR h5 nx 0 3).bind fun l6 =>
    (asAgg 3 (AV.agg l6)).bind fun d7 =>
    (asSl (d7.getD 0 .bad)).bind fun s8 =>
    (asI .i64 (d7.getD 1 .bad)).bind fun n9 =>
    (asI .i64 (d7.getD 2 .bad)).bind fun n10 =>
    some ((.tuple [(.agg [(.slice s8.1 s8.2.1 s8.2.2), (.int .i64 n9), (.int .i64 n10)]), (.int .i64 1)]), h5, (r2.2.2 + 3)))
    else
    (((callP Try.prog keepT n) Y 23 [(.int .i64 x3)] r2.2.1 (r2.2.2 + 11)).bind fun r11 =>
    (asI .i64 r11.1).bind fun n12 =>
    ((callP Try.prog keepT n) Y 28 [(.int .i64 x0), (.int .i64 x1), (.int .i64 x2), (.int .i64 n12)] r11.2.1 r11.2.2).bind fun r13 =>
    (asTup 2 r13.1).bind fun d14 =>
    (asSl (d14.getD 0 .bad)).bind fun s15 =>
    (asI .i64 (d14.getD 1 .bad)).bind fun n16 =>
    if ((n16 : Int) != 0) = true then
    ((stA r13.2.1 nx 0 (.agg [(.slice none 0 false), (.int .i64 0), (.int .i64 0)]) 3).bind fun b17 =>
    let h18 := AHeap.put r13.2.1 nx (some b17)
    (ldR h18 nx 0 3).bind fun l19 =>
    (asAgg 3 (AV.agg l19)).bind fun d20 =>
    (asSl (d20.getD 0 .bad)).bind fun s21 =>
    (asI .i64 (d20.getD 1 .bad)).bind fun n22 =>
    (asI .i64 (d20.getD 2 .bad)).bind fun n23 =>
    some ((.tuple [(.agg [(.slice s21.1 s21.2.1 s21.2.2), (.int .i64 n22), (.int .i64 n23)]), (.int .i64 n16)]), h18, (r13.2.2 + 6)))
    else
    ((s15.1).bind fun p24 =>
    if 0 ≤ (0 : Int) ∧ 0 < ((s15.2.1 : Nat) : Int) then
    ((ldA r13.2.1 p24.1 ((p24.2 + Int.toNat 0 * 4) + 2)).bind fun v25 =>
    (asI .i64 v25).bind fun n26 =>
    (stA r13.2.1 nx 0 (.agg [(.slice s15.1 s15.2.1 s15.2.2), (.int .i64 x1), (.int .i64 (wrapA .i64 (n26 * 128)))]) 3).bind fun b27 =>
    let h28 := AHeap.put r13.2.1 nx (some b27)
    (ldR h28 nx 0 3).bind fun l29 =>
    (asAgg 3 (AV.agg l29)).bind fun d30 =>
    (asSl (d30.getD 0 .bad)).bind fun s31 =>
    (asI .i64 (d30.getD 1 .bad)).bind fun n32 =>
    (asI .i64 (d30.getD 2 .bad)).bind fun n33 =>
    some ((.tuple [(.agg [(.slice s31.1 s31.2.1 s31.2.2), (.int .i64 n32), (.int .i64 n33)]), (.int .i64 0)]), h28, (r13.2.2 + 12)))
    else none)) := by kernel_rfl

/-- quickset/stripe.shaped -/
theorem F17_eq (n : Nat) (Y : YldF) (x0 : Int) (x1 : Int) (x2 : Int) (x3 : Int) (h : AHeap) (nx : Nat) : callP Try.prog keepT (n + 1) Y 17 [(.int .i64 x0), (.int .i64 x1), (.int .i64 x2), (.int .i64 x3)] h nx =
    let h1 := AHeap.put h nx (some ⟨[(.slice none 0 false), (.int .i64 0), (.int .i64 0)], 3, true⟩)
    ((callP Try.prog keepT n) Y 27 [(.int .i64 x3)] h1 (nx + 5)).bind fun r2 =>
    (asB r2.1).bind fun t3 =>
    if (!t3) = true then
    ((stA r2.2.1 nx 0 (.agg [(.slice none 0 false), (.int .i64 0), (.int .i64 0)]) 3).bind fun b4 =>
    let h5 := AHeap.put r2.2.1 nx (some b4)
    (ldR h5 nx 0 3).bind fun l6 =>
    (asAgg 3 (AV.agg l6)).bind fun d7 =>
    (asSl (d7.getD 0 .bad)).bind fun s8 =>
    (asI .i64 (d7.getD 1 .bad)).bind fun n9 =>
    (asI .i64 (d7.getD 2 .bad)).bind fun n10 =>
    some ((.tuple [(.agg [(.slice s8.1 s8.2.1 s8.2.2), (.int .i64 n9), (.int .i64 n10)]), (.int .i64 1)]), h5, (r2.2.2 + 3)))
    else
    (((callP Try.prog keepT n) Y 23 [(.int .i64 x3)] r2.2.1 (r2.2.2 + 11)).bind fun r11 =>
    (asI .i64 r11.1).bind fun n12 =>
    ((callP Try.prog keepT n) Y 28 [(.int .i64 x0), (.int .i64 x1), (.int .i64 x2), (.int .i64 n12)] r11.2.1 r11.2.2).bind fun r13 =>
    (asTup 2 r13.1).bind fun d14 =>
    (asSl (d14.getD 0 .bad)).bind fun s15 =>
    (asI .i64 (d14.getD 1 .bad)).bind fun n16 =>
    if ((n16 : Int) != 0) = true then
    ((stA r13.2.1 nx 0 (.agg [(.slice none 0 false), (.int .i64 0), (.int .i64 0)]) 3).bind fun b17 =>
    let h18 := AHeap.put r13.2.1 nx (some b17)
    (ldR h18 nx 0 3).bind fun l19 =>
    (asAgg 3 (AV.agg l19)).bind fun d20 =>
    (asSl (d20.getD 0 .bad)).bind fun s21 =>
    (asI .i64 (d20.getD 1 .bad)).bind fun n22 =>
    (asI .i64 (d20.getD 2 .bad)).bind fun n23 =>
    some ((.tuple [(.agg [(.slice s21.1 s21.2.1 s21.2.2), (.int .i64 n22), (.int .i64 n23)]), (.int .i64 n16)]), h18, (r13.2.2 + 6)))
    else
    ((s15.1).bind fun p24 =>
    if 0 ≤ (0 : Int) ∧ 0 < ((s15.2.1 : Nat) : Int) then
    ((ldA r13.2.1 p24.1 ((p24.2 + Int.toNat 0 * 4) + 2)).bind fun v25 =>
    (asI .i64 v25).bind fun n26 =>
    (stA r13.2.1 nx 0 (.agg [(.slice s15.1 s15.2.1 s15.2.2), (.int .i64 x1), (.int .i64 (wrapA .i64 (n26 * 128)))]) 3).bind fun b27 =>
    let h28 := AHeap.put r13.2.1 nx (some b27)
    (ldR h28 nx 0 3).bind fun l29 =>
    (asAgg 3 (AV.agg l29)).bind fun d30 =>
    (asSl (d30.getD 0 .bad)).bind fun s31 =>
    (asI .i64 (d30.getD 1 .bad)).bind fun n32 =>
    (asI .i64 (d30.getD 2 .bad)).bind fun n33 =>
    some ((.tuple [(.agg [(.slice s31.1 s31.2.1 s31.2.2), (.int .i64 n32), (.int .i64 n33)]), (.int .i64 0)]), h28, (r13.2.2 + 12)))
    else none)) := F17_eq' go1 n Y x0 x1 x2 x3 h nx

noncomputable def c18 : Code := (Try.f18.body).getD .skip

noncomputable def r18 : List ResultVar := Try.f18.results.toList

theorem F18_eq' (J : StepF (AV × AHeap × Nat) → StepF (AV × AHeap × Nat)) (n : Nat) (Y : YldF) (x0_0a : Option (Nat × Nat)) (x0_0n : Nat) (x0_0c : Bool) (x0_1 : Int) (x0_2 : Int) (x1 : Int) (h : AHeap) (nx : Nat) : rootJ J Try.prog keepT (callP Try.prog keepT n) Y n 18 [(.agg [(.slice x0_0a x0_0n x0_0c), (.int .i64 x0_1), (.int .i64 x0_2)]), (.int .i64 x1)] h nx =
    let h1 := AHeap.put h nx (some ⟨[(.slice x0_0a x0_0n x0_0c), (.int .i64 x0_1), (.int .i64 x0_2)], 3, true⟩)
    (ldA h1 nx 0).bind fun v2 =>
    (asSl v2).bind fun s3 =>
    (s3.1).bind fun p4 =>
    if 0 ≤ (x1 : Int) ∧ x1 < ((s3.2.1 : Nat) : Int) then
    ((ldA h1 p4.1 ((p4.2 + Int.toNat x1 * 4) + 2)).bind fun v5 =>
    (asI .i64 v5).bind fun n6 =>
    some ((.int .i64 (wrapA .i64 (n6 * 128))), h1, (nx + 10)))
    else none := by kernel_rfl

/-- (quickset/stripe.block).size -/
theorem F18_eq (n : Nat) (Y : YldF) (x0_0a : Option (Nat × Nat)) (x0_0n : Nat) (x0_0c : Bool) (x0_1 : Int) (x0_2 : Int) (x1 : Int) (h : AHeap) (nx : Nat) : callP Try.prog keepT (n + 1) Y 18 [(.agg [(.slice x0_0a x0_0n x0_0c), (.int .i64 x0_1), (.int .i64 x0_2)]), (.int .i64 x1)] h nx =
    let h1 := AHeap.put h nx (some ⟨[(.slice x0_0a x0_0n x0_0c), (.int .i64 x0_1), (.int .i64 x0_2)], 3, true⟩)
    (ldA h1 nx 0).bind fun v2 =>
    (asSl v2).bind fun s3 =>
    (s3.1).bind fun p4 =>
    if 0 ≤ (x1 : Int) ∧ x1 < ((s3.2.1 : Nat) : Int) then
    ((ldA h1 p4.1 ((p4.2 + Int.toNat x1 * 4) + 2)).bind fun v5 =>
    (asI .i64 v5).bind fun n6 =>
    some ((.int .i64 (wrapA .i64 (n6 * 128))), h1, (nx + 10)))
    else none := F18_eq' go1 n Y x0_0a x0_0n x0_0c x0_1 x0_2 x1 h nx

noncomputable def c19 : Code := (Try.f19.body).getD .skip

noncomputable def r19 : List ResultVar := Try.f19.results.toList

theorem F19_eq' (J : StepF (AV × AHeap × Nat) → StepF (AV × AHeap × Nat)) (n : Nat) (Y : YldF) (x0 : Int) (x1 : Int) (h : AHeap) (nx : Nat) : rootJ J Try.prog keepT (callP Try.prog keepT n) Y n 19 [(.int .i64 x0), (.int .i64 x1)] h nx =
    let h1 := AHeap.put h nx (some ⟨[(.int .i64 x0)], 1, true⟩)
    let h2 := AHeap.put h1 (nx + 1) (some ⟨[(.int .i64 x1)], 1, true⟩)
    some ((.fn 29 [] [(.ptr (some ((nx + 1), 0))), (.ptr (some (nx, 0)))]), h2, (nx + 5)) := by kernel_rfl

/-- quickset/comb.Each -/
theorem F19_eq (n : Nat) (Y : YldF) (x0 : Int) (x1 : Int) (h : AHeap) (nx : Nat) : callP Try.prog keepT (n + 1) Y 19 [(.int .i64 x0), (.int .i64 x1)] h nx =
    let h1 := AHeap.put h nx (some ⟨[(.int .i64 x0)], 1, true⟩)
    let h2 := AHeap.put h1 (nx + 1) (some ⟨[(.int .i64 x1)], 1, true⟩)
    some ((.fn 29 [] [(.ptr (some ((nx + 1), 0))), (.ptr (some (nx, 0)))]), h2, (nx + 5)) := F19_eq' go1 n Y x0 x1 h nx

noncomputable def c20 : Code := (Try.f20.body).getD .skip

noncomputable def r20 : List ResultVar := Try.f20.results.toList

noncomputable def F20_L1' (W J : StepF (AV × AHeap × Nat) → StepF (AV × AHeap × Nat)) (call : YldF → CallF) (Y : YldF) (lf : Nat) (n0 : Nat) (x1a : Option (Nat × Nat)) (x1n : Nat) (x1c : Bool) (x2a : Option (Nat × Nat)) (x2n : Nat) (x2c : Bool) (x3 : Option (Nat × Nat)) (x7a : Option (Nat × Nat)) (x7n : Nat) (x7c : Bool) (x8 : Int) (h : AHeap) (nx : Nat) : Option (AV × AHeap × Nat) :=
  goK W J drawK (machOf Try.prog) call Y (keepT 20) lf c20 [1, 1, 0, 1, 0, 9] [n0] (retK (machOf Try.prog) ⟨c20, 104, r20, keepT 20⟩) ⟨104, mkL [(1, (.slice x1a x1n x1c)), (2, (.slice x2a x2n x2c)), (3, (.ptr x3)), (7, (.slice x7a x7n x7c)), (8, (.int .i64 x8))]⟩ h nx

noncomputable def F20_L1 (call : YldF → CallF) (Y : YldF) (lf : Nat) (n0 : Nat) (x1a : Option (Nat × Nat)) (x1n : Nat) (x1c : Bool) (x2a : Option (Nat × Nat)) (x2n : Nat) (x2c : Bool) (x3 : Option (Nat × Nat)) (x7a : Option (Nat × Nat)) (x7n : Nat) (x7c : Bool) (x8 : Int) (h : AHeap) (nx : Nat) : Option (AV × AHeap × Nat) := F20_L1' go1 go1 call Y lf n0 x1a x1n x1c x2a x2n x2c x3 x7a x7n x7c x8 h nx

noncomputable def F20_L2' (W J : StepF (AV × AHeap × Nat) → StepF (AV × AHeap × Nat)) (call : YldF → CallF) (Y : YldF) (lf : Nat) (n0 : Nat) (x1a : Option (Nat × Nat)) (x1n : Nat) (x1c : Bool) (x2a : Option (Nat × Nat)) (x2n : Nat) (x2c : Bool) (x3 : Option (Nat × Nat)) (x7a : Option (Nat × Nat)) (x7n : Nat) (x7c : Bool) (x39 : Int) (x40 : Int) (h : AHeap) (nx : Nat) : Option (AV × AHeap × Nat) :=
  goK W J drawK (machOf Try.prog) call Y (keepT 20) lf c20 [1, 1, 1, 0, 1, 0, 9] [n0] (retK (machOf Try.prog) ⟨c20, 104, r20, keepT 20⟩) ⟨104, mkL [(1, (.slice x1a x1n x1c)), (2, (.slice x2a x2n x2c)), (3, (.ptr x3)), (7, (.slice x7a x7n x7c)), (39, (.int .i64 x39)), (40, (.int .i64 x40))]⟩ h nx

noncomputable def F20_L2 (call : YldF → CallF) (Y : YldF) (lf : Nat) (n0 : Nat) (x1a : Option (Nat × Nat)) (x1n : Nat) (x1c : Bool) (x2a : Option (Nat × Nat)) (x2n : Nat) (x2c : Bool) (x3 : Option (Nat × Nat)) (x7a : Option (Nat × Nat)) (x7n : Nat) (x7c : Bool) (x39 : Int) (x40 : Int) (h : AHeap) (nx : Nat) : Option (AV × AHeap × Nat) := F20_L2' go1 go1 call Y lf n0 x1a x1n x1c x2a x2n x2c x3 x7a x7n x7c x39 x40 h nx

noncomputable def F20_L3' (W J : StepF (AV × AHeap × Nat) → StepF (AV × AHeap × Nat)) (call : YldF → CallF) (Y : YldF) (lf : Nat) (n0 : Nat) (x1a : Option (Nat × Nat)) (x1n : Nat) (x1c : Bool) (x3 : Option (Nat × Nat)) (x7a : Option (Nat × Nat)) (x7n : Nat) (x7c : Bool) (x10a : Option (Nat × Nat)) (x10n : Nat) (x10c : Bool) (x54a : Option (Nat × Nat)) (x54n : Nat) (x54c : Bool) (x55 : Int) (x56 : Int) (h : AHeap) (nx : Nat) : Option (AV × AHeap × Nat) :=
  goK W J drawK (machOf Try.prog) call Y (keepT 20) lf c20 [1, 1, 1, 1, 1, 0, 1, 0, 9] [n0] (retK (machOf Try.prog) ⟨c20, 104, r20, keepT 20⟩) ⟨104, mkL [(1, (.slice x1a x1n x1c)), (3, (.ptr x3)), (7, (.slice x7a x7n x7c)), (10, (.slice x10a x10n x10c)), (54, (.slice x54a x54n x54c)), (55, (.int .i64 x55)), (56, (.int .i64 x56))]⟩ h nx

noncomputable def F20_L3 (call : YldF → CallF) (Y : YldF) (lf : Nat) (n0 : Nat) (x1a : Option (Nat × Nat)) (x1n : Nat) (x1c : Bool) (x3 : Option (Nat × Nat)) (x7a : Option (Nat × Nat)) (x7n : Nat) (x7c : Bool) (x10a : Option (Nat × Nat)) (x10n : Nat) (x10c : Bool) (x54a : Option (Nat × Nat)) (x54n : Nat) (x54c : Bool) (x55 : Int) (x56 : Int) (h : AHeap) (nx : Nat) : Option (AV × AHeap × Nat) := F20_L3' go1 go1 call Y lf n0 x1a x1n x1c x3 x7a x7n x7c x10a x10n x10c x54a x54n x54c x55 x56 h nx

noncomputable def F20_L4' (W J : StepF (AV × AHeap × Nat) → StepF (AV × AHeap × Nat)) (call : YldF → CallF) (Y : YldF) (lf : Nat) (n0 : Nat) (x1a : Option (Nat × Nat)) (x1n : Nat) (x1c : Bool) (x3 : Option (Nat × Nat)) (x13a : Option (Nat × Nat)) (x13n : Nat) (x13c : Bool) (x15a : Option (Nat × Nat)) (x15n : Nat) (x15c : Bool) (x16 : Int) (h : AHeap) (nx : Nat) : Option (AV × AHeap × Nat) :=
  goK W J drawK (machOf Try.prog) call Y (keepT 20) lf c20 [1, 1, 1, 1, 1, 1, 1, 1, 0, 1, 0, 9] [n0] (retK (machOf Try.prog) ⟨c20, 104, r20, keepT 20⟩) ⟨104, mkL [(1, (.slice x1a x1n x1c)), (3, (.ptr x3)), (13, (.slice x13a x13n x13c)), (15, (.slice x15a x15n x15c)), (16, (.int .i64 x16))]⟩ h nx

noncomputable def F20_L4 (call : YldF → CallF) (Y : YldF) (lf : Nat) (n0 : Nat) (x1a : Option (Nat × Nat)) (x1n : Nat) (x1c : Bool) (x3 : Option (Nat × Nat)) (x13a : Option (Nat × Nat)) (x13n : Nat) (x13c : Bool) (x15a : Option (Nat × Nat)) (x15n : Nat) (x15c : Bool) (x16 : Int) (h : AHeap) (nx : Nat) : Option (AV × AHeap × Nat) := F20_L4' go1 go1 call Y lf n0 x1a x1n x1c x3 x13a x13n x13c x15a x15n x15c x16 h nx

theorem F20_L1_eq' (J : StepF (AV × AHeap × Nat) → StepF (AV × AHeap × Nat)) (call : YldF → CallF) (Y : YldF) (lf : Nat) (n0 : Nat) (x1a : Option (Nat × Nat)) (x1n : Nat) (x1c : Bool) (x2a : Option (Nat × Nat)) (x2n : Nat) (x2c : Bool) (x3 : Option (Nat × Nat)) (x7a : Option (Nat × Nat)) (x7n : Nat) (x7c : Bool) (x8 : Int) (h : AHeap) (nx : Nat) : F20_L1' go1 J call Y lf (n0 + 1) x1a x1n x1c x2a x2n x2c x3 x7a x7n x7c x8 h nx =
    if (decide ((x8 : Int) < ((x1n : Nat) : Int))) = true then
    ((x3).bind fun p1 =>
    (ldR h p1.1 p1.2 3).bind fun l2 =>
    (asAgg 3 (AV.agg l2)).bind fun d3 =>
    (asSl (d3.getD 0 .bad)).bind fun s4 =>
    (asI .i64 (d3.getD 1 .bad)).bind fun n5 =>
    (asI .i64 (d3.getD 2 .bad)).bind fun n6 =>
    (x1a).bind fun p7 =>
    if 0 ≤ (x8 : Int) ∧ x8 < ((x1n : Nat) : Int) then
    ((ldA h p7.1 ((p7.2 + Int.toNat x8 * 2) + 1)).bind fun v8 =>
    (asSl v8).bind fun s9 =>
    (call Y 25 [(.agg [(.slice s4.1 s4.2.1 s4.2.2), (.int .i64 n5), (.int .i64 n6)]), (.slice s9.1 s9.2.1 s9.2.2)] h (nx + 15)).bind fun r10 =>
    (asSl r10.1).bind fun s11 =>
    let h12 := AHeap.put r10.2.1 (nx + 12) (some ⟨[(.slice s11.1 s11.2.1 s11.2.2)], 1, true⟩)
    (srcS h12 (some ((nx + 12), 0)) 1 1).bind fun q13 =>
    (appD h12 x7a x7n x7c 1 24 (nx + 13) q13).bind fun e14 =>
    let h15 := AHeap.puts h12 e14.sets
    F20_L1' J J call Y lf n0 x1a x1n x1c x2a x2n x2c x3 e14.a e14.n e14.c (wrapA .i64 (x8 + 1)) h15 (r10.2.2 + 3))
    else none)
    else
    ((x3).bind fun p16 =>
    (ldA h p16.1 (p16.2 + 1)).bind fun v17 =>
    (asI .i64 v17).bind fun n18 =>
    F20_L2' J J call Y lf lf x1a x1n x1c x2a x2n x2c x3 x7a x7n x7c n18 0 h (nx + 7)) := by kernel_rfl

theorem F20_L1_eq (call : YldF → CallF) (Y : YldF) (lf : Nat) (n0 : Nat) (x1a : Option (Nat × Nat)) (x1n : Nat) (x1c : Bool) (x2a : Option (Nat × Nat)) (x2n : Nat) (x2c : Bool) (x3 : Option (Nat × Nat)) (x7a : Option (Nat × Nat)) (x7n : Nat) (x7c : Bool) (x8 : Int) (h : AHeap) (nx : Nat) : F20_L1 call Y lf (n0 + 1) x1a x1n x1c x2a x2n x2c x3 x7a x7n x7c x8 h nx =
    if (decide ((x8 : Int) < ((x1n : Nat) : Int))) = true then
    ((x3).bind fun p1 =>
    (ldR h p1.1 p1.2 3).bind fun l2 =>
    (asAgg 3 (AV.agg l2)).bind fun d3 =>
    (asSl (d3.getD 0 .bad)).bind fun s4 =>
    (asI .i64 (d3.getD 1 .bad)).bind fun n5 =>
    (asI .i64 (d3.getD 2 .bad)).bind fun n6 =>
    (x1a).bind fun p7 =>
    if 0 ≤ (x8 : Int) ∧ x8 < ((x1n : Nat) : Int) then
    ((ldA h p7.1 ((p7.2 + Int.toNat x8 * 2) + 1)).bind fun v8 =>
    (asSl v8).bind fun s9 =>
    (call Y 25 [(.agg [(.slice s4.1 s4.2.1 s4.2.2), (.int .i64 n5), (.int .i64 n6)]), (.slice s9.1 s9.2.1 s9.2.2)] h (nx + 15)).bind fun r10 =>
    (asSl r10.1).bind fun s11 =>
    let h12 := AHeap.put r10.2.1 (nx + 12) (some ⟨[(.slice s11.1 s11.2.1 s11.2.2)], 1, true⟩)
    (srcS h12 (some ((nx + 12), 0)) 1 1).bind fun q13 =>
    (appD h12 x7a x7n x7c 1 24 (nx + 13) q13).bind fun e14 =>
    let h15 := AHeap.puts h12 e14.sets
    F20_L1 call Y lf n0 x1a x1n x1c x2a x2n x2c x3 e14.a e14.n e14.c (wrapA .i64 (x8 + 1)) h15 (r10.2.2 + 3))
    else none)
    else
    ((x3).bind fun p16 =>
    (ldA h p16.1 (p16.2 + 1)).bind fun v17 =>
    (asI .i64 v17).bind fun n18 =>
    F20_L2 call Y lf lf x1a x1n x1c x2a x2n x2c x3 x7a x7n x7c n18 0 h (nx + 7)) := F20_L1_eq' go1 call Y lf n0 x1a x1n x1c x2a x2n x2c x3 x7a x7n x7c x8 h nx

theorem F20_L1_zero (call : YldF → CallF) (Y : YldF) (lf : Nat) (x1a : Option (Nat × Nat)) (x1n : Nat) (x1c : Bool) (x2a : Option (Nat × Nat)) (x2n : Nat) (x2c : Bool) (x3 : Option (Nat × Nat)) (x7a : Option (Nat × Nat)) (x7n : Nat) (x7c : Bool) (x8 : Int) (h : AHeap) (nx : Nat) : F20_L1 call Y lf 0 x1a x1n x1c x2a x2n x2c x3 x7a x7n x7c x8 h nx = none := by kernel_rfl

theorem F20_L2_eq' (J : StepF (AV × AHeap × Nat) → StepF (AV × AHeap × Nat)) (call : YldF → CallF) (Y : YldF) (lf : Nat) (n0 : Nat) (x1a : Option (Nat × Nat)) (x1n : Nat) (x1c : Bool) (x2a : Option (Nat × Nat)) (x2n : Nat) (x2c : Bool) (x3 : Option (Nat × Nat)) (x7a : Option (Nat × Nat)) (x7n : Nat) (x7c : Bool) (x39 : Int) (x40 : Int) (h : AHeap) (nx : Nat) : F20_L2' go1 J call Y lf (n0 + 1) x1a x1n x1c x2a x2n x2c x3 x7a x7n x7c x39 x40 h nx =
    if (decide ((x40 : Int) < x39)) = true then
    ((x3).bind fun p1 =>
    (ldR h p1.1 p1.2 3).bind fun l2 =>
    (asAgg 3 (AV.agg l2)).bind fun d3 =>
    (asSl (d3.getD 0 .bad)).bind fun s4 =>
    (asI .i64 (d3.getD 1 .bad)).bind fun n5 =>
    (asI .i64 (d3.getD 2 .bad)).bind fun n6 =>
    (x1a).bind fun p7 =>
    if 0 ≤ (x40 : Int) ∧ x40 < ((x1n : Nat) : Int) then
    ((ldA h p7.1 ((p7.2 + Int.toNat x40 * 2) + 1)).bind fun v8 =>
    (asSl v8).bind fun s9 =>
    (call Y 25 [(.agg [(.slice s4.1 s4.2.1 s4.2.2), (.int .i64 n5), (.int .i64 n6)]), (.slice s9.1 s9.2.1 s9.2.2)] h (nx + 14)).bind fun r10 =>
    (asSl r10.1).bind fun s11 =>
    let h12 := AHeap.put r10.2.1 (nx + 11) (some ⟨[(.slice s11.1 s11.2.1 s11.2.2)], 1, true⟩)
    (srcS h12 (some ((nx + 11), 0)) 1 1).bind fun q13 =>
    (appD h12 x7a x7n x7c 1 24 (nx + 12) q13).bind fun e14 =>
    let h15 := AHeap.puts h12 e14.sets
    F20_L2' J J call Y lf n0 x1a x1n x1c x2a x2n x2c x3 e14.a e14.n e14.c x39 (wrapA .i64 (x40 + 1)) h15 (r10.2.2 + 2))
    else none)
    else
    (F20_L3' J J call Y lf lf x1a x1n x1c x3 x7a x7n x7c none 0 false x2a x2n x2c ((x2n : Nat) : Int) 0 h (nx + 5)) := by kernel_rfl

theorem F20_L2_eq (call : YldF → CallF) (Y : YldF) (lf : Nat) (n0 : Nat) (x1a : Option (Nat × Nat)) (x1n : Nat) (x1c : Bool) (x2a : Option (Nat × Nat)) (x2n : Nat) (x2c : Bool) (x3 : Option (Nat × Nat)) (x7a : Option (Nat × Nat)) (x7n : Nat) (x7c : Bool) (x39 : Int) (x40 : Int) (h : AHeap) (nx : Nat) : F20_L2 call Y lf (n0 + 1) x1a x1n x1c x2a x2n x2c x3 x7a x7n x7c x39 x40 h nx =
    if (decide ((x40 : Int) < x39)) = true then
    ((x3).bind fun p1 =>
    (ldR h p1.1 p1.2 3).bind fun l2 =>
    (asAgg 3 (AV.agg l2)).bind fun d3 =>
    (asSl (d3.getD 0 .bad)).bind fun s4 =>
    (asI .i64 (d3.getD 1 .bad)).bind fun n5 =>
    (asI .i64 (d3.getD 2 .bad)).bind fun n6 =>
    (x1a).bind fun p7 =>
    if 0 ≤ (x40 : Int) ∧ x40 < ((x1n : Nat) : Int) then
    ((ldA h p7.1 ((p7.2 + Int.toNat x40 * 2) + 1)).bind fun v8 =>
    (asSl v8).bind fun s9 =>
    (call Y 25 [(.agg [(.slice s4.1 s4.2.1 s4.2.2), (.int .i64 n5), (.int .i64 n6)]), (.slice s9.1 s9.2.1 s9.2.2)] h (nx + 14)).bind fun r10 =>
    (asSl r10.1).bind fun s11 =>
    let h12 := AHeap.put r10.2.1 (nx + 11) (some ⟨[(.slice s11.1 s11.2.1 s11.2.2)], 1, true⟩)
    (srcS h12 (some ((nx + 11), 0)) 1 1).bind fun q13 =>
    (appD h12 x7a x7n x7c 1 24 (nx + 12) q13).bind fun e14 =>
    let h15 := AHeap.puts h12 e14.sets
    F20_L2 call Y lf n0 x1a x1n x1c x2a x2n x2c x3 e14.a e14.n e14.c x39 (wrapA .i64 (x40 + 1)) h15 (r10.2.2 + 2))
    else none)
    else
    (F20_L3 call Y lf lf x1a x1n x1c x3 x7a x7n x7c none 0 false x2a x2n x2c ((x2n : Nat) : Int) 0 h (nx + 5)) := F20_L2_eq' go1 call Y lf n0 x1a x1n x1c x2a x2n x2c x3 x7a x7n x7c x39 x40 h nx

theorem F20_L2_zero (call : YldF → CallF) (Y : YldF) (lf : Nat) (x1a : Option (Nat × Nat)) (x1n : Nat) (x1c : Bool) (x2a : Option (Nat × Nat)) (x2n : Nat) (x2c : Bool) (x3 : Option (Nat × Nat)) (x7a : Option (Nat × Nat)) (x7n : Nat) (x7c : Bool) (x39 : Int) (x40 : Int) (h : AHeap) (nx : Nat) : F20_L2 call Y lf 0 x1a x1n x1c x2a x2n x2c x3 x7a x7n x7c x39 x40 h nx = none := by kernel_rfl

theorem F20_L3_eq' (J : StepF (AV × AHeap × Nat) → StepF (AV × AHeap × Nat)) (call : YldF → CallF) (Y : YldF) (lf : Nat) (n0 : Nat) (x1a : Option (Nat × Nat)) (x1n : Nat) (x1c : Bool) (x3 : Option (Nat × Nat)) (x7a : Option (Nat × Nat)) (x7n : Nat) (x7c : Bool) (x10a : Option (Nat × Nat)) (x10n : Nat) (x10c : Bool) (x54a : Option (Nat × Nat)) (x54n : Nat) (x54c : Bool) (x55 : Int) (x56 : Int) (h : AHeap) (nx : Nat) : F20_L3' go1 J call Y lf (n0 + 1) x1a x1n x1c x3 x7a x7n x7c x10a x10n x10c x54a x54n x54c x55 x56 h nx =
    if (decide ((x56 : Int) < x55)) = true then
    ((x54a).bind fun p1 =>
    if 0 ≤ (x56 : Int) ∧ x56 < ((x54n : Nat) : Int) then
    ((ldA h p1.1 (p1.2 + Int.toNat x56 * 1)).bind fun v2 =>
    (asI .i64 v2).bind fun n3 =>
    (x3).bind fun p4 =>
    (ldA h p4.1 (p4.2 + 1)).bind fun v5 =>
    (asI .i64 v5).bind fun n6 =>
    if (((x1n : Nat) : Int) : Int) = 0 then none else
    (let h7 := AHeap.put h (nx + 15) (some ⟨[(.int .i64 (Int.tmod (wrapA .i64 ((wrapA .i64 (n3 - n6)) + ((x1n : Nat) : Int))) ((x1n : Nat) : Int)))], 1, true⟩)
    (srcS h7 (some ((nx + 15), 0)) 1 1).bind fun q8 =>
    (appD h7 x10a x10n x10c 1 8 (nx + 16) q8).bind fun e9 =>
    let h10 := AHeap.puts h7 e9.sets
    F20_L3' J J call Y lf n0 x1a x1n x1c x3 x7a x7n x7c e9.a e9.n e9.c x54a x54n x54c x55 (wrapA .i64 (x56 + 1)) h10 (nx + 20)))
    else none)
    else
    ((x3).bind fun p11 =>
    (ldA h p11.1 (p11.2 + 1)).bind fun v12 =>
    (asI .i64 v12).bind fun n13 =>
    (call Y 31 [(.slice x7a x7n x7c), (.int .i64 n13), (.slice x10a x10n x10c)] h (nx + 11)).bind fun r14 =>
    (asTup 2 r14.1).bind fun d15 =>
    (asSl (d15.getD 0 .bad)).bind fun s16 =>
    (asI .i64 (d15.getD 1 .bad)).bind fun n17 =>
    (x3).bind fun p18 =>
    (ldA r14.2.1 p18.1 (p18.2 + 1)).bind fun v19 =>
    (asI .i64 v19).bind fun n20 =>
    F20_L4' J J call Y lf lf x1a x1n x1c x3 s16.1 s16.2.1 s16.2.2 none 0 false n20 r14.2.1 (r14.2.2 + 4)) := by kernel_rfl

theorem F20_L3_eq (call : YldF → CallF) (Y : YldF) (lf : Nat) (n0 : Nat) (x1a : Option (Nat × Nat)) (x1n : Nat) (x1c : Bool) (x3 : Option (Nat × Nat)) (x7a : Option (Nat × Nat)) (x7n : Nat) (x7c : Bool) (x10a : Option (Nat × Nat)) (x10n : Nat) (x10c : Bool) (x54a : Option (Nat × Nat)) (x54n : Nat) (x54c : Bool) (x55 : Int) (x56 : Int) (h : AHeap) (nx : Nat) : F20_L3 call Y lf (n0 + 1) x1a x1n x1c x3 x7a x7n x7c x10a x10n x10c x54a x54n x54c x55 x56 h nx =
    if (decide ((x56 : Int) < x55)) = true then
    ((x54a).bind fun p1 =>
    if 0 ≤ (x56 : Int) ∧ x56 < ((x54n : Nat) : Int) then
    ((ldA h p1.1 (p1.2 + Int.toNat x56 * 1)).bind fun v2 =>
    (asI .i64 v2).bind fun n3 =>
    (x3).bind fun p4 =>
    (ldA h p4.1 (p4.2 + 1)).bind fun v5 =>
    (asI .i64 v5).bind fun n6 =>
    if (((x1n : Nat) : Int) : Int) = 0 then none else
    (let h7 := AHeap.put h (nx + 15) (some ⟨[(.int .i64 (Int.tmod (wrapA .i64 ((wrapA .i64 (n3 - n6)) + ((x1n : Nat) : Int))) ((x1n : Nat) : Int)))], 1, true⟩)
    (srcS h7 (some ((nx + 15), 0)) 1 1).bind fun q8 =>
    (appD h7 x10a x10n x10c 1 8 (nx + 16) q8).bind fun e9 =>
    let h10 := AHeap.puts h7 e9.sets
    F20_L3 call Y lf n0 x1a x1n x1c x3 x7a x7n x7c e9.a e9.n e9.c x54a x54n x54c x55 (wrapA .i64 (x56 + 1)) h10 (nx + 20)))
    else none)
    else
    ((x3).bind fun p11 =>
    (ldA h p11.1 (p11.2 + 1)).bind fun v12 =>
    (asI .i64 v12).bind fun n13 =>
    (call Y 31 [(.slice x7a x7n x7c), (.int .i64 n13), (.slice x10a x10n x10c)] h (nx + 11)).bind fun r14 =>
    (asTup 2 r14.1).bind fun d15 =>
    (asSl (d15.getD 0 .bad)).bind fun s16 =>
    (asI .i64 (d15.getD 1 .bad)).bind fun n17 =>
    (x3).bind fun p18 =>
    (ldA r14.2.1 p18.1 (p18.2 + 1)).bind fun v19 =>
    (asI .i64 v19).bind fun n20 =>
    F20_L4 call Y lf lf x1a x1n x1c x3 s16.1 s16.2.1 s16.2.2 none 0 false n20 r14.2.1 (r14.2.2 + 4)) := F20_L3_eq' go1 call Y lf n0 x1a x1n x1c x3 x7a x7n x7c x10a x10n x10c x54a x54n x54c x55 x56 h nx

theorem F20_L3_zero (call : YldF → CallF) (Y : YldF) (lf : Nat) (x1a : Option (Nat × Nat)) (x1n : Nat) (x1c : Bool) (x3 : Option (Nat × Nat)) (x7a : Option (Nat × Nat)) (x7n : Nat) (x7c : Bool) (x10a : Option (Nat × Nat)) (x10n : Nat) (x10c : Bool) (x54a : Option (Nat × Nat)) (x54n : Nat) (x54c : Bool) (x55 : Int) (x56 : Int) (h : AHeap) (nx : Nat) : F20_L3 call Y lf 0 x1a x1n x1c x3 x7a x7n x7c x10a x10n x10c x54a x54n x54c x55 x56 h nx = none := by kernel_rfl

theorem F20_L4_eq' (J : StepF (AV × AHeap × Nat) → StepF (AV × AHeap × Nat)) (call : YldF → CallF) (Y : YldF) (lf : Nat) (n0 : Nat) (x1a : Option (Nat × Nat)) (x1n : Nat) (x1c : Bool) (x3 : Option (Nat × Nat)) (x13a : Option (Nat × Nat)) (x13n : Nat) (x13c : Bool) (x15a : Option (Nat × Nat)) (x15n : Nat) (x15c : Bool) (x16 : Int) (h : AHeap) (nx : Nat) : F20_L4' go1 J call Y lf (n0 + 1) x1a x1n x1c x3 x13a x13n x13c x15a x15n x15c x16 h nx =
    if (decide ((x16 : Int) < ((x1n : Nat) : Int))) = true then
    ((x3).bind fun p1 =>
    (ldA h p1.1 (p1.2 + 1)).bind fun v2 =>
    (asI .i64 v2).bind fun n3 =>
    (x13a).bind fun p4 =>
    if 0 ≤ ((wrapA .i64 (x16 - n3)) : Int) ∧ (wrapA .i64 (x16 - n3)) < ((x13n : Nat) : Int) then
    ((ldA h p4.1 (p4.2 + Int.toNat (wrapA .i64 (x16 - n3)) * 1)).bind fun v5 =>
    (asSl v5).bind fun s6 =>
    (x3).bind fun p7 =>
    (ldR h p7.1 p7.2 3).bind fun l8 =>
    (asAgg 3 (AV.agg l8)).bind fun d9 =>
    (asSl (d9.getD 0 .bad)).bind fun s10 =>
    (asI .i64 (d9.getD 1 .bad)).bind fun n11 =>
    (asI .i64 (d9.getD 2 .bad)).bind fun n12 =>
    (call Y 18 [(.agg [(.slice s10.1 s10.2.1 s10.2.2), (.int .i64 n11), (.int .i64 n12)]), (.int .i64 x16)] h (nx + 18)).bind fun r13 =>
    (asI .i64 r13.1).bind fun n14 =>
    (cutA r13.2.1 s6.1 s6.2.1 s6.2.2 1 none (some (.int .i64 n14)) none).bind fun s15 =>
    (srcS r13.2.1 s15.1 s15.2.1 1).bind fun q16 =>
    (appD r13.2.1 x15a x15n x15c 1 1 (nx + 16) q16).bind fun e17 =>
    let h18 := AHeap.puts r13.2.1 e17.sets
    ifKept [(h, r13.2.1, [p1.1]), (h, r13.2.1, [p4.1])]
    (F20_L4' J J call Y lf n0 x1a x1n x1c x3 x13a x13n x13c e17.a e17.n e17.c (wrapA .i64 (x16 + 1)) h18 (r13.2.2 + 3)))
    else none)
    else
    (some ((.slice x15a x15n x15c), h, (nx + 6))) := by kernel_rfl

theorem F20_L4_eq (call : YldF → CallF) (Y : YldF) (lf : Nat) (n0 : Nat) (x1a : Option (Nat × Nat)) (x1n : Nat) (x1c : Bool) (x3 : Option (Nat × Nat)) (x13a : Option (Nat × Nat)) (x13n : Nat) (x13c : Bool) (x15a : Option (Nat × Nat)) (x15n : Nat) (x15c : Bool) (x16 : Int) (h : AHeap) (nx : Nat) : F20_L4 call Y lf (n0 + 1) x1a x1n x1c x3 x13a x13n x13c x15a x15n x15c x16 h nx =
    if (decide ((x16 : Int) < ((x1n : Nat) : Int))) = true then
    ((x3).bind fun p1 =>
    (ldA h p1.1 (p1.2 + 1)).bind fun v2 =>
    (asI .i64 v2).bind fun n3 =>
    (x13a).bind fun p4 =>
    if 0 ≤ ((wrapA .i64 (x16 - n3)) : Int) ∧ (wrapA .i64 (x16 - n3)) < ((x13n : Nat) : Int) then
    ((ldA h p4.1 (p4.2 + Int.toNat (wrapA .i64 (x16 - n3)) * 1)).bind fun v5 =>
    (asSl v5).bind fun s6 =>
    (x3).bind fun p7 =>
    (ldR h p7.1 p7.2 3).bind fun l8 =>
    (asAgg 3 (AV.agg l8)).bind fun d9 =>
    (asSl (d9.getD 0 .bad)).bind fun s10 =>
    (asI .i64 (d9.getD 1 .bad)).bind fun n11 =>
    (asI .i64 (d9.getD 2 .bad)).bind fun n12 =>
    (call Y 18 [(.agg [(.slice s10.1 s10.2.1 s10.2.2), (.int .i64 n11), (.int .i64 n12)]), (.int .i64 x16)] h (nx + 18)).bind fun r13 =>
    (asI .i64 r13.1).bind fun n14 =>
    (cutA r13.2.1 s6.1 s6.2.1 s6.2.2 1 none (some (.int .i64 n14)) none).bind fun s15 =>
    (srcS r13.2.1 s15.1 s15.2.1 1).bind fun q16 =>
    (appD r13.2.1 x15a x15n x15c 1 1 (nx + 16) q16).bind fun e17 =>
    let h18 := AHeap.puts r13.2.1 e17.sets
    ifKept [(h, r13.2.1, [p1.1]), (h, r13.2.1, [p4.1])]
    (F20_L4 call Y lf n0 x1a x1n x1c x3 x13a x13n x13c e17.a e17.n e17.c (wrapA .i64 (x16 + 1)) h18 (r13.2.2 + 3)))
    else none)
    else
    (some ((.slice x15a x15n x15c), h, (nx + 6))) := F20_L4_eq' go1 call Y lf n0 x1a x1n x1c x3 x13a x13n x13c x15a x15n x15c x16 h nx

theorem F20_L4_zero (call : YldF → CallF) (Y : YldF) (lf : Nat) (x1a : Option (Nat × Nat)) (x1n : Nat) (x1c : Bool) (x3 : Option (Nat × Nat)) (x13a : Option (Nat × Nat)) (x13n : Nat) (x13c : Bool) (x15a : Option (Nat × Nat)) (x15n : Nat) (x15c : Bool) (x16 : Int) (h : AHeap) (nx : Nat) : F20_L4 call Y lf 0 x1a x1n x1c x3 x13a x13n x13c x15a x15n x15c x16 h nx = none := by kernel_rfl

theorem F20_eq' (J : StepF (AV × AHeap × Nat) → StepF (AV × AHeap × Nat)) (n : Nat) (Y : YldF) (x0_0a : Option (Nat × Nat)) (x0_0n : Nat) (x0_0c : Bool) (x0_1 : Int) (x0_2 : Int) (x1a : Option (Nat × Nat)) (x1n : Nat) (x1c : Bool) (x2a : Option (Nat × Nat)) (x2n : Nat) (x2c : Bool) (h : AHeap) (nx : Nat) : rootJ J Try.prog keepT (callP Try.prog keepT n) Y n 20 [(.agg [(.slice x0_0a x0_0n x0_0c), (.int .i64 x0_1), (.int .i64 x0_2)]), (.slice x1a x1n x1c), (.slice x2a x2n x2c)] h nx =
    let h1 := AHeap.put h nx (some ⟨[(.slice x0_0a x0_0n x0_0c), (.int .i64 x0_1), (.int .i64 x0_2)], 3, true⟩)
    if (decide (0 ≤ (0 : Int)) && decide ((0 : Int) ≤ ((x1n : Nat) : Int)) && decide (((24 : Nat) : Int) * ((x1n : Nat) : Int) ≤ 281474976710656) && decide ((((x1n : Nat) : Int) : Int) ≤ 9223372036854775807) && 1 != 0) = true then
    (let h2 := AHeap.put h1 (nx + 4) (some ⟨(madeA [(.slice none 0 false)] (Int.toNat 0 * 1)), 1, true⟩)
    (ldA h2 nx 1).bind fun v3 =>
    (asI .i64 v3).bind fun n4 =>
    F20_L1' J J (callP Try.prog keepT n) Y n n x1a x1n x1c x2a x2n x2c (some (nx, 0)) (some ((nx + 4), 0)) (Int.toNat 0) (0 == ((x1n : Nat) : Int)) n4 h2 (nx + 9))
    else none := by kernel_rfl

/-- (quickset/stripe.block).data -/
theorem F20_eq (n : Nat) (Y : YldF) (x0_0a : Option (Nat × Nat)) (x0_0n : Nat) (x0_0c : Bool) (x0_1 : Int) (x0_2 : Int) (x1a : Option (Nat × Nat)) (x1n : Nat) (x1c : Bool) (x2a : Option (Nat × Nat)) (x2n : Nat) (x2c : Bool) (h : AHeap) (nx : Nat) : callP Try.prog keepT (n + 1) Y 20 [(.agg [(.slice x0_0a x0_0n x0_0c), (.int .i64 x0_1), (.int .i64 x0_2)]), (.slice x1a x1n x1c), (.slice x2a x2n x2c)] h nx =
    let h1 := AHeap.put h nx (some ⟨[(.slice x0_0a x0_0n x0_0c), (.int .i64 x0_1), (.int .i64 x0_2)], 3, true⟩)
    if (decide (0 ≤ (0 : Int)) && decide ((0 : Int) ≤ ((x1n : Nat) : Int)) && decide (((24 : Nat) : Int) * ((x1n : Nat) : Int) ≤ 281474976710656) && decide ((((x1n : Nat) : Int) : Int) ≤ 9223372036854775807) && 1 != 0) = true then
    (let h2 := AHeap.put h1 (nx + 4) (some ⟨(madeA [(.slice none 0 false)] (Int.toNat 0 * 1)), 1, true⟩)
    (ldA h2 nx 1).bind fun v3 =>
    (asI .i64 v3).bind fun n4 =>
    F20_L1 (callP Try.prog keepT n) Y n n x1a x1n x1c x2a x2n x2c (some (nx, 0)) (some ((nx + 4), 0)) (Int.toNat 0) (0 == ((x1n : Nat) : Int)) n4 h2 (nx + 9))
    else none := F20_eq' go1 n Y x0_0a x0_0n x0_0c x0_1 x0_2 x1a x1n x1c x2a x2n x2c h nx

noncomputable def c21 : Code := (Try.f21.body).getD .skip

noncomputable def r21 : List ResultVar := Try.f21.results.toList

theorem F21_eq' (J : StepF (AV × AHeap × Nat) → StepF (AV × AHeap × Nat)) (n : Nat) (Y : YldF) (x0a : Option (Nat × Nat)) (x0n : Nat) (x0c : Bool) (h : AHeap) (nx : Nat) : rootJ J Try.prog keepT (callP Try.prog keepT n) Y n 21 [(.slice x0a x0n x0c)] h nx =
    if (Option.isNone x0a) = true then
    (some ((.slice none 0 false), h, (nx + 4)))
    else
    (let h1 := AHeap.put h (nx + 3) (some ⟨[], 1, true⟩)
    (srcS h1 x0a x0n 1).bind fun q2 =>
    (appD h1 (some ((nx + 3), 0)) 0 true 1 8 (nx + 5) q2).bind fun e3 =>
    let h4 := AHeap.puts h1 e3.sets
    some ((.slice e3.a e3.n e3.c), h4, (nx + 7))) := by kernel_rfl

/-- slices.Clone[[]int,int] -/
theorem F21_eq (n : Nat) (Y : YldF) (x0a : Option (Nat × Nat)) (x0n : Nat) (x0c : Bool) (h : AHeap) (nx : Nat) : callP Try.prog keepT (n + 1) Y 21 [(.slice x0a x0n x0c)] h nx =
    if (Option.isNone x0a) = true then
    (some ((.slice none 0 false), h, (nx + 4)))
    else
    (let h1 := AHeap.put h (nx + 3) (some ⟨[], 1, true⟩)
    (srcS h1 x0a x0n 1).bind fun q2 =>
    (appD h1 (some ((nx + 3), 0)) 0 true 1 8 (nx + 5) q2).bind fun e3 =>
    let h4 := AHeap.puts h1 e3.sets
    some ((.slice e3.a e3.n e3.c), h4, (nx + 7))) := F21_eq' go1 n Y x0a x0n x0c h nx

noncomputable def c22 : Code := (Try.f22.body).getD .skip

noncomputable def r22 : List ResultVar := Try.f22.results.toList

noncomputable def F22_L1' (W J : StepF (AV × AHeap × Nat) → StepF (AV × AHeap × Nat)) (call : YldF → CallF) (Y : YldF) (lf : Nat) (n0 : Nat) (x1a : Option (Nat × Nat)) (x1n : Nat) (x1c : Bool) (x4 : Option (Nat × Nat)) (x6 : Option (Nat × Nat)) (h : AHeap) (nx : Nat) : Option (AV × AHeap × Nat) :=
  goK W J drawK (machOf Try.prog) call Y (keepT 22) lf c22 [1, 1, 1, 0, 0, 9] [n0] (retK (machOf Try.prog) ⟨c22, 45, r22, keepT 22⟩) ⟨45, mkL [(1, (.slice x1a x1n x1c)), (4, (.ptr x4)), (6, (.ptr x6))]⟩ h nx

noncomputable def F22_L1 (call : YldF → CallF) (Y : YldF) (lf : Nat) (n0 : Nat) (x1a : Option (Nat × Nat)) (x1n : Nat) (x1c : Bool) (x4 : Option (Nat × Nat)) (x6 : Option (Nat × Nat)) (h : AHeap) (nx : Nat) : Option (AV × AHeap × Nat) := F22_L1' go1 go1 call Y lf n0 x1a x1n x1c x4 x6 h nx

theorem F22_L1_eq' (J : StepF (AV × AHeap × Nat) → StepF (AV × AHeap × Nat)) (call : YldF → CallF) (Y : YldF) (lf : Nat) (n0 : Nat) (x1a : Option (Nat × Nat)) (x1n : Nat) (x1c : Bool) (x4 : Option (Nat × Nat)) (x6 : Option (Nat × Nat)) (h : AHeap) (nx : Nat) : F22_L1' go1 J call Y lf (n0 + 1) x1a x1n x1c x4 x6 h nx =
    if (decide ((((x1n : Nat) : Int) : Int) > 0)) = true then
    ((x6).bind fun p1 =>
    (ldR h p1.1 p1.2 4).bind fun l2 =>
    (x1a).bind fun p3 =>
    if 0 ≤ (0 : Int) ∧ 0 < ((x1n : Nat) : Int) then
    ((ldA h p3.1 (p3.2 + Int.toNat 0 * 1)).bind fun v4 =>
    (asI .u8 v4).bind fun n5 =>
    (x1a).bind fun p6 =>
    if 0 ≤ (1 : Int) ∧ 1 < ((x1n : Nat) : Int) then
    ((ldA h p6.1 (p6.2 + Int.toNat 1 * 1)).bind fun v7 =>
    (asI .u8 v7).bind fun n8 =>
    (x1a).bind fun p9 =>
    if 0 ≤ (2 : Int) ∧ 2 < ((x1n : Nat) : Int) then
    ((ldA h p9.1 (p9.2 + Int.toNat 2 * 1)).bind fun v10 =>
    (asI .u8 v10).bind fun n11 =>
    (x1a).bind fun p12 =>
    if 0 ≤ (3 : Int) ∧ 3 < ((x1n : Nat) : Int) then
    ((ldA h p12.1 (p12.2 + Int.toNat 3 * 1)).bind fun v13 =>
    (asI .u8 v13).bind fun n14 =>
    (call Y 33 [(.agg l2), (.int .i64 (bits .or .i64 (bits .or .i64 (bits .or .i64 (wrapA .i64 n5) (wrapA .i64 ((wrapA .i64 n8) * (2:Int) ^ min (Int.toNat 8) (IntKind.bits .i64)))) (wrapA .i64 ((wrapA .i64 n11) * (2:Int) ^ min (Int.toNat 16) (IntKind.bits .i64)))) (wrapA .i64 ((wrapA .i64 n14) * (2:Int) ^ min (Int.toNat 24) (IntKind.bits .i64)))))] h (nx + 28)).bind fun r15 =>
    (asRow r15.1).bind fun d16 =>
    (x6).bind fun p17 =>
    (stA r15.2.1 p17.1 p17.2 (.agg d16) 4).bind fun b18 =>
    let h19 := AHeap.put r15.2.1 p17.1 (some b18)
    (cutA h19 x1a x1n x1c 1 (some (.int .i64 4)) none none).bind fun s20 =>
    F22_L1' J J call Y lf n0 s20.1 s20.2.1 s20.2.2 x4 x6 h19 (r15.2.2 + 3))
    else none)
    else none)
    else none)
    else none)
    else
    ((x6).bind fun p21 =>
    (ldR h p21.1 p21.2 4).bind fun l22 =>
    (call Y 34 [(.agg l22)] h (nx + 7)).bind fun r23 =>
    (asAgg 4 r23.1).bind fun d24 =>
    (asI .i64 (d24.getD 0 .bad)).bind fun n25 =>
    (asI .i64 (d24.getD 1 .bad)).bind fun n26 =>
    (asI .i64 (d24.getD 2 .bad)).bind fun n27 =>
    (asI .i64 (d24.getD 3 .bad)).bind fun n28 =>
    (x4).bind fun p29 =>
    (stA r23.2.1 p29.1 p29.2 (.agg [(.int .i64 n25), (.int .i64 n26), (.int .i64 n27), (.int .i64 n28)]) 4).bind fun b30 =>
    let h31 := AHeap.put r23.2.1 p29.1 (some b30)
    (x4).bind fun p32 =>
    (ldR h31 p32.1 p32.2 4).bind fun l33 =>
    (asAgg 4 (AV.agg l33)).bind fun d34 =>
    (asI .i64 (d34.getD 0 .bad)).bind fun n35 =>
    (asI .i64 (d34.getD 1 .bad)).bind fun n36 =>
    (asI .i64 (d34.getD 2 .bad)).bind fun n37 =>
    (asI .i64 (d34.getD 3 .bad)).bind fun n38 =>
    some ((.tuple [(.agg [(.int .i64 n35), (.int .i64 n36), (.int .i64 n37), (.int .i64 n38)]), (.int .i64 0)]), h31, r23.2.2)) := by kernel_rfl

theorem F22_L1_eq (call : YldF → CallF) (Y : YldF) (lf : Nat) (n0 : Nat) (x1a : Option (Nat × Nat)) (x1n : Nat) (x1c : Bool) (x4 : Option (Nat × Nat)) (x6 : Option (Nat × Nat)) (h : AHeap) (nx : Nat) : F22_L1 call Y lf (n0 + 1) x1a x1n x1c x4 x6 h nx =
    if (decide ((((x1n : Nat) : Int) : Int) > 0)) = true then
    ((x6).bind fun p1 =>
    (ldR h p1.1 p1.2 4).bind fun l2 =>
    (x1a).bind fun p3 =>
    if 0 ≤ (0 : Int) ∧ 0 < ((x1n : Nat) : Int) then
    ((ldA h p3.1 (p3.2 + Int.toNat 0 * 1)).bind fun v4 =>
    (asI .u8 v4).bind fun n5 =>
    (x1a).bind fun p6 =>
    if 0 ≤ (1 : Int) ∧ 1 < ((x1n : Nat) : Int) then
    ((ldA h p6.1 (p6.2 + Int.toNat 1 * 1)).bind fun v7 =>
    (asI .u8 v7).bind fun n8 =>
    (x1a).bind fun p9 =>
    if 0 ≤ (2 : Int) ∧ 2 < ((x1n : Nat) : Int) then
    ((ldA h p9.1 (p9.2 + Int.toNat 2 * 1)).bind fun v10 =>
    (asI .u8 v10).bind fun n11 =>
    (x1a).bind fun p12 =>
    if 0 ≤ (3 : Int) ∧ 3 < ((x1n : Nat) : Int) then
    ((ldA h p12.1 (p12.2 + Int.toNat 3 * 1)).bind fun v13 =>
    (asI .u8 v13).bind fun n14 =>
    (call Y 33 [(.agg l2), (.int .i64 (bits .or .i64 (bits .or .i64 (bits .or .i64 (wrapA .i64 n5) (wrapA .i64 ((wrapA .i64 n8) * (2:Int) ^ min (Int.toNat 8) (IntKind.bits .i64)))) (wrapA .i64 ((wrapA .i64 n11) * (2:Int) ^ min (Int.toNat 16) (IntKind.bits .i64)))) (wrapA .i64 ((wrapA .i64 n14) * (2:Int) ^ min (Int.toNat 24) (IntKind.bits .i64)))))] h (nx + 28)).bind fun r15 =>
    (asRow r15.1).bind fun d16 =>
    (x6).bind fun p17 =>
    (stA r15.2.1 p17.1 p17.2 (.agg d16) 4).bind fun b18 =>
    let h19 := AHeap.put r15.2.1 p17.1 (some b18)
    (cutA h19 x1a x1n x1c 1 (some (.int .i64 4)) none none).bind fun s20 =>
    F22_L1 call Y lf n0 s20.1 s20.2.1 s20.2.2 x4 x6 h19 (r15.2.2 + 3))
    else none)
    else none)
    else none)
    else none)
    else
    ((x6).bind fun p21 =>
    (ldR h p21.1 p21.2 4).bind fun l22 =>
    (call Y 34 [(.agg l22)] h (nx + 7)).bind fun r23 =>
    (asAgg 4 r23.1).bind fun d24 =>
    (asI .i64 (d24.getD 0 .bad)).bind fun n25 =>
    (asI .i64 (d24.getD 1 .bad)).bind fun n26 =>
    (asI .i64 (d24.getD 2 .bad)).bind fun n27 =>
    (asI .i64 (d24.getD 3 .bad)).bind fun n28 =>
    (x4).bind fun p29 =>
    (stA r23.2.1 p29.1 p29.2 (.agg [(.int .i64 n25), (.int .i64 n26), (.int .i64 n27), (.int .i64 n28)]) 4).bind fun b30 =>
    let h31 := AHeap.put r23.2.1 p29.1 (some b30)
    (x4).bind fun p32 =>
    (ldR h31 p32.1 p32.2 4).bind fun l33 =>
    (asAgg 4 (AV.agg l33)).bind fun d34 =>
    (asI .i64 (d34.getD 0 .bad)).bind fun n35 =>
    (asI .i64 (d34.getD 1 .bad)).bind fun n36 =>
    (asI .i64 (d34.getD 2 .bad)).bind fun n37 =>
    (asI .i64 (d34.getD 3 .bad)).bind fun n38 =>
    some ((.tuple [(.agg [(.int .i64 n35), (.int .i64 n36), (.int .i64 n37), (.int .i64 n38)]), (.int .i64 0)]), h31, r23.2.2)) := F22_L1_eq' go1 call Y lf n0 x1a x1n x1c x4 x6 h nx

theorem F22_L1_zero (call : YldF → CallF) (Y : YldF) (lf : Nat) (x1a : Option (Nat × Nat)) (x1n : Nat) (x1c : Bool) (x4 : Option (Nat × Nat)) (x6 : Option (Nat × Nat)) (h : AHeap) (nx : Nat) : F22_L1 call Y lf 0 x1a x1n x1c x4 x6 h nx = none := by kernel_rfl

theorem F22_eq' (J : StepF (AV × AHeap × Nat) → StepF (AV × AHeap × Nat)) (n : Nat) (Y : YldF) (x0_0 : Int) (x0_1 : Int) (x0_2 : Int) (x0_3 : Int) (x1a : Option (Nat × Nat)) (x1n : Nat) (x1c : Bool) (h : AHeap) (nx : Nat) : rootJ J Try.prog keepT (callP Try.prog keepT n) Y n 22 [(.agg [(.int .i64 x0_0), (.int .i64 x0_1), (.int .i64 x0_2), (.int .i64 x0_3)]), (.slice x1a x1n x1c)] h nx =
    let h1 := AHeap.put h nx (some ⟨[(.int .i64 x0_0), (.int .i64 x0_1), (.int .i64 x0_2), (.int .i64 x0_3)], 4, true⟩)
    let h2 := AHeap.put h1 (nx + 1) (some ⟨[(.int .i64 0), (.int .i64 0), (.int .i64 0), (.int .i64 0)], 4, true⟩)
    if (((Int.tmod ((x1n : Nat) : Int) 4) : Int) != 0) = true then
    ((stA h2 (nx + 1) 0 (.agg [(.int .i64 0), (.int .i64 0), (.int .i64 0), (.int .i64 0)]) 4).bind fun b3 =>
    let h4 := AHeap.put h2 (nx + 1) (some b3)
    (ldR h4 (nx + 1) 0 4).bind fun l5 =>
    (asAgg 4 (AV.agg l5)).bind fun d6 =>
    (asI .i64 (d6.getD 0 .bad)).bind fun n7 =>
    (asI .i64 (d6.getD 1 .bad)).bind fun n8 =>
    (asI .i64 (d6.getD 2 .bad)).bind fun n9 =>
    (asI .i64 (d6.getD 3 .bad)).bind fun n10 =>
    some ((.tuple [(.agg [(.int .i64 n7), (.int .i64 n8), (.int .i64 n9), (.int .i64 n10)]), (.int .i64 4)]), h4, (nx + 10)))
    else
    ((ldR h2 nx 0 4).bind fun l11 =>
    (asAgg 4 (AV.agg l11)).bind fun d12 =>
    (asI .i64 (d12.getD 0 .bad)).bind fun n13 =>
    (asI .i64 (d12.getD 1 .bad)).bind fun n14 =>
    (asI .i64 (d12.getD 2 .bad)).bind fun n15 =>
    (asI .i64 (d12.getD 3 .bad)).bind fun n16 =>
    ((callP Try.prog keepT n) Y 32 [(.agg [(.int .i64 n13), (.int .i64 n14), (.int .i64 n15), (.int .i64 n16)])] h2 (nx + 11)).bind fun r17 =>
    (asRow r17.1).bind fun d18 =>
    let h19 := AHeap.put r17.2.1 (nx + 9) (some ⟨[(.int .i64 0), (.int .i64 0), (.int .i64 0), (.int .i64 0)], 1, true⟩)
    (stA h19 (nx + 9) 0 (.agg d18) 4).bind fun b20 =>
    let h21 := AHeap.put h19 (nx + 9) (some b20)
    F22_L1' J J (callP Try.prog keepT n) Y n n x1a x1n x1c (some ((nx + 1), 0)) (some ((nx + 9), 0)) h21 r17.2.2) := by kernel_rfl

/-- quickset/flet.More -/
theorem F22_eq (n : Nat) (Y : YldF) (x0_0 : Int) (x0_1 : Int) (x0_2 : Int) (x0_3 : Int) (x1a : Option (Nat × Nat)) (x1n : Nat) (x1c : Bool) (h : AHeap) (nx : Nat) : callP Try.prog keepT (n + 1) Y 22 [(.agg [(.int .i64 x0_0), (.int .i64 x0_1), (.int .i64 x0_2), (.int .i64 x0_3)]), (.slice x1a x1n x1c)] h nx =
    let h1 := AHeap.put h nx (some ⟨[(.int .i64 x0_0), (.int .i64 x0_1), (.int .i64 x0_2), (.int .i64 x0_3)], 4, true⟩)
    let h2 := AHeap.put h1 (nx + 1) (some ⟨[(.int .i64 0), (.int .i64 0), (.int .i64 0), (.int .i64 0)], 4, true⟩)
    if (((Int.tmod ((x1n : Nat) : Int) 4) : Int) != 0) = true then
    ((stA h2 (nx + 1) 0 (.agg [(.int .i64 0), (.int .i64 0), (.int .i64 0), (.int .i64 0)]) 4).bind fun b3 =>
    let h4 := AHeap.put h2 (nx + 1) (some b3)
    (ldR h4 (nx + 1) 0 4).bind fun l5 =>
    (asAgg 4 (AV.agg l5)).bind fun d6 =>
    (asI .i64 (d6.getD 0 .bad)).bind fun n7 =>
    (asI .i64 (d6.getD 1 .bad)).bind fun n8 =>
    (asI .i64 (d6.getD 2 .bad)).bind fun n9 =>
    (asI .i64 (d6.getD 3 .bad)).bind fun n10 =>
    some ((.tuple [(.agg [(.int .i64 n7), (.int .i64 n8), (.int .i64 n9), (.int .i64 n10)]), (.int .i64 4)]), h4, (nx + 10)))
    else
    ((ldR h2 nx 0 4).bind fun l11 =>
    (asAgg 4 (AV.agg l11)).bind fun d12 =>
    (asI .i64 (d12.getD 0 .bad)).bind fun n13 =>
    (asI .i64 (d12.getD 1 .bad)).bind fun n14 =>
    (asI .i64 (d12.getD 2 .bad)).bind fun n15 =>
    (asI .i64 (d12.getD 3 .bad)).bind fun n16 =>
    ((callP Try.prog keepT n) Y 32 [(.agg [(.int .i64 n13), (.int .i64 n14), (.int .i64 n15), (.int .i64 n16)])] h2 (nx + 11)).bind fun r17 =>
    (asRow r17.1).bind fun d18 =>
    let h19 := AHeap.put r17.2.1 (nx + 9) (some ⟨[(.int .i64 0), (.int .i64 0), (.int .i64 0), (.int .i64 0)], 1, true⟩)
    (stA h19 (nx + 9) 0 (.agg d18) 4).bind fun b20 =>
    let h21 := AHeap.put h19 (nx + 9) (some b20)
    F22_L1 (callP Try.prog keepT n) Y n n x1a x1n x1c (some ((nx + 1), 0)) (some ((nx + 9), 0)) h21 r17.2.2) := F22_eq' go1 n Y x0_0 x0_1 x0_2 x0_3 x1a x1n x1c h nx

noncomputable def c23 : Code := (Try.f23.body).getD .skip

noncomputable def r23 : List ResultVar := Try.f23.results.toList

theorem F23_eq' (J : StepF (AV × AHeap × Nat) → StepF (AV × AHeap × Nat)) (n : Nat) (Y : YldF) (x0 : Int) (h : AHeap) (nx : Nat) : rootJ J Try.prog keepT (callP Try.prog keepT n) Y n 23 [(.int .i64 x0)] h nx =
    some ((.int .i64 (wrapA .i64 (Int.tdiv (wrapA .i64 ((wrapA .i64 (x0 + 128)) - 1)) 128))), h, (nx + 6)) := by kernel_rfl

/-- quickset/stripe.sectors -/
theorem F23_eq (n : Nat) (Y : YldF) (x0 : Int) (h : AHeap) (nx : Nat) : callP Try.prog keepT (n + 1) Y 23 [(.int .i64 x0)] h nx =
    some ((.int .i64 (wrapA .i64 (Int.tdiv (wrapA .i64 ((wrapA .i64 (x0 + 128)) - 1)) 128))), h, (nx + 6)) := F23_eq' go1 n Y x0 h nx

noncomputable def c24 : Code := (Try.f24.body).getD .skip

noncomputable def r24 : List ResultVar := Try.f24.results.toList

theorem F24_eq' (J : StepF (AV × AHeap × Nat) → StepF (AV × AHeap × Nat)) (n : Nat) (Y : YldF) (x0a : Option (Nat × Nat)) (x0n : Nat) (x0c : Bool) (h : AHeap) (nx : Nat) : rootJ J Try.prog keepT (callP Try.prog keepT n) Y n 24 [(.slice x0a x0n x0c)] h nx =
    if (Option.isNone x0a) = true then
    (some ((.slice none 0 false), h, (nx + 4)))
    else
    (let h1 := AHeap.put h (nx + 3) (some ⟨[], 1, true⟩)
    (srcS h1 x0a x0n 1).bind fun q2 =>
    (appD h1 (some ((nx + 3), 0)) 0 true 1 1 (nx + 5) q2).bind fun e3 =>
    let h4 := AHeap.puts h1 e3.sets
    some ((.slice e3.a e3.n e3.c), h4, (nx + 7))) := by kernel_rfl

/-- slices.Clone[[]byte,byte] -/
theorem F24_eq (n : Nat) (Y : YldF) (x0a : Option (Nat × Nat)) (x0n : Nat) (x0c : Bool) (h : AHeap) (nx : Nat) : callP Try.prog keepT (n + 1) Y 24 [(.slice x0a x0n x0c)] h nx =
    if (Option.isNone x0a) = true then
    (some ((.slice none 0 false), h, (nx + 4)))
    else
    (let h1 := AHeap.put h (nx + 3) (some ⟨[], 1, true⟩)
    (srcS h1 x0a x0n 1).bind fun q2 =>
    (appD h1 (some ((nx + 3), 0)) 0 true 1 1 (nx + 5) q2).bind fun e3 =>
    let h4 := AHeap.puts h1 e3.sets
    some ((.slice e3.a e3.n e3.c), h4, (nx + 7))) := F24_eq' go1 n Y x0a x0n x0c h nx

noncomputable def c25 : Code := (Try.f25.body).getD .skip

noncomputable def r25 : List ResultVar := Try.f25.results.toList

theorem F25_eq' (J : StepF (AV × AHeap × Nat) → StepF (AV × AHeap × Nat)) (n : Nat) (Y : YldF) (x0_0a : Option (Nat × Nat)) (x0_0n : Nat) (x0_0c : Bool) (x0_1 : Int) (x0_2 : Int) (x1a : Option (Nat × Nat)) (x1n : Nat) (x1c : Bool) (h : AHeap) (nx : Nat) : rootJ J Try.prog keepT (callP Try.prog keepT n) Y n 25 [(.agg [(.slice x0_0a x0_0n x0_0c), (.int .i64 x0_1), (.int .i64 x0_2)]), (.slice x1a x1n x1c)] h nx =
    let h1 := AHeap.put h nx (some ⟨[(.slice x0_0a x0_0n x0_0c), (.int .i64 x0_1), (.int .i64 x0_2)], 3, true⟩)
    (ldA h1 nx 2).bind fun v2 =>
    (asI .i64 v2).bind fun n3 =>
    if (decide (0 ≤ (n3 : Int)) && decide ((n3 : Int) ≤ n3) && decide (((1 : Nat) : Int) * n3 ≤ 281474976710656) && decide ((n3 : Int) ≤ 9223372036854775807) && 1 != 0) = true then
    (let h4 := AHeap.put h1 (nx + 4) (some ⟨(madeA [(.int .u8 0)] (Int.toNat n3 * 1)), 1, true⟩)
    (copD h4 (some ((nx + 4), 0)) (Int.toNat n3) x1a x1n 1).bind fun q5 =>
    let h6 := AHeap.puts h4 q5.2.1
    some ((.slice (some ((nx + 4), 0)) (Int.toNat n3) (n3 == n3)), h6, (nx + 11)))
    else none := by kernel_rfl

/-- (quickset/stripe.block).filled -/
theorem F25_eq (n : Nat) (Y : YldF) (x0_0a : Option (Nat × Nat)) (x0_0n : Nat) (x0_0c : Bool) (x0_1 : Int) (x0_2 : Int) (x1a : Option (Nat × Nat)) (x1n : Nat) (x1c : Bool) (h : AHeap) (nx : Nat) : callP Try.prog keepT (n + 1) Y 25 [(.agg [(.slice x0_0a x0_0n x0_0c), (.int .i64 x0_1), (.int .i64 x0_2)]), (.slice x1a x1n x1c)] h nx =
    let h1 := AHeap.put h nx (some ⟨[(.slice x0_0a x0_0n x0_0c), (.int .i64 x0_1), (.int .i64 x0_2)], 3, true⟩)
    (ldA h1 nx 2).bind fun v2 =>
    (asI .i64 v2).bind fun n3 =>
    if (decide (0 ≤ (n3 : Int)) && decide ((n3 : Int) ≤ n3) && decide (((1 : Nat) : Int) * n3 ≤ 281474976710656) && decide ((n3 : Int) ≤ 9223372036854775807) && 1 != 0) = true then
    (let h4 := AHeap.put h1 (nx + 4) (some ⟨(madeA [(.int .u8 0)] (Int.toNat n3 * 1)), 1, true⟩)
    (copD h4 (some ((nx + 4), 0)) (Int.toNat n3) x1a x1n 1).bind fun q5 =>
    let h6 := AHeap.puts h4 q5.2.1
    some ((.slice (some ((nx + 4), 0)) (Int.toNat n3) (n3 == n3)), h6, (nx + 11)))
    else none := F25_eq' go1 n Y x0_0a x0_0n x0_0c x0_1 x0_2 x1a x1n x1c h nx

noncomputable def c26 : Code := (Try.f26.body).getD .skip

noncomputable def r26 : List ResultVar := Try.f26.results.toList

noncomputable def F26_L1' (W J : StepF (AV × AHeap × Nat) → StepF (AV × AHeap × Nat)) (call : YldF → CallF) (Y : YldF) (lf : Nat) (n0 : Nat) (x0a : Option (Nat × Nat)) (x0n : Nat) (x0c : Bool) (x6a : Option (Nat × Nat)) (x6n : Nat) (x6c : Bool) (x14 : Int) (x15 : Int) (h : AHeap) (nx : Nat) : Option (AV × AHeap × Nat) :=
  goK W J drawK (machOf Try.prog) call Y (keepT 26) lf c26 [1, 1, 1, 1, 0, 1, 0, 9] [n0] (retK (machOf Try.prog) ⟨c26, 26, r26, keepT 26⟩) ⟨26, mkL [(0, (.slice x0a x0n x0c)), (6, (.slice x6a x6n x6c)), (14, (.int .i64 x14)), (15, (.int .i64 x15))]⟩ h nx

noncomputable def F26_L1 (call : YldF → CallF) (Y : YldF) (lf : Nat) (n0 : Nat) (x0a : Option (Nat × Nat)) (x0n : Nat) (x0c : Bool) (x6a : Option (Nat × Nat)) (x6n : Nat) (x6c : Bool) (x14 : Int) (x15 : Int) (h : AHeap) (nx : Nat) : Option (AV × AHeap × Nat) := F26_L1' go1 go1 call Y lf n0 x0a x0n x0c x6a x6n x6c x14 x15 h nx

theorem F26_L1_eq' (J : StepF (AV × AHeap × Nat) → StepF (AV × AHeap × Nat)) (call : YldF → CallF) (Y : YldF) (lf : Nat) (n0 : Nat) (x0a : Option (Nat × Nat)) (x0n : Nat) (x0c : Bool) (x6a : Option (Nat × Nat)) (x6n : Nat) (x6c : Bool) (x14 : Int) (x15 : Int) (h : AHeap) (nx : Nat) : F26_L1' go1 J call Y lf (n0 + 1) x0a x0n x0c x6a x6n x6c x14 x15 h nx =
    if (decide ((x15 : Int) < x14)) = true then
    ((call Y 37 [(.slice x0a x0n x0c), (.int .i64 x15)] h (nx + 10)).bind fun r1 =>
    (asSl r1.1).bind fun s2 =>
    let h3 := AHeap.put r1.2.1 (nx + 7) (some ⟨[(.slice s2.1 s2.2.1 s2.2.2)], 1, true⟩)
    (srcS h3 (some ((nx + 7), 0)) 1 1).bind fun q4 =>
    (appD h3 x6a x6n x6c 1 24 (nx + 8) q4).bind fun e5 =>
    let h6 := AHeap.puts h3 e5.sets
    F26_L1' J J call Y lf n0 x0a x0n x0c e5.a e5.n e5.c x14 (wrapA .i64 (x15 + 1)) h6 (r1.2.2 + 2))
    else
    (some ((.tuple [(.slice x6a x6n x6c), (.int .i64 0)]), h, (nx + 4))) := by kernel_rfl

theorem F26_L1_eq (call : YldF → CallF) (Y : YldF) (lf : Nat) (n0 : Nat) (x0a : Option (Nat × Nat)) (x0n : Nat) (x0c : Bool) (x6a : Option (Nat × Nat)) (x6n : Nat) (x6c : Bool) (x14 : Int) (x15 : Int) (h : AHeap) (nx : Nat) : F26_L1 call Y lf (n0 + 1) x0a x0n x0c x6a x6n x6c x14 x15 h nx =
    if (decide ((x15 : Int) < x14)) = true then
    ((call Y 37 [(.slice x0a x0n x0c), (.int .i64 x15)] h (nx + 10)).bind fun r1 =>
    (asSl r1.1).bind fun s2 =>
    let h3 := AHeap.put r1.2.1 (nx + 7) (some ⟨[(.slice s2.1 s2.2.1 s2.2.2)], 1, true⟩)
    (srcS h3 (some ((nx + 7), 0)) 1 1).bind fun q4 =>
    (appD h3 x6a x6n x6c 1 24 (nx + 8) q4).bind fun e5 =>
    let h6 := AHeap.puts h3 e5.sets
    F26_L1 call Y lf n0 x0a x0n x0c e5.a e5.n e5.c x14 (wrapA .i64 (x15 + 1)) h6 (r1.2.2 + 2))
    else
    (some ((.tuple [(.slice x6a x6n x6c), (.int .i64 0)]), h, (nx + 4))) := F26_L1_eq' go1 call Y lf n0 x0a x0n x0c x6a x6n x6c x14 x15 h nx

theorem F26_L1_zero (call : YldF → CallF) (Y : YldF) (lf : Nat) (x0a : Option (Nat × Nat)) (x0n : Nat) (x0c : Bool) (x6a : Option (Nat × Nat)) (x6n : Nat) (x6c : Bool) (x14 : Int) (x15 : Int) (h : AHeap) (nx : Nat) : F26_L1 call Y lf 0 x0a x0n x0c x6a x6n x6c x14 x15 h nx = none := by kernel_rfl

theorem F26_eq' (J : StepF (AV × AHeap × Nat) → StepF (AV × AHeap × Nat)) (n : Nat) (Y : YldF) (x0a : Option (Nat × Nat)) (x0n : Nat) (x0c : Bool) (x1 : Int) (h : AHeap) (nx : Nat) : rootJ J Try.prog keepT (callP Try.prog keepT n) Y n 26 [(.slice x0a x0n x0c), (.int .i64 x1)] h nx =
    ((callP Try.prog keepT n) Y 35 [(.slice x0a x0n x0c)] h (nx + 5)).bind fun r1 =>
    (asB r1.1).bind fun t2 =>
    if (!t2) = true then
    (some ((.tuple [(.slice none 0 false), (.int .i64 4)]), r1.2.1, (r1.2.2 + 2)))
    else
    (((callP Try.prog keepT n) Y 36 [(.int .i64 x1)] r1.2.1 (r1.2.2 + 3)).bind fun r3 =>
    (asB r3.1).bind fun t4 =>
    if (!t4) = true then
    (some ((.tuple [(.slice none 0 false), (.int .i64 2)]), r3.2.1, (r3.2.2 + 2)))
    else
    (F26_L1' J J (callP Try.prog keepT n) Y n n x0a x0n x0c none 0 false x1 0 r3.2.1 (r3.2.2 + 3))) := by kernel_rfl

/-- quickset/par.Encode -/
theorem F26_eq (n : Nat) (Y : YldF) (x0a : Option (Nat × Nat)) (x0n : Nat) (x0c : Bool) (x1 : Int) (h : AHeap) (nx : Nat) : callP Try.prog keepT (n + 1) Y 26 [(.slice x0a x0n x0c), (.int .i64 x1)] h nx =
    ((callP Try.prog keepT n) Y 35 [(.slice x0a x0n x0c)] h (nx + 5)).bind fun r1 =>
    (asB r1.1).bind fun t2 =>
    if (!t2) = true then
    (some ((.tuple [(.slice none 0 false), (.int .i64 4)]), r1.2.1, (r1.2.2 + 2)))
    else
    (((callP Try.prog keepT n) Y 36 [(.int .i64 x1)] r1.2.1 (r1.2.2 + 3)).bind fun r3 =>
    (asB r3.1).bind fun t4 =>
    if (!t4) = true then
    (some ((.tuple [(.slice none 0 false), (.int .i64 2)]), r3.2.1, (r3.2.2 + 2)))
    else
    (F26_L1 (callP Try.prog keepT n) Y n n x0a x0n x0c none 0 false x1 0 r3.2.1 (r3.2.2 + 3))) := F26_eq' go1 n Y x0a x0n x0c x1 h nx

noncomputable def c27 : Code := (Try.f27.body).getD .skip

noncomputable def r27 : List ResultVar := Try.f27.results.toList

theorem F27_eq' (J : StepF (AV × AHeap × Nat) → StepF (AV × AHeap × Nat)) (n : Nat) (Y : YldF) (x0 : Int) (h : AHeap) (nx : Nat) : rootJ J Try.prog keepT (callP Try.prog keepT n) Y n 27 [(.int .i64 x0)] h nx =
    if (decide ((x0 : Int) ≥ 1)) = true then
    (some ((.bool (decide ((x0 : Int) ≤ 4096))), h, (nx + 8)))
    else
    (some ((.bool false), h, (nx + 8))) := by kernel_rfl

/-- quickset/stripe.sized -/
theorem F27_eq (n : Nat) (Y : YldF) (x0 : Int) (h : AHeap) (nx : Nat) : callP Try.prog keepT (n + 1) Y 27 [(.int .i64 x0)] h nx =
    if (decide ((x0 : Int) ≥ 1)) = true then
    (some ((.bool (decide ((x0 : Int) ≤ 4096))), h, (nx + 8)))
    else
    (some ((.bool false), h, (nx + 8))) := F27_eq' go1 n Y x0 h nx

noncomputable def c28 : Code := (Try.f28.body).getD .skip

noncomputable def r28 : List ResultVar := Try.f28.results.toList

noncomputable def F28_J1' (W J : StepF (AV × AHeap × Nat) → StepF (AV × AHeap × Nat)) (call : YldF → CallF) (Y : YldF) (lf : Nat) (x0 : Int) (x1 : Int) (x2 : Int) (x3 : Int) (h : AHeap) (nx : Nat) : Option (AV × AHeap × Nat) :=
  goK W J drawK (machOf Try.prog) call Y (keepT 28) lf c28 [1, 1, 1] [] (retK (machOf Try.prog) ⟨c28, 85, r28, keepT 28⟩) ⟨85, mkL [(0, (.int .i64 x0)), (1, (.int .i64 x1)), (2, (.int .i64 x2)), (3, (.int .i64 x3))]⟩ h nx

noncomputable def F28_J1 (call : YldF → CallF) (Y : YldF) (lf : Nat) (x0 : Int) (x1 : Int) (x2 : Int) (x3 : Int) (h : AHeap) (nx : Nat) : Option (AV × AHeap × Nat) := F28_J1' go1 go1 call Y lf x0 x1 x2 x3 h nx

noncomputable def F28_J2' (W J : StepF (AV × AHeap × Nat) → StepF (AV × AHeap × Nat)) (call : YldF → CallF) (Y : YldF) (lf : Nat) (x0 : Int) (x1 : Int) (x2 : Int) (x11 : Int) (x13 : Int) (h : AHeap) (nx : Nat) : Option (AV × AHeap × Nat) :=
  goK W J drawK (machOf Try.prog) call Y (keepT 28) lf c28 [1, 1, 1, 1, 1, 1] [] (retK (machOf Try.prog) ⟨c28, 85, r28, keepT 28⟩) ⟨85, mkL [(0, (.int .i64 x0)), (1, (.int .i64 x1)), (2, (.int .i64 x2)), (11, (.int .i64 x11)), (13, (.int .i64 x13))]⟩ h nx

noncomputable def F28_J2 (call : YldF → CallF) (Y : YldF) (lf : Nat) (x0 : Int) (x1 : Int) (x2 : Int) (x11 : Int) (x13 : Int) (h : AHeap) (nx : Nat) : Option (AV × AHeap × Nat) := F28_J2' go1 go1 call Y lf x0 x1 x2 x11 x13 h nx

noncomputable def F28_J3' (W J : StepF (AV × AHeap × Nat) → StepF (AV × AHeap × Nat)) (call : YldF → CallF) (Y : YldF) (lf : Nat) (x0 : Int) (x1 : Int) (x2 : Int) (x11 : Int) (x13 : Int) (x14 : Int) (h : AHeap) (nx : Nat) : Option (AV × AHeap × Nat) :=
  goK W J drawK (machOf Try.prog) call Y (keepT 28) lf c28 [1, 1, 1, 1, 1, 1, 1, 1] [] (retK (machOf Try.prog) ⟨c28, 85, r28, keepT 28⟩) ⟨85, mkL [(0, (.int .i64 x0)), (1, (.int .i64 x1)), (2, (.int .i64 x2)), (11, (.int .i64 x11)), (13, (.int .i64 x13)), (14, (.int .i64 x14))]⟩ h nx

noncomputable def F28_J3 (call : YldF → CallF) (Y : YldF) (lf : Nat) (x0 : Int) (x1 : Int) (x2 : Int) (x11 : Int) (x13 : Int) (x14 : Int) (h : AHeap) (nx : Nat) : Option (AV × AHeap × Nat) := F28_J3' go1 go1 call Y lf x0 x1 x2 x11 x13 x14 h nx

noncomputable def F28_L4' (W J : StepF (AV × AHeap × Nat) → StepF (AV × AHeap × Nat)) (call : YldF → CallF) (Y : YldF) (lf : Nat) (n0 : Nat) (x0 : Int) (x1 : Int) (x2 : Int) (x11 : Int) (x13 : Int) (x15a : Option (Nat × Nat)) (x15n : Nat) (x15c : Bool) (x53 : Int) (x54 : Int) (h : AHeap) (nx : Nat) : Option (AV × AHeap × Nat) :=
  goK W J drawK (machOf Try.prog) call Y (keepT 28) lf c28 [1, 1, 1, 1, 1, 1, 1, 1, 1, 0, 1, 0, 9] [n0] (retK (machOf Try.prog) ⟨c28, 85, r28, keepT 28⟩) ⟨85, mkL [(0, (.int .i64 x0)), (1, (.int .i64 x1)), (2, (.int .i64 x2)), (11, (.int .i64 x11)), (13, (.int .i64 x13)), (15, (.slice x15a x15n x15c)), (53, (.int .i64 x53)), (54, (.int .i64 x54))]⟩ h nx

noncomputable def F28_L4 (call : YldF → CallF) (Y : YldF) (lf : Nat) (n0 : Nat) (x0 : Int) (x1 : Int) (x2 : Int) (x11 : Int) (x13 : Int) (x15a : Option (Nat × Nat)) (x15n : Nat) (x15c : Bool) (x53 : Int) (x54 : Int) (h : AHeap) (nx : Nat) : Option (AV × AHeap × Nat) := F28_L4' go1 go1 call Y lf n0 x0 x1 x2 x11 x13 x15a x15n x15c x53 x54 h nx

noncomputable def F28_J5' (W J : StepF (AV × AHeap × Nat) → StepF (AV × AHeap × Nat)) (call : YldF → CallF) (Y : YldF) (lf : Nat) (n0 : Nat) (x0 : Int) (x1 : Int) (x2 : Int) (x11 : Int) (x13 : Int) (x15a : Option (Nat × Nat)) (x15n : Nat) (x15c : Bool) (x17 : Option (Nat × Nat)) (x53 : Int) (x54 : Int) (h : AHeap) (nx : Nat) : Option (AV × AHeap × Nat) :=
  goK W J drawK (machOf Try.prog) call Y (keepT 28) lf c28 [1, 1, 1, 1, 1, 1, 1, 1, 1, 0, 1, 0, 0, 1, 1, 0, 0, 1, 1, 1] [n0] (retK (machOf Try.prog) ⟨c28, 85, r28, keepT 28⟩) ⟨85, mkL [(0, (.int .i64 x0)), (1, (.int .i64 x1)), (2, (.int .i64 x2)), (11, (.int .i64 x11)), (13, (.int .i64 x13)), (15, (.slice x15a x15n x15c)), (17, (.ptr x17)), (53, (.int .i64 x53)), (54, (.int .i64 x54))]⟩ h nx

noncomputable def F28_J5 (call : YldF → CallF) (Y : YldF) (lf : Nat) (n0 : Nat) (x0 : Int) (x1 : Int) (x2 : Int) (x11 : Int) (x13 : Int) (x15a : Option (Nat × Nat)) (x15n : Nat) (x15c : Bool) (x17 : Option (Nat × Nat)) (x53 : Int) (x54 : Int) (h : AHeap) (nx : Nat) : Option (AV × AHeap × Nat) := F28_J5' go1 go1 call Y lf n0 x0 x1 x2 x11 x13 x15a x15n x15c x17 x53 x54 h nx

theorem F28_J1_eq' (J : StepF (AV × AHeap × Nat) → StepF (AV × AHeap × Nat)) (call : YldF → CallF) (Y : YldF) (lf : Nat) (x0 : Int) (x1 : Int) (x2 : Int) (x3 : Int) (h : AHeap) (nx : Nat) : F28_J1' go1 J call Y lf x0 x1 x2 x3 h nx =
    if ((wrapA .i64 (x0 - x1)) : Int) = 0 then none else
    (if ((wrapA .i64 (x0 - x1)) : Int) = 0 then none else
    (if (decide (((Int.tmod x3 (wrapA .i64 (x0 - x1))) : Int) > 0)) = true then
    (F28_J2' J J call Y lf x0 x1 x2 (wrapA .i64 (Int.tdiv x3 (wrapA .i64 (x0 - x1)))) (wrapA .i64 ((Int.tmod x3 (wrapA .i64 (x0 - x1))) + x1)) h (nx + 19))
    else
    (F28_J2' J J call Y lf x0 x1 x2 (wrapA .i64 (Int.tdiv x3 (wrapA .i64 (x0 - x1)))) 0 h (nx + 15)))) := by kernel_rfl

theorem F28_J1_eq (call : YldF → CallF) (Y : YldF) (lf : Nat) (x0 : Int) (x1 : Int) (x2 : Int) (x3 : Int) (h : AHeap) (nx : Nat) : F28_J1 call Y lf x0 x1 x2 x3 h nx =
    if ((wrapA .i64 (x0 - x1)) : Int) = 0 then none else
    (if ((wrapA .i64 (x0 - x1)) : Int) = 0 then none else
    (if (decide (((Int.tmod x3 (wrapA .i64 (x0 - x1))) : Int) > 0)) = true then
    (F28_J2 call Y lf x0 x1 x2 (wrapA .i64 (Int.tdiv x3 (wrapA .i64 (x0 - x1)))) (wrapA .i64 ((Int.tmod x3 (wrapA .i64 (x0 - x1))) + x1)) h (nx + 19))
    else
    (F28_J2 call Y lf x0 x1 x2 (wrapA .i64 (Int.tdiv x3 (wrapA .i64 (x0 - x1)))) 0 h (nx + 15)))) := F28_J1_eq' go1 call Y lf x0 x1 x2 x3 h nx

theorem F28_J2_eq' (J : StepF (AV × AHeap × Nat) → StepF (AV × AHeap × Nat)) (call : YldF → CallF) (Y : YldF) (lf : Nat) (x0 : Int) (x1 : Int) (x2 : Int) (x11 : Int) (x13 : Int) (h : AHeap) (nx : Nat) : F28_J2' go1 J call Y lf x0 x1 x2 x11 x13 h nx =
    if ((x11 : Int) == 0) = true then
    (F28_J3' J J call Y lf x0 x1 x2 x11 x13 x13 h (nx + 6))
    else
    (F28_J3' J J call Y lf x0 x1 x2 x11 x13 x0 h (nx + 4)) := by kernel_rfl

theorem F28_J2_eq (call : YldF → CallF) (Y : YldF) (lf : Nat) (x0 : Int) (x1 : Int) (x2 : Int) (x11 : Int) (x13 : Int) (h : AHeap) (nx : Nat) : F28_J2 call Y lf x0 x1 x2 x11 x13 h nx =
    if ((x11 : Int) == 0) = true then
    (F28_J3 call Y lf x0 x1 x2 x11 x13 x13 h (nx + 6))
    else
    (F28_J3 call Y lf x0 x1 x2 x11 x13 x0 h (nx + 4)) := F28_J2_eq' go1 call Y lf x0 x1 x2 x11 x13 h nx

theorem F28_J3_eq' (J : StepF (AV × AHeap × Nat) → StepF (AV × AHeap × Nat)) (call : YldF → CallF) (Y : YldF) (lf : Nat) (x0 : Int) (x1 : Int) (x2 : Int) (x11 : Int) (x13 : Int) (x14 : Int) (h : AHeap) (nx : Nat) : F28_J3' go1 J call Y lf x0 x1 x2 x11 x13 x14 h nx =
    F28_L4' J J call Y lf lf x0 x1 x2 x11 x13 none 0 false x14 0 h (nx + 3) := by kernel_rfl

theorem F28_J3_eq (call : YldF → CallF) (Y : YldF) (lf : Nat) (x0 : Int) (x1 : Int) (x2 : Int) (x11 : Int) (x13 : Int) (x14 : Int) (h : AHeap) (nx : Nat) : F28_J3 call Y lf x0 x1 x2 x11 x13 x14 h nx =
    F28_L4 call Y lf lf x0 x1 x2 x11 x13 none 0 false x14 0 h (nx + 3) := F28_J3_eq' go1 call Y lf x0 x1 x2 x11 x13 x14 h nx

theorem F28_L4_eq' (J : StepF (AV × AHeap × Nat) → StepF (AV × AHeap × Nat)) (call : YldF → CallF) (Y : YldF) (lf : Nat) (n0 : Nat) (x0 : Int) (x1 : Int) (x2 : Int) (x11 : Int) (x13 : Int) (x15a : Option (Nat × Nat)) (x15n : Nat) (x15c : Bool) (x53 : Int) (x54 : Int) (h : AHeap) (nx : Nat) : F28_L4' go1 J call Y lf (n0 + 1) x0 x1 x2 x11 x13 x15a x15n x15c x53 x54 h nx =
    if (decide ((x54 : Int) < x53)) = true then
    (if (x0 : Int) = 0 then none else
    (if (x0 : Int) = 0 then none else
    (let h1 := AHeap.put h (nx + 18) (some ⟨[(.int .i64 0), (.int .i64 0), (.int .i64 0), (.bool false)], 4, true⟩)
    (stA h1 (nx + 18) 0 (.agg [(.int .i64 (Int.tmod (wrapA .i64 (x2 + x54)) x0)), (.int .i64 (wrapA .i64 (Int.tdiv (wrapA .i64 (x2 + x54)) x0))), (.int .i64 x11), (.bool (decide ((x54 : Int) < x1)))]) 4).bind fun b2 =>
    let h3 := AHeap.put h1 (nx + 18) (some b2)
    if (decide ((x54 : Int) < x13)) = true then
    ((ldA h3 (nx + 18) 2).bind fun v4 =>
    (asI .i64 v4).bind fun n5 =>
    (stA h3 (nx + 18) 2 (.int .i64 (wrapA .i64 (n5 + 1))) 1).bind fun b6 =>
    let h7 := AHeap.put h3 (nx + 18) (some b6)
    F28_J5' J J call Y lf n0 x0 x1 x2 x11 x13 x15a x15n x15c (some ((nx + 18), 0)) x53 x54 h7 (nx + 28))
    else
    (F28_J5' J J call Y lf n0 x0 x1 x2 x11 x13 x15a x15n x15c (some ((nx + 18), 0)) x53 x54 h3 (nx + 23)))))
    else
    (some ((.tuple [(.slice x15a x15n x15c), (.int .i64 0)]), h, (nx + 4))) := by kernel_rfl

theorem F28_L4_eq (call : YldF → CallF) (Y : YldF) (lf : Nat) (n0 : Nat) (x0 : Int) (x1 : Int) (x2 : Int) (x11 : Int) (x13 : Int) (x15a : Option (Nat × Nat)) (x15n : Nat) (x15c : Bool) (x53 : Int) (x54 : Int) (h : AHeap) (nx : Nat) : F28_L4 call Y lf (n0 + 1) x0 x1 x2 x11 x13 x15a x15n x15c x53 x54 h nx =
    if (decide ((x54 : Int) < x53)) = true then
    (if (x0 : Int) = 0 then none else
    (if (x0 : Int) = 0 then none else
    (let h1 := AHeap.put h (nx + 18) (some ⟨[(.int .i64 0), (.int .i64 0), (.int .i64 0), (.bool false)], 4, true⟩)
    (stA h1 (nx + 18) 0 (.agg [(.int .i64 (Int.tmod (wrapA .i64 (x2 + x54)) x0)), (.int .i64 (wrapA .i64 (Int.tdiv (wrapA .i64 (x2 + x54)) x0))), (.int .i64 x11), (.bool (decide ((x54 : Int) < x1)))]) 4).bind fun b2 =>
    let h3 := AHeap.put h1 (nx + 18) (some b2)
    if (decide ((x54 : Int) < x13)) = true then
    ((ldA h3 (nx + 18) 2).bind fun v4 =>
    (asI .i64 v4).bind fun n5 =>
    (stA h3 (nx + 18) 2 (.int .i64 (wrapA .i64 (n5 + 1))) 1).bind fun b6 =>
    let h7 := AHeap.put h3 (nx + 18) (some b6)
    F28_J5 call Y lf n0 x0 x1 x2 x11 x13 x15a x15n x15c (some ((nx + 18), 0)) x53 x54 h7 (nx + 28))
    else
    (F28_J5 call Y lf n0 x0 x1 x2 x11 x13 x15a x15n x15c (some ((nx + 18), 0)) x53 x54 h3 (nx + 23)))))
    else
    (some ((.tuple [(.slice x15a x15n x15c), (.int .i64 0)]), h, (nx + 4))) := F28_L4_eq' go1 call Y lf n0 x0 x1 x2 x11 x13 x15a x15n x15c x53 x54 h nx

theorem F28_L4_zero (call : YldF → CallF) (Y : YldF) (lf : Nat) (x0 : Int) (x1 : Int) (x2 : Int) (x11 : Int) (x13 : Int) (x15a : Option (Nat × Nat)) (x15n : Nat) (x15c : Bool) (x53 : Int) (x54 : Int) (h : AHeap) (nx : Nat) : F28_L4 call Y lf 0 x0 x1 x2 x11 x13 x15a x15n x15c x53 x54 h nx = none := by kernel_rfl

theorem F28_J5_eq' (J : StepF (AV × AHeap × Nat) → StepF (AV × AHeap × Nat)) (call : YldF → CallF) (Y : YldF) (lf : Nat) (n0 : Nat) (x0 : Int) (x1 : Int) (x2 : Int) (x11 : Int) (x13 : Int) (x15a : Option (Nat × Nat)) (x15n : Nat) (x15c : Bool) (x17 : Option (Nat × Nat)) (x53 : Int) (x54 : Int) (h : AHeap) (nx : Nat) : F28_J5' go1 J call Y lf n0 x0 x1 x2 x11 x13 x15a x15n x15c x17 x53 x54 h nx =
    (x17).bind fun p1 =>
    (ldR h p1.1 p1.2 4).bind fun l2 =>
    (asAgg 4 (AV.agg l2)).bind fun d3 =>
    (asI .i64 (d3.getD 0 .bad)).bind fun n4 =>
    (asI .i64 (d3.getD 1 .bad)).bind fun n5 =>
    (asI .i64 (d3.getD 2 .bad)).bind fun n6 =>
    (asB (d3.getD 3 .bad)).bind fun t7 =>
    let h8 := AHeap.put h (nx + 2) (some ⟨[(.int .i64 n4), (.int .i64 n5), (.int .i64 n6), (.bool t7)], 4, true⟩)
    (srcS h8 (some ((nx + 2), 0)) 1 4).bind fun q9 =>
    (appD h8 x15a x15n x15c 4 32 (nx + 3) q9).bind fun e10 =>
    let h11 := AHeap.puts h8 e10.sets
    F28_L4' J J call Y lf n0 x0 x1 x2 x11 x13 e10.a e10.n e10.c x53 (wrapA .i64 (x54 + 1)) h11 (nx + 7) := by kernel_rfl

theorem F28_J5_eq (call : YldF → CallF) (Y : YldF) (lf : Nat) (n0 : Nat) (x0 : Int) (x1 : Int) (x2 : Int) (x11 : Int) (x13 : Int) (x15a : Option (Nat × Nat)) (x15n : Nat) (x15c : Bool) (x17 : Option (Nat × Nat)) (x53 : Int) (x54 : Int) (h : AHeap) (nx : Nat) : F28_J5 call Y lf n0 x0 x1 x2 x11 x13 x15a x15n x15c x17 x53 x54 h nx =
    (x17).bind fun p1 =>
    (ldR h p1.1 p1.2 4).bind fun l2 =>
    (asAgg 4 (AV.agg l2)).bind fun d3 =>
    (asI .i64 (d3.getD 0 .bad)).bind fun n4 =>
    (asI .i64 (d3.getD 1 .bad)).bind fun n5 =>
    (asI .i64 (d3.getD 2 .bad)).bind fun n6 =>
    (asB (d3.getD 3 .bad)).bind fun t7 =>
    let h8 := AHeap.put h (nx + 2) (some ⟨[(.int .i64 n4), (.int .i64 n5), (.int .i64 n6), (.bool t7)], 4, true⟩)
    (srcS h8 (some ((nx + 2), 0)) 1 4).bind fun q9 =>
    (appD h8 x15a x15n x15c 4 32 (nx + 3) q9).bind fun e10 =>
    let h11 := AHeap.puts h8 e10.sets
    F28_L4 call Y lf n0 x0 x1 x2 x11 x13 e10.a e10.n e10.c x53 (wrapA .i64 (x54 + 1)) h11 (nx + 7) := F28_J5_eq' go1 call Y lf n0 x0 x1 x2 x11 x13 x15a x15n x15c x17 x53 x54 h nx

theorem F28_eq' (J : StepF (AV × AHeap × Nat) → StepF (AV × AHeap × Nat)) (n : Nat) (Y : YldF) (x0 : Int) (x1 : Int) (x2 : Int) (x3 : Int) (h : AHeap) (nx : Nat) : rootJ J Try.prog keepT (callP Try.prog keepT n) Y n 28 [(.int .i64 x0), (.int .i64 x1), (.int .i64 x2), (.int .i64 x3)] h nx =
    let h1 := AHeap.put h (nx + 5) (some ⟨[(.int .i64 0), (.int .i64 0)], 2, true⟩)
    (stA h1 (nx + 5) 0 (.agg [(.int .i64 x0), (.int .i64 x1)]) 2).bind fun b2 =>
    let h3 := AHeap.put h1 (nx + 5) (some b2)
    (ldR h3 (nx + 5) 0 2).bind fun l4 =>
    (asAgg 2 (AV.agg l4)).bind fun d5 =>
    (asI .i64 (d5.getD 0 .bad)).bind fun n6 =>
    (asI .i64 (d5.getD 1 .bad)).bind fun n7 =>
    ((callP Try.prog keepT n) Y 38 [(.agg [(.int .i64 n6), (.int .i64 n7)])] h3 (nx + 20)).bind fun r8 =>
    (asB r8.1).bind fun t9 =>
    if (!t9) = true then
    (some ((.tuple [(.slice none 0 false), (.int .i64 2)]), r8.2.1, (r8.2.2 + 2)))
    else
    (((callP Try.prog keepT n) Y 39 [(.int .i64 x3)] r8.2.1 r8.2.2).bind fun r10 =>
    (asB r10.1).bind fun t11 =>
    if (!t11) = true then
    (some ((.tuple [(.slice none 0 false), (.int .i64 2)]), r10.2.1, (r10.2.2 + 2)))
    else
    (((callP Try.prog keepT n) Y 40 [(.int .i64 x2)] r10.2.1 r10.2.2).bind fun r12 =>
    (asB r12.1).bind fun t13 =>
    if (!t13) = true then
    (some ((.tuple [(.slice none 0 false), (.int .i64 2)]), r12.2.1, (r12.2.2 + 2)))
    else
    (F28_J1' J J (callP Try.prog keepT n) Y n x0 x1 x2 x3 r12.2.1 r12.2.2))) := by kernel_rfl

/-- quickset/geom.Columns -/
theorem F28_eq (n : Nat) (Y : YldF) (x0 : Int) (x1 : Int) (x2 : Int) (x3 : Int) (h : AHeap) (nx : Nat) : callP Try.prog keepT (n + 1) Y 28 [(.int .i64 x0), (.int .i64 x1), (.int .i64 x2), (.int .i64 x3)] h nx =
    let h1 := AHeap.put h (nx + 5) (some ⟨[(.int .i64 0), (.int .i64 0)], 2, true⟩)
    (stA h1 (nx + 5) 0 (.agg [(.int .i64 x0), (.int .i64 x1)]) 2).bind fun b2 =>
    let h3 := AHeap.put h1 (nx + 5) (some b2)
    (ldR h3 (nx + 5) 0 2).bind fun l4 =>
    (asAgg 2 (AV.agg l4)).bind fun d5 =>
    (asI .i64 (d5.getD 0 .bad)).bind fun n6 =>
    (asI .i64 (d5.getD 1 .bad)).bind fun n7 =>
    ((callP Try.prog keepT n) Y 38 [(.agg [(.int .i64 n6), (.int .i64 n7)])] h3 (nx + 20)).bind fun r8 =>
    (asB r8.1).bind fun t9 =>
    if (!t9) = true then
    (some ((.tuple [(.slice none 0 false), (.int .i64 2)]), r8.2.1, (r8.2.2 + 2)))
    else
    (((callP Try.prog keepT n) Y 39 [(.int .i64 x3)] r8.2.1 r8.2.2).bind fun r10 =>
    (asB r10.1).bind fun t11 =>
    if (!t11) = true then
    (some ((.tuple [(.slice none 0 false), (.int .i64 2)]), r10.2.1, (r10.2.2 + 2)))
    else
    (((callP Try.prog keepT n) Y 40 [(.int .i64 x2)] r10.2.1 r10.2.2).bind fun r12 =>
    (asB r12.1).bind fun t13 =>
    if (!t13) = true then
    (some ((.tuple [(.slice none 0 false), (.int .i64 2)]), r12.2.1, (r12.2.2 + 2)))
    else
    (F28_J1 (callP Try.prog keepT n) Y n x0 x1 x2 x3 r12.2.1 r12.2.2))) := F28_eq' go1 n Y x0 x1 x2 x3 h nx

noncomputable def c29 : Code := (Try.f29.body).getD .skip

noncomputable def r29 : List ResultVar := Try.f29.results.toList

theorem F29_eq' (J : StepF (AV × AHeap × Nat) → StepF (AV × AHeap × Nat)) (n : Nat) (Y : YldF) (x0 : AV) (x1 : Option (Nat × Nat)) (x2 : Option (Nat × Nat)) (h : AHeap) (nx : Nat) : rootJ J Try.prog keepT (callP Try.prog keepT n) Y n 29 [x0, (.ptr x1), (.ptr x2)] h nx =
    if allOne (AV.cells x0) = true then
    (let h1 := AHeap.put h nx (some ⟨(AV.cells x0), 1, true⟩)
    (x1).bind fun p2 =>
    (ldA h1 p2.1 p2.2).bind fun v3 =>
    (asI .i64 v3).bind fun n4 =>
    if (decide (0 ≤ (0 : Int)) && decide ((0 : Int) ≤ n4) && decide (((8 : Nat) : Int) * n4 ≤ 281474976710656) && decide ((n4 : Int) ≤ 9223372036854775807) && 1 != 0) = true then
    (let h5 := AHeap.put h1 (nx + 2) (some ⟨(madeA [(.int .i64 0)] (Int.toNat 0 * 1)), 1, true⟩)
    let h6 := AHeap.put h5 (nx + 3) (some ⟨[(.slice none 0 false)], 1, true⟩)
    (stA h6 (nx + 3) 0 (.slice (some ((nx + 2), 0)) (Int.toNat 0) (0 == n4)) 1).bind fun b7 =>
    let h8 := AHeap.put h6 (nx + 3) (some b7)
    let h9 := AHeap.put h8 (nx + 5) (some ⟨[.nilFn], 1, true⟩)
    (stA h9 (nx + 5) 0 (.fn 30 [] [(.ptr (some ((nx + 3), 0))), (.ptr x1), (.ptr (some (nx, 0))), (.ptr x2), (.ptr (some ((nx + 5), 0)))]) 1).bind fun b10 =>
    let h11 := AHeap.put h9 (nx + 5) (some b10)
    (ldA h11 (nx + 5) 0).bind fun v12 =>
    (asCal v12).bind fun q14 =>
    (callC ((callP Try.prog keepT n) Y) Y q14.1 (q14.2.1 ++ [(.int .i64 0)] ++ q14.2.2) h11 (nx + 10)).bind fun r13 =>
    (asB r13.1).bind fun t15 =>
    some ((.tuple []), r13.2.1, r13.2.2))
    else none)
    else none := by kernel_rfl

/-- quickset/comb.Each$1 -/
theorem F29_eq (n : Nat) (Y : YldF) (x0 : AV) (x1 : Option (Nat × Nat)) (x2 : Option (Nat × Nat)) (h : AHeap) (nx : Nat) : callP Try.prog keepT (n + 1) Y 29 [x0, (.ptr x1), (.ptr x2)] h nx =
    if allOne (AV.cells x0) = true then
    (let h1 := AHeap.put h nx (some ⟨(AV.cells x0), 1, true⟩)
    (x1).bind fun p2 =>
    (ldA h1 p2.1 p2.2).bind fun v3 =>
    (asI .i64 v3).bind fun n4 =>
    if (decide (0 ≤ (0 : Int)) && decide ((0 : Int) ≤ n4) && decide (((8 : Nat) : Int) * n4 ≤ 281474976710656) && decide ((n4 : Int) ≤ 9223372036854775807) && 1 != 0) = true then
    (let h5 := AHeap.put h1 (nx + 2) (some ⟨(madeA [(.int .i64 0)] (Int.toNat 0 * 1)), 1, true⟩)
    let h6 := AHeap.put h5 (nx + 3) (some ⟨[(.slice none 0 false)], 1, true⟩)
    (stA h6 (nx + 3) 0 (.slice (some ((nx + 2), 0)) (Int.toNat 0) (0 == n4)) 1).bind fun b7 =>
    let h8 := AHeap.put h6 (nx + 3) (some b7)
    let h9 := AHeap.put h8 (nx + 5) (some ⟨[.nilFn], 1, true⟩)
    (stA h9 (nx + 5) 0 (.fn 30 [] [(.ptr (some ((nx + 3), 0))), (.ptr x1), (.ptr (some (nx, 0))), (.ptr x2), (.ptr (some ((nx + 5), 0)))]) 1).bind fun b10 =>
    let h11 := AHeap.put h9 (nx + 5) (some b10)
    (ldA h11 (nx + 5) 0).bind fun v12 =>
    (asCal v12).bind fun q14 =>
    (callC ((callP Try.prog keepT n) Y) Y q14.1 (q14.2.1 ++ [(.int .i64 0)] ++ q14.2.2) h11 (nx + 10)).bind fun r13 =>
    (asB r13.1).bind fun t15 =>
    some ((.tuple []), r13.2.1, r13.2.2))
    else none)
    else none := F29_eq' go1 n Y x0 x1 x2 h nx

noncomputable def c31 : Code := (Try.f31.body).getD .skip

noncomputable def r31 : List ResultVar := Try.f31.results.toList

noncomputable def F31_J1' (W J : StepF (AV × AHeap × Nat) → StepF (AV × AHeap × Nat)) (call : YldF → CallF) (Y : YldF) (lf : Nat) (x0a : Option (Nat × Nat)) (x0n : Nat) (x0c : Bool) (x1 : Int) (x2a : Option (Nat × Nat)) (x2n : Nat) (x2c : Bool) (x8 : Int) (h : AHeap) (nx : Nat) : Option (AV × AHeap × Nat) :=
  goK W J drawK (machOf Try.prog) call Y (keepT 31) lf c31 [1, 1, 1] [] (retK (machOf Try.prog) ⟨c31, 89, r31, keepT 31⟩) ⟨89, mkL [(0, (.slice x0a x0n x0c)), (1, (.int .i64 x1)), (2, (.slice x2a x2n x2c)), (8, (.int .i64 x8))]⟩ h nx

noncomputable def F31_J1 (call : YldF → CallF) (Y : YldF) (lf : Nat) (x0a : Option (Nat × Nat)) (x0n : Nat) (x0c : Bool) (x1 : Int) (x2a : Option (Nat × Nat)) (x2n : Nat) (x2c : Bool) (x8 : Int) (h : AHeap) (nx : Nat) : Option (AV × AHeap × Nat) := F31_J1' go1 go1 call Y lf x0a x0n x0c x1 x2a x2n x2c x8 h nx

noncomputable def F31_L2' (W J : StepF (AV × AHeap × Nat) → StepF (AV × AHeap × Nat)) (call : YldF → CallF) (Y : YldF) (lf : Nat) (n0 : Nat) (x0a : Option (Nat × Nat)) (x0n : Nat) (x0c : Bool) (x1 : Int) (x2a : Option (Nat × Nat)) (x2n : Nat) (x2c : Bool) (x8 : Int) (x9a : Option (Nat × Nat)) (x9n : Nat) (x9c : Bool) (x10 : Int) (x35a : Option (Nat × Nat)) (x35n : Nat) (x35c : Bool) (x36 : Int) (x37 : Int) (h : AHeap) (nx : Nat) : Option (AV × AHeap × Nat) :=
  goK W J drawK (machOf Try.prog) call Y (keepT 31) lf c31 [1, 1, 1, 1, 1, 0, 1, 0, 9] [n0] (retK (machOf Try.prog) ⟨c31, 89, r31, keepT 31⟩) ⟨89, mkL [(0, (.slice x0a x0n x0c)), (1, (.int .i64 x1)), (2, (.slice x2a x2n x2c)), (8, (.int .i64 x8)), (9, (.slice x9a x9n x9c)), (10, (.int .i64 x10)), (35, (.slice x35a x35n x35c)), (36, (.int .i64 x36)), (37, (.int .i64 x37))]⟩ h nx

noncomputable def F31_L2 (call : YldF → CallF) (Y : YldF) (lf : Nat) (n0 : Nat) (x0a : Option (Nat × Nat)) (x0n : Nat) (x0c : Bool) (x1 : Int) (x2a : Option (Nat × Nat)) (x2n : Nat) (x2c : Bool) (x8 : Int) (x9a : Option (Nat × Nat)) (x9n : Nat) (x9c : Bool) (x10 : Int) (x35a : Option (Nat × Nat)) (x35n : Nat) (x35c : Bool) (x36 : Int) (x37 : Int) (h : AHeap) (nx : Nat) : Option (AV × AHeap × Nat) := F31_L2' go1 go1 call Y lf n0 x0a x0n x0c x1 x2a x2n x2c x8 x9a x9n x9c x10 x35a x35n x35c x36 x37 h nx

noncomputable def F31_J3' (W J : StepF (AV × AHeap × Nat) → StepF (AV × AHeap × Nat)) (call : YldF → CallF) (Y : YldF) (lf : Nat) (x0a : Option (Nat × Nat)) (x0n : Nat) (x0c : Bool) (x2a : Option (Nat × Nat)) (x2n : Nat) (x2c : Bool) (x8 : Int) (x9a : Option (Nat × Nat)) (x9n : Nat) (x9c : Bool) (x10 : Int) (h : AHeap) (nx : Nat) : Option (AV × AHeap × Nat) :=
  goK W J drawK (machOf Try.prog) call Y (keepT 31) lf c31 [1, 1, 1, 1, 1, 1, 1] [] (retK (machOf Try.prog) ⟨c31, 89, r31, keepT 31⟩) ⟨89, mkL [(0, (.slice x0a x0n x0c)), (2, (.slice x2a x2n x2c)), (8, (.int .i64 x8)), (9, (.slice x9a x9n x9c)), (10, (.int .i64 x10))]⟩ h nx

noncomputable def F31_J3 (call : YldF → CallF) (Y : YldF) (lf : Nat) (x0a : Option (Nat × Nat)) (x0n : Nat) (x0c : Bool) (x2a : Option (Nat × Nat)) (x2n : Nat) (x2c : Bool) (x8 : Int) (x9a : Option (Nat × Nat)) (x9n : Nat) (x9c : Bool) (x10 : Int) (h : AHeap) (nx : Nat) : Option (AV × AHeap × Nat) := F31_J3' go1 go1 call Y lf x0a x0n x0c x2a x2n x2c x8 x9a x9n x9c x10 h nx

theorem F31_J1_eq' (J : StepF (AV × AHeap × Nat) → StepF (AV × AHeap × Nat)) (call : YldF → CallF) (Y : YldF) (lf : Nat) (x0a : Option (Nat × Nat)) (x0n : Nat) (x0c : Bool) (x1 : Int) (x2a : Option (Nat × Nat)) (x2n : Nat) (x2c : Bool) (x8 : Int) (h : AHeap) (nx : Nat) : F31_J1' go1 J call Y lf x0a x0n x0c x1 x2a x2n x2c x8 h nx =
    if (decide (0 ≤ (((x0n : Nat) : Int) : Int)) && decide ((((x0n : Nat) : Int) : Int) ≤ ((x0n : Nat) : Int)) && decide (((1 : Nat) : Int) * ((x0n : Nat) : Int) ≤ 281474976710656) && decide ((((x0n : Nat) : Int) : Int) ≤ 9223372036854775807) && 1 != 0) = true then
    (let h1 := AHeap.put h (nx + 2) (some ⟨(madeA [(.bool false)] (Int.toNat ((x0n : Nat) : Int) * 1)), 1, true⟩)
    F31_L2' J J call Y lf lf x0a x0n x0c x1 x2a x2n x2c x8 (some ((nx + 2), 0)) (Int.toNat ((x0n : Nat) : Int)) (((x0n : Nat) : Int) == ((x0n : Nat) : Int)) 0 x2a x2n x2c ((x2n : Nat) : Int) 0 h1 (nx + 8))
    else none := by kernel_rfl

theorem F31_J1_eq (call : YldF → CallF) (Y : YldF) (lf : Nat) (x0a : Option (Nat × Nat)) (x0n : Nat) (x0c : Bool) (x1 : Int) (x2a : Option (Nat × Nat)) (x2n : Nat) (x2c : Bool) (x8 : Int) (h : AHeap) (nx : Nat) : F31_J1 call Y lf x0a x0n x0c x1 x2a x2n x2c x8 h nx =
    if (decide (0 ≤ (((x0n : Nat) : Int) : Int)) && decide ((((x0n : Nat) : Int) : Int) ≤ ((x0n : Nat) : Int)) && decide (((1 : Nat) : Int) * ((x0n : Nat) : Int) ≤ 281474976710656) && decide ((((x0n : Nat) : Int) : Int) ≤ 9223372036854775807) && 1 != 0) = true then
    (let h1 := AHeap.put h (nx + 2) (some ⟨(madeA [(.bool false)] (Int.toNat ((x0n : Nat) : Int) * 1)), 1, true⟩)
    F31_L2 call Y lf lf x0a x0n x0c x1 x2a x2n x2c x8 (some ((nx + 2), 0)) (Int.toNat ((x0n : Nat) : Int)) (((x0n : Nat) : Int) == ((x0n : Nat) : Int)) 0 x2a x2n x2c ((x2n : Nat) : Int) 0 h1 (nx + 8))
    else none := F31_J1_eq' go1 call Y lf x0a x0n x0c x1 x2a x2n x2c x8 h nx

theorem F31_L2_eq' (J : StepF (AV × AHeap × Nat) → StepF (AV × AHeap × Nat)) (call : YldF → CallF) (Y : YldF) (lf : Nat) (n0 : Nat) (x0a : Option (Nat × Nat)) (x0n : Nat) (x0c : Bool) (x1 : Int) (x2a : Option (Nat × Nat)) (x2n : Nat) (x2c : Bool) (x8 : Int) (x9a : Option (Nat × Nat)) (x9n : Nat) (x9c : Bool) (x10 : Int) (x35a : Option (Nat × Nat)) (x35n : Nat) (x35c : Bool) (x36 : Int) (x37 : Int) (h : AHeap) (nx : Nat) : F31_L2' go1 J call Y lf (n0 + 1) x0a x0n x0c x1 x2a x2n x2c x8 x9a x9n x9c x10 x35a x35n x35c x36 x37 h nx =
    if (decide ((x37 : Int) < x36)) = true then
    ((x35a).bind fun p1 =>
    if 0 ≤ (x37 : Int) ∧ x37 < ((x35n : Nat) : Int) then
    ((ldA h p1.1 (p1.2 + Int.toNat x37 * 1)).bind fun v2 =>
    (asI .i64 v2).bind fun n3 =>
    if (decide ((n3 : Int) < 0)) = true then
    ((call Y 41 [(.slice x0a x0n x0c), (.slice x2a x2n x2c), (.int .i64 2)] h (nx + 20)).bind fun r4 =>
    (asTup 2 r4.1).bind fun d5 =>
    (asSl (d5.getD 0 .bad)).bind fun s6 =>
    (asI .i64 (d5.getD 1 .bad)).bind fun n7 =>
    some ((.tuple [(.slice s6.1 s6.2.1 s6.2.2), (.int .i64 n7)]), r4.2.1, r4.2.2))
    else
    (if (decide ((n3 : Int) ≥ ((x0n : Nat) : Int))) = true then
    ((call Y 41 [(.slice x0a x0n x0c), (.slice x2a x2n x2c), (.int .i64 2)] h (nx + 20)).bind fun r8 =>
    (asTup 2 r8.1).bind fun d9 =>
    (asSl (d9.getD 0 .bad)).bind fun s10 =>
    (asI .i64 (d9.getD 1 .bad)).bind fun n11 =>
    some ((.tuple [(.slice s10.1 s10.2.1 s10.2.2), (.int .i64 n11)]), r8.2.1, r8.2.2))
    else
    ((x9a).bind fun p12 =>
    if 0 ≤ (n3 : Int) ∧ n3 < ((x9n : Nat) : Int) then
    ((ldA h p12.1 (p12.2 + Int.toNat n3 * 1)).bind fun v13 =>
    (asB v13).bind fun t14 =>
    if t14 = true then
    (F31_L2' J J call Y lf n0 x0a x0n x0c x1 x2a x2n x2c x8 x9a x9n x9c 7 x35a x35n x35c x36 (wrapA .i64 (x37 + 1)) h (nx + 21))
    else
    ((x9a).bind fun p15 =>
    if 0 ≤ (n3 : Int) ∧ n3 < ((x9n : Nat) : Int) then
    ((stA h p15.1 (p15.2 + Int.toNat n3 * 1) (.bool true) 1).bind fun b16 =>
    let h17 := AHeap.put h p15.1 (some b16)
    F31_L2' J J call Y lf n0 x0a x0n x0c x1 x2a x2n x2c x8 x9a x9n x9c x10 x35a x35n x35c x36 (wrapA .i64 (x37 + 1)) h17 (nx + 24))
    else none))
    else none)))
    else none)
    else
    (if ((x10 : Int) == 0) = true then
    (if (decide ((((x2n : Nat) : Int) : Int) > x1)) = true then
    (F31_J3' J J call Y lf x0a x0n x0c x2a x2n x2c x8 x9a x9n x9c 12 h (nx + 10))
    else
    (F31_J3' J J call Y lf x0a x0n x0c x2a x2n x2c x8 x9a x9n x9c x10 h (nx + 9)))
    else
    (F31_J3' J J call Y lf x0a x0n x0c x2a x2n x2c x8 x9a x9n x9c x10 h (nx + 9))) := by kernel_rfl

theorem F31_L2_eq (call : YldF → CallF) (Y : YldF) (lf : Nat) (n0 : Nat) (x0a : Option (Nat × Nat)) (x0n : Nat) (x0c : Bool) (x1 : Int) (x2a : Option (Nat × Nat)) (x2n : Nat) (x2c : Bool) (x8 : Int) (x9a : Option (Nat × Nat)) (x9n : Nat) (x9c : Bool) (x10 : Int) (x35a : Option (Nat × Nat)) (x35n : Nat) (x35c : Bool) (x36 : Int) (x37 : Int) (h : AHeap) (nx : Nat) : F31_L2 call Y lf (n0 + 1) x0a x0n x0c x1 x2a x2n x2c x8 x9a x9n x9c x10 x35a x35n x35c x36 x37 h nx =
    if (decide ((x37 : Int) < x36)) = true then
    ((x35a).bind fun p1 =>
    if 0 ≤ (x37 : Int) ∧ x37 < ((x35n : Nat) : Int) then
    ((ldA h p1.1 (p1.2 + Int.toNat x37 * 1)).bind fun v2 =>
    (asI .i64 v2).bind fun n3 =>
    if (decide ((n3 : Int) < 0)) = true then
    ((call Y 41 [(.slice x0a x0n x0c), (.slice x2a x2n x2c), (.int .i64 2)] h (nx + 20)).bind fun r4 =>
    (asTup 2 r4.1).bind fun d5 =>
    (asSl (d5.getD 0 .bad)).bind fun s6 =>
    (asI .i64 (d5.getD 1 .bad)).bind fun n7 =>
    some ((.tuple [(.slice s6.1 s6.2.1 s6.2.2), (.int .i64 n7)]), r4.2.1, r4.2.2))
    else
    (if (decide ((n3 : Int) ≥ ((x0n : Nat) : Int))) = true then
    ((call Y 41 [(.slice x0a x0n x0c), (.slice x2a x2n x2c), (.int .i64 2)] h (nx + 20)).bind fun r8 =>
    (asTup 2 r8.1).bind fun d9 =>
    (asSl (d9.getD 0 .bad)).bind fun s10 =>
    (asI .i64 (d9.getD 1 .bad)).bind fun n11 =>
    some ((.tuple [(.slice s10.1 s10.2.1 s10.2.2), (.int .i64 n11)]), r8.2.1, r8.2.2))
    else
    ((x9a).bind fun p12 =>
    if 0 ≤ (n3 : Int) ∧ n3 < ((x9n : Nat) : Int) then
    ((ldA h p12.1 (p12.2 + Int.toNat n3 * 1)).bind fun v13 =>
    (asB v13).bind fun t14 =>
    if t14 = true then
    (F31_L2 call Y lf n0 x0a x0n x0c x1 x2a x2n x2c x8 x9a x9n x9c 7 x35a x35n x35c x36 (wrapA .i64 (x37 + 1)) h (nx + 21))
    else
    ((x9a).bind fun p15 =>
    if 0 ≤ (n3 : Int) ∧ n3 < ((x9n : Nat) : Int) then
    ((stA h p15.1 (p15.2 + Int.toNat n3 * 1) (.bool true) 1).bind fun b16 =>
    let h17 := AHeap.put h p15.1 (some b16)
    F31_L2 call Y lf n0 x0a x0n x0c x1 x2a x2n x2c x8 x9a x9n x9c x10 x35a x35n x35c x36 (wrapA .i64 (x37 + 1)) h17 (nx + 24))
    else none))
    else none)))
    else none)
    else
    (if ((x10 : Int) == 0) = true then
    (if (decide ((((x2n : Nat) : Int) : Int) > x1)) = true then
    (F31_J3 call Y lf x0a x0n x0c x2a x2n x2c x8 x9a x9n x9c 12 h (nx + 10))
    else
    (F31_J3 call Y lf x0a x0n x0c x2a x2n x2c x8 x9a x9n x9c x10 h (nx + 9)))
    else
    (F31_J3 call Y lf x0a x0n x0c x2a x2n x2c x8 x9a x9n x9c x10 h (nx + 9))) := F31_L2_eq' go1 call Y lf n0 x0a x0n x0c x1 x2a x2n x2c x8 x9a x9n x9c x10 x35a x35n x35c x36 x37 h nx

theorem F31_L2_zero (call : YldF → CallF) (Y : YldF) (lf : Nat) (x0a : Option (Nat × Nat)) (x0n : Nat) (x0c : Bool) (x1 : Int) (x2a : Option (Nat × Nat)) (x2n : Nat) (x2c : Bool) (x8 : Int) (x9a : Option (Nat × Nat)) (x9n : Nat) (x9c : Bool) (x10 : Int) (x35a : Option (Nat × Nat)) (x35n : Nat) (x35c : Bool) (x36 : Int) (x37 : Int) (h : AHeap) (nx : Nat) : F31_L2 call Y lf 0 x0a x0n x0c x1 x2a x2n x2c x8 x9a x9n x9c x10 x35a x35n x35c x36 x37 h nx = none := by kernel_rfl

theorem F31_J3_eq' (J : StepF (AV × AHeap × Nat) → StepF (AV × AHeap × Nat)) (call : YldF → CallF) (Y : YldF) (lf : Nat) (x0a : Option (Nat × Nat)) (x0n : Nat) (x0c : Bool) (x2a : Option (Nat × Nat)) (x2n : Nat) (x2c : Bool) (x8 : Int) (x9a : Option (Nat × Nat)) (x9n : Nat) (x9c : Bool) (x10 : Int) (h : AHeap) (nx : Nat) : F31_J3' go1 J call Y lf x0a x0n x0c x2a x2n x2c x8 x9a x9n x9c x10 h nx =
    if ((x10 : Int) != 0) = true then
    ((call Y 41 [(.slice x0a x0n x0c), (.slice x2a x2n x2c), (.int .i64 x10)] h (nx + 10)).bind fun r1 =>
    (asTup 2 r1.1).bind fun d2 =>
    (asSl (d2.getD 0 .bad)).bind fun s3 =>
    (asI .i64 (d2.getD 1 .bad)).bind fun n4 =>
    some ((.tuple [(.slice s3.1 s3.2.1 s3.2.2), (.int .i64 n4)]), r1.2.1, r1.2.2))
    else
    ((call Y 43 [(.slice x0a x0n x0c), (.slice x9a x9n x9c)] h (nx + 7)).bind fun r5 =>
    (asSl r5.1).bind fun s6 =>
    (call Y 42 [(.slice s6.1 s6.2.1 s6.2.2)] r5.2.1 r5.2.2).bind fun r7 =>
    (asB r7.1).bind fun t8 =>
    if (!t8) = true then
    (some ((.tuple [(.slice none 0 false), (.int .i64 4)]), r7.2.1, (r7.2.2 + 2)))
    else
    ((call Y 44 [(.slice x0a x0n x0c), (.int .i64 x8), (.slice x9a x9n x9c)] r7.2.1 (r7.2.2 + 6)).bind fun r9 =>
    (asSl r9.1).bind fun s10 =>
    some ((.tuple [(.slice s10.1 s10.2.1 s10.2.2), (.int .i64 0)]), r9.2.1, r9.2.2))) := by kernel_rfl

theorem F31_J3_eq (call : YldF → CallF) (Y : YldF) (lf : Nat) (x0a : Option (Nat × Nat)) (x0n : Nat) (x0c : Bool) (x2a : Option (Nat × Nat)) (x2n : Nat) (x2c : Bool) (x8 : Int) (x9a : Option (Nat × Nat)) (x9n : Nat) (x9c : Bool) (x10 : Int) (h : AHeap) (nx : Nat) : F31_J3 call Y lf x0a x0n x0c x2a x2n x2c x8 x9a x9n x9c x10 h nx =
    if ((x10 : Int) != 0) = true then
    ((call Y 41 [(.slice x0a x0n x0c), (.slice x2a x2n x2c), (.int .i64 x10)] h (nx + 10)).bind fun r1 =>
    (asTup 2 r1.1).bind fun d2 =>
    (asSl (d2.getD 0 .bad)).bind fun s3 =>
    (asI .i64 (d2.getD 1 .bad)).bind fun n4 =>
    some ((.tuple [(.slice s3.1 s3.2.1 s3.2.2), (.int .i64 n4)]), r1.2.1, r1.2.2))
    else
    ((call Y 43 [(.slice x0a x0n x0c), (.slice x9a x9n x9c)] h (nx + 7)).bind fun r5 =>
    (asSl r5.1).bind fun s6 =>
    (call Y 42 [(.slice s6.1 s6.2.1 s6.2.2)] r5.2.1 r5.2.2).bind fun r7 =>
    (asB r7.1).bind fun t8 =>
    if (!t8) = true then
    (some ((.tuple [(.slice none 0 false), (.int .i64 4)]), r7.2.1, (r7.2.2 + 2)))
    else
    ((call Y 44 [(.slice x0a x0n x0c), (.int .i64 x8), (.slice x9a x9n x9c)] r7.2.1 (r7.2.2 + 6)).bind fun r9 =>
    (asSl r9.1).bind fun s10 =>
    some ((.tuple [(.slice s10.1 s10.2.1 s10.2.2), (.int .i64 0)]), r9.2.1, r9.2.2))) := F31_J3_eq' go1 call Y lf x0a x0n x0c x2a x2n x2c x8 x9a x9n x9c x10 h nx

theorem F31_eq' (J : StepF (AV × AHeap × Nat) → StepF (AV × AHeap × Nat)) (n : Nat) (Y : YldF) (x0a : Option (Nat × Nat)) (x0n : Nat) (x0c : Bool) (x1 : Int) (x2a : Option (Nat × Nat)) (x2n : Nat) (x2c : Bool) (h : AHeap) (nx : Nat) : rootJ J Try.prog keepT (callP Try.prog keepT n) Y n 31 [(.slice x0a x0n x0c), (.int .i64 x1), (.slice x2a x2n x2c)] h nx =
    ((callP Try.prog keepT n) Y 36 [(.int .i64 x1)] h (nx + 22)).bind fun r1 =>
    (asB r1.1).bind fun t2 =>
    if (!t2) = true then
    (some ((.tuple [(.slice none 0 false), (.int .i64 2)]), r1.2.1, (r1.2.2 + 2)))
    else
    (if (decide (((wrapA .i64 (((x0n : Nat) : Int) - (if (if x1 > 0 then x1 else 0) < ((x0n : Nat) : Int) then (if x1 > 0 then x1 else 0) else ((x0n : Nat) : Int)))) : Int) < 1)) = true then
    (some ((.tuple [(.slice none 0 false), (.int .i64 2)]), r1.2.1, (r1.2.2 + 2)))
    else
    (if (decide (((wrapA .i64 (((x0n : Nat) : Int) - (if (if x1 > 0 then x1 else 0) < ((x0n : Nat) : Int) then (if x1 > 0 then x1 else 0) else ((x0n : Nat) : Int)))) : Int) > 12)) = true then
    (some ((.tuple [(.slice none 0 false), (.int .i64 2)]), r1.2.1, (r1.2.2 + 2)))
    else
    (F31_J1' J J (callP Try.prog keepT n) Y n x0a x0n x0c x1 x2a x2n x2c (wrapA .i64 (((x0n : Nat) : Int) - (if (if x1 > 0 then x1 else 0) < ((x0n : Nat) : Int) then (if x1 > 0 then x1 else 0) else ((x0n : Nat) : Int)))) r1.2.1 r1.2.2))) := by kernel_rfl

/-- quickset/par.Rebuild -/
theorem F31_eq (n : Nat) (Y : YldF) (x0a : Option (Nat × Nat)) (x0n : Nat) (x0c : Bool) (x1 : Int) (x2a : Option (Nat × Nat)) (x2n : Nat) (x2c : Bool) (h : AHeap) (nx : Nat) : callP Try.prog keepT (n + 1) Y 31 [(.slice x0a x0n x0c), (.int .i64 x1), (.slice x2a x2n x2c)] h nx =
    ((callP Try.prog keepT n) Y 36 [(.int .i64 x1)] h (nx + 22)).bind fun r1 =>
    (asB r1.1).bind fun t2 =>
    if (!t2) = true then
    (some ((.tuple [(.slice none 0 false), (.int .i64 2)]), r1.2.1, (r1.2.2 + 2)))
    else
    (if (decide (((wrapA .i64 (((x0n : Nat) : Int) - (if (if x1 > 0 then x1 else 0) < ((x0n : Nat) : Int) then (if x1 > 0 then x1 else 0) else ((x0n : Nat) : Int)))) : Int) < 1)) = true then
    (some ((.tuple [(.slice none 0 false), (.int .i64 2)]), r1.2.1, (r1.2.2 + 2)))
    else
    (if (decide (((wrapA .i64 (((x0n : Nat) : Int) - (if (if x1 > 0 then x1 else 0) < ((x0n : Nat) : Int) then (if x1 > 0 then x1 else 0) else ((x0n : Nat) : Int)))) : Int) > 12)) = true then
    (some ((.tuple [(.slice none 0 false), (.int .i64 2)]), r1.2.1, (r1.2.2 + 2)))
    else
    (F31_J1 (callP Try.prog keepT n) Y n x0a x0n x0c x1 x2a x2n x2c (wrapA .i64 (((x0n : Nat) : Int) - (if (if x1 > 0 then x1 else 0) < ((x0n : Nat) : Int) then (if x1 > 0 then x1 else 0) else ((x0n : Nat) : Int)))) r1.2.1 r1.2.2))) := F31_eq' go1 n Y x0a x0n x0c x1 x2a x2n x2c h nx

noncomputable def c32 : Code := (Try.f32.body).getD .skip

noncomputable def r32 : List ResultVar := Try.f32.results.toList

theorem F32_eq' (J : StepF (AV × AHeap × Nat) → StepF (AV × AHeap × Nat)) (n : Nat) (Y : YldF) (x0_0 : Int) (x0_1 : Int) (x0_2 : Int) (x0_3 : Int) (h : AHeap) (nx : Nat) : rootJ J Try.prog keepT (callP Try.prog keepT n) Y n 32 [(.agg [(.int .i64 x0_0), (.int .i64 x0_1), (.int .i64 x0_2), (.int .i64 x0_3)])] h nx =
    let h1 := AHeap.put h nx (some ⟨[(.int .i64 x0_0), (.int .i64 x0_1), (.int .i64 x0_2), (.int .i64 x0_3)], 4, true⟩)
    let h2 := AHeap.put h1 (nx + 1) (some ⟨[(.int .i64 0), (.int .i64 0), (.int .i64 0), (.int .i64 0)], 1, true⟩)
    (ldA h2 nx 0).bind fun v3 =>
    (asI .i64 v3).bind fun n4 =>
    (ldA h2 nx 1).bind fun v5 =>
    (asI .i64 v5).bind fun n6 =>
    (ldA h2 nx 2).bind fun v7 =>
    (asI .i64 v7).bind fun n8 =>
    (ldA h2 nx 3).bind fun v9 =>
    (asI .i64 v9).bind fun n10 =>
    (stA h2 (nx + 1) 0 (.agg [(.int .i64 n4), (.int .i64 n6), (.int .i64 n8), (.int .i64 n10)]) 4).bind fun b11 =>
    let h12 := AHeap.put h2 (nx + 1) (some b11)
    (ldR h12 (nx + 1) 0 4).bind fun l13 =>
    some ((.agg l13), h12, (nx + 12)) := by kernel_rfl

/-- quickset/flet.of -/
theorem F32_eq (n : Nat) (Y : YldF) (x0_0 : Int) (x0_1 : Int) (x0_2 : Int) (x0_3 : Int) (h : AHeap) (nx : Nat) : callP Try.prog keepT (n + 1) Y 32 [(.agg [(.int .i64 x0_0), (.int .i64 x0_1), (.int .i64 x0_2), (.int .i64 x0_3)])] h nx =
    let h1 := AHeap.put h nx (some ⟨[(.int .i64 x0_0), (.int .i64 x0_1), (.int .i64 x0_2), (.int .i64 x0_3)], 4, true⟩)
    let h2 := AHeap.put h1 (nx + 1) (some ⟨[(.int .i64 0), (.int .i64 0), (.int .i64 0), (.int .i64 0)], 1, true⟩)
    (ldA h2 nx 0).bind fun v3 =>
    (asI .i64 v3).bind fun n4 =>
    (ldA h2 nx 1).bind fun v5 =>
    (asI .i64 v5).bind fun n6 =>
    (ldA h2 nx 2).bind fun v7 =>
    (asI .i64 v7).bind fun n8 =>
    (ldA h2 nx 3).bind fun v9 =>
    (asI .i64 v9).bind fun n10 =>
    (stA h2 (nx + 1) 0 (.agg [(.int .i64 n4), (.int .i64 n6), (.int .i64 n8), (.int .i64 n10)]) 4).bind fun b11 =>
    let h12 := AHeap.put h2 (nx + 1) (some b11)
    (ldR h12 (nx + 1) 0 4).bind fun l13 =>
    some ((.agg l13), h12, (nx + 12)) := F32_eq' go1 n Y x0_0 x0_1 x0_2 x0_3 h nx

noncomputable def c33 : Code := (Try.f33.body).getD .skip

noncomputable def r33 : List ResultVar := Try.f33.results.toList

noncomputable def F33_L1' (W J : StepF (AV × AHeap × Nat) → StepF (AV × AHeap × Nat)) (call : YldF → CallF) (Y : YldF) (lf : Nat) (n0 : Nat) (x1 : Int) (x2 : Option (Nat × Nat)) (x4 : Option (Nat × Nat)) (x6 : Int) (h : AHeap) (nx : Nat) : Option (AV × AHeap × Nat) :=
  goK W J drawK (machOf Try.prog) call Y (keepT 33) lf c33 [1, 0, 1, 0, 9] [n0] (retK (machOf Try.prog) ⟨c33, 20, r33, keepT 33⟩) ⟨20, mkL [(1, (.int .i64 x1)), (2, (.ptr x2)), (4, (.ptr x4)), (6, (.int .i64 x6))]⟩ h nx

noncomputable def F33_L1 (call : YldF → CallF) (Y : YldF) (lf : Nat) (n0 : Nat) (x1 : Int) (x2 : Option (Nat × Nat)) (x4 : Option (Nat × Nat)) (x6 : Int) (h : AHeap) (nx : Nat) : Option (AV × AHeap × Nat) := F33_L1' go1 go1 call Y lf n0 x1 x2 x4 x6 h nx

theorem F33_L1_eq' (J : StepF (AV × AHeap × Nat) → StepF (AV × AHeap × Nat)) (call : YldF → CallF) (Y : YldF) (lf : Nat) (n0 : Nat) (x1 : Int) (x2 : Option (Nat × Nat)) (x4 : Option (Nat × Nat)) (x6 : Int) (h : AHeap) (nx : Nat) : F33_L1' go1 J call Y lf (n0 + 1) x1 x2 x4 x6 h nx =
    if (decide ((x6 : Int) < 4)) = true then
    ((x2).bind fun p1 =>
    if 0 ≤ (x6 : Int) ∧ x6 < ((4 : Nat) : Int) then
    ((ldA h p1.1 (p1.2 + Int.toNat x6 * 1)).bind fun v2 =>
    (asI .i64 v2).bind fun n3 =>
    (x2).bind fun p4 =>
    if 0 ≤ (x6 : Int) ∧ x6 < ((4 : Nat) : Int) then
    ((stA h p4.1 (p4.2 + Int.toNat x6 * 1) (.int .i64 (wrapA .i64 (n3 + x1))) 1).bind fun b5 =>
    let h6 := AHeap.put h p4.1 (some b5)
    (x2).bind fun p7 =>
    if 0 ≤ (x6 : Int) ∧ x6 < ((4 : Nat) : Int) then
    ((ldA h6 p7.1 (p7.2 + Int.toNat x6 * 1)).bind fun v8 =>
    (asI .i64 v8).bind fun n9 =>
    F33_L1' J J call Y lf n0 n9 x2 x4 (wrapA .i64 (x6 + 1)) h6 (nx + 16))
    else none)
    else none)
    else none)
    else
    ((x2).bind fun p10 =>
    (ldR h p10.1 p10.2 4).bind fun l11 =>
    (x4).bind fun p12 =>
    (stA h p12.1 p12.2 (.agg l11) 4).bind fun b13 =>
    let h14 := AHeap.put h p12.1 (some b13)
    (x4).bind fun p15 =>
    (ldR h14 p15.1 p15.2 4).bind fun l16 =>
    some ((.agg l16), h14, (nx + 3))) := by kernel_rfl

theorem F33_L1_eq (call : YldF → CallF) (Y : YldF) (lf : Nat) (n0 : Nat) (x1 : Int) (x2 : Option (Nat × Nat)) (x4 : Option (Nat × Nat)) (x6 : Int) (h : AHeap) (nx : Nat) : F33_L1 call Y lf (n0 + 1) x1 x2 x4 x6 h nx =
    if (decide ((x6 : Int) < 4)) = true then
    ((x2).bind fun p1 =>
    if 0 ≤ (x6 : Int) ∧ x6 < ((4 : Nat) : Int) then
    ((ldA h p1.1 (p1.2 + Int.toNat x6 * 1)).bind fun v2 =>
    (asI .i64 v2).bind fun n3 =>
    (x2).bind fun p4 =>
    if 0 ≤ (x6 : Int) ∧ x6 < ((4 : Nat) : Int) then
    ((stA h p4.1 (p4.2 + Int.toNat x6 * 1) (.int .i64 (wrapA .i64 (n3 + x1))) 1).bind fun b5 =>
    let h6 := AHeap.put h p4.1 (some b5)
    (x2).bind fun p7 =>
    if 0 ≤ (x6 : Int) ∧ x6 < ((4 : Nat) : Int) then
    ((ldA h6 p7.1 (p7.2 + Int.toNat x6 * 1)).bind fun v8 =>
    (asI .i64 v8).bind fun n9 =>
    F33_L1 call Y lf n0 n9 x2 x4 (wrapA .i64 (x6 + 1)) h6 (nx + 16))
    else none)
    else none)
    else none)
    else
    ((x2).bind fun p10 =>
    (ldR h p10.1 p10.2 4).bind fun l11 =>
    (x4).bind fun p12 =>
    (stA h p12.1 p12.2 (.agg l11) 4).bind fun b13 =>
    let h14 := AHeap.put h p12.1 (some b13)
    (x4).bind fun p15 =>
    (ldR h14 p15.1 p15.2 4).bind fun l16 =>
    some ((.agg l16), h14, (nx + 3))) := F33_L1_eq' go1 call Y lf n0 x1 x2 x4 x6 h nx

theorem F33_L1_zero (call : YldF → CallF) (Y : YldF) (lf : Nat) (x1 : Int) (x2 : Option (Nat × Nat)) (x4 : Option (Nat × Nat)) (x6 : Int) (h : AHeap) (nx : Nat) : F33_L1 call Y lf 0 x1 x2 x4 x6 h nx = none := by kernel_rfl

theorem F33_eq' (J : StepF (AV × AHeap × Nat) → StepF (AV × AHeap × Nat)) (n : Nat) (Y : YldF) (x0 : List AV) (x1 : Int) (h : AHeap) (nx : Nat) : rootJ J Try.prog keepT (callP Try.prog keepT n) Y n 33 [(.agg x0), (.int .i64 x1)] h nx =
    if allOne x0 = true then
    (let h1 := AHeap.put h nx (some ⟨x0, 1, true⟩)
    let h2 := AHeap.put h1 (nx + 1) (some ⟨[(.int .i64 0), (.int .i64 0), (.int .i64 0), (.int .i64 0)], 1, true⟩)
    F33_L1' J J (callP Try.prog keepT n) Y n n x1 (some (nx, 0)) (some ((nx + 1), 0)) 0 h2 (nx + 3))
    else none := by kernel_rfl

/-- (quickset/flet.sums).word -/
theorem F33_eq (n : Nat) (Y : YldF) (x0 : List AV) (x1 : Int) (h : AHeap) (nx : Nat) : callP Try.prog keepT (n + 1) Y 33 [(.agg x0), (.int .i64 x1)] h nx =
    if allOne x0 = true then
    (let h1 := AHeap.put h nx (some ⟨x0, 1, true⟩)
    let h2 := AHeap.put h1 (nx + 1) (some ⟨[(.int .i64 0), (.int .i64 0), (.int .i64 0), (.int .i64 0)], 1, true⟩)
    F33_L1 (callP Try.prog keepT n) Y n n x1 (some (nx, 0)) (some ((nx + 1), 0)) 0 h2 (nx + 3))
    else none := F33_eq' go1 n Y x0 x1 h nx

noncomputable def c34 : Code := (Try.f34.body).getD .skip

noncomputable def r34 : List ResultVar := Try.f34.results.toList

theorem F34_eq' (J : StepF (AV × AHeap × Nat) → StepF (AV × AHeap × Nat)) (n : Nat) (Y : YldF) (x0 : List AV) (h : AHeap) (nx : Nat) : rootJ J Try.prog keepT (callP Try.prog keepT n) Y n 34 [(.agg x0)] h nx =
    if allOne x0 = true then
    (let h1 := AHeap.put h nx (some ⟨x0, 1, true⟩)
    let h2 := AHeap.put h1 (nx + 1) (some ⟨[(.int .i64 0), (.int .i64 0), (.int .i64 0), (.int .i64 0)], 4, true⟩)
    if 0 ≤ (0 : Int) ∧ 0 < ((4 : Nat) : Int) then
    ((ldA h2 nx (0 + Int.toNat 0 * 1)).bind fun v3 =>
    (asI .i64 v3).bind fun n4 =>
    if 0 ≤ (1 : Int) ∧ 1 < ((4 : Nat) : Int) then
    ((ldA h2 nx (0 + Int.toNat 1 * 1)).bind fun v5 =>
    (asI .i64 v5).bind fun n6 =>
    if 0 ≤ (2 : Int) ∧ 2 < ((4 : Nat) : Int) then
    ((ldA h2 nx (0 + Int.toNat 2 * 1)).bind fun v7 =>
    (asI .i64 v7).bind fun n8 =>
    if 0 ≤ (3 : Int) ∧ 3 < ((4 : Nat) : Int) then
    ((ldA h2 nx (0 + Int.toNat 3 * 1)).bind fun v9 =>
    (asI .i64 v9).bind fun n10 =>
    (stA h2 (nx + 1) 0 (.agg [(.int .i64 n4), (.int .i64 n6), (.int .i64 n8), (.int .i64 n10)]) 4).bind fun b11 =>
    let h12 := AHeap.put h2 (nx + 1) (some b11)
    (ldR h12 (nx + 1) 0 4).bind fun l13 =>
    (asAgg 4 (AV.agg l13)).bind fun d14 =>
    (asI .i64 (d14.getD 0 .bad)).bind fun n15 =>
    (asI .i64 (d14.getD 1 .bad)).bind fun n16 =>
    (asI .i64 (d14.getD 2 .bad)).bind fun n17 =>
    (asI .i64 (d14.getD 3 .bad)).bind fun n18 =>
    some ((.agg [(.int .i64 n15), (.int .i64 n16), (.int .i64 n17), (.int .i64 n18)]), h12, (nx + 12)))
    else none)
    else none)
    else none)
    else none)
    else none := by kernel_rfl

/-- (quickset/flet.sums).sum -/
theorem F34_eq (n : Nat) (Y : YldF) (x0 : List AV) (h : AHeap) (nx : Nat) : callP Try.prog keepT (n + 1) Y 34 [(.agg x0)] h nx =
    if allOne x0 = true then
    (let h1 := AHeap.put h nx (some ⟨x0, 1, true⟩)
    let h2 := AHeap.put h1 (nx + 1) (some ⟨[(.int .i64 0), (.int .i64 0), (.int .i64 0), (.int .i64 0)], 4, true⟩)
    if 0 ≤ (0 : Int) ∧ 0 < ((4 : Nat) : Int) then
    ((ldA h2 nx (0 + Int.toNat 0 * 1)).bind fun v3 =>
    (asI .i64 v3).bind fun n4 =>
    if 0 ≤ (1 : Int) ∧ 1 < ((4 : Nat) : Int) then
    ((ldA h2 nx (0 + Int.toNat 1 * 1)).bind fun v5 =>
    (asI .i64 v5).bind fun n6 =>
    if 0 ≤ (2 : Int) ∧ 2 < ((4 : Nat) : Int) then
    ((ldA h2 nx (0 + Int.toNat 2 * 1)).bind fun v7 =>
    (asI .i64 v7).bind fun n8 =>
    if 0 ≤ (3 : Int) ∧ 3 < ((4 : Nat) : Int) then
    ((ldA h2 nx (0 + Int.toNat 3 * 1)).bind fun v9 =>
    (asI .i64 v9).bind fun n10 =>
    (stA h2 (nx + 1) 0 (.agg [(.int .i64 n4), (.int .i64 n6), (.int .i64 n8), (.int .i64 n10)]) 4).bind fun b11 =>
    let h12 := AHeap.put h2 (nx + 1) (some b11)
    (ldR h12 (nx + 1) 0 4).bind fun l13 =>
    (asAgg 4 (AV.agg l13)).bind fun d14 =>
    (asI .i64 (d14.getD 0 .bad)).bind fun n15 =>
    (asI .i64 (d14.getD 1 .bad)).bind fun n16 =>
    (asI .i64 (d14.getD 2 .bad)).bind fun n17 =>
    (asI .i64 (d14.getD 3 .bad)).bind fun n18 =>
    some ((.agg [(.int .i64 n15), (.int .i64 n16), (.int .i64 n17), (.int .i64 n18)]), h12, (nx + 12)))
    else none)
    else none)
    else none)
    else none)
    else none := F34_eq' go1 n Y x0 h nx

end Go.Proofs.Ytalfcokiooaliaa.T

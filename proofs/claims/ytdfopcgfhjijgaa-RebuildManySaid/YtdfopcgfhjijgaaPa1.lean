/- Printed by mp.py: functions of the program as plain Lean, each by the kernel. -/
import Derived.Test.YtdfopcgfhjijgaaTG
import Derived.Test.YtdfopcgfhjijgaaProg
import Derived.KernelRfl
set_option linter.unusedVariables false
set_option linter.unusedSimpArgs false
namespace Go.Proofs.Ytdfopcgfhjijgaa.T
open Go Go.RowKit Go.Proofs
set_option maxRecDepth 100000

def keepT : Nat → Keep := keepOf [(3, [(0, false, [0, 1, 2]), (1, false, [0, 1, 2]), (2, false, [1, 2, 7]), (3, false, [2, 7, 8]), (4, false, [7, 8, 9]), (5, false, [7, 8, 9, 10]), (6, false, []), (7, true, [7, 8, 9, 10]), (8, false, [7, 8, 9, 10, 11]), (9, false, [7, 9, 10, 11, 12]), (10, false, []), (11, true, [7, 9, 10, 11, 12]), (12, false, [7, 9, 10, 11, 12, 13])]),
  (4, [(0, false, [0, 1, 2]), (1, false, [0, 1, 2]), (2, false, [1, 2, 7]), (3, false, [2, 7, 8]), (4, false, [7, 8, 9]), (5, false, [7, 8, 9, 10, 11]), (6, false, [7, 8, 9, 10, 11, 12, 13]), (7, false, [10, 11, 12, 13, 14, 15]), (8, false, [10, 11, 12, 13, 14, 15, 16, 17]), (9, false, []), (10, true, [10, 12, 14])]),
  (5, [(0, false, [0, 1]), (1, false, [0, 1]), (2, false, [1, 5]), (3, false, [5, 6]), (4, false, [5, 6, 7, 8]), (5, false, [5, 6, 7, 8, 9, 10]), (6, false, [5, 6, 7, 8, 9, 10, 12]), (7, false, []), (8, true, [5, 6, 7, 9])]),
  (6, [(0, false, [0, 1]), (1, false, [0, 1]), (2, false, [1, 5]), (3, false, [5, 6]), (4, false, [5, 6, 7, 8]), (5, false, [5, 6, 7, 8, 9, 10]), (6, false, []), (7, true, [5, 6, 7, 9]), (8, false, [5, 6, 7, 9, 11, 12]), (9, false, [5, 7, 9, 11, 12, 13, 14])]),
  (7, [(0, false, [0, 1, 2, 3, 4, 5, 6]), (1, false, [0, 1, 2, 3, 4, 5, 6]), (2, false, [1, 2, 3, 4, 5, 6, 15]), (3, false, [2, 3, 5, 6, 15, 16]), (4, false, [2, 3, 5, 15, 16, 17]), (5, false, [2, 3, 5, 15, 16, 17, 18, 19]), (6, false, [2, 3, 5, 15, 16, 17, 18, 19, 20, 21]), (7, false, [2, 3, 5, 15, 16, 18, 19, 20, 21, 22, 23]), (8, false, [2, 3, 5, 15, 16, 18, 19, 21, 22, 23, 24, 25]), (9, false, []), (10, true, [2, 5, 15, 16, 18]), (11, false, [15, 16, 18, 26]), (12, false, [15, 18, 26, 27, 28]), (13, false, [18, 26, 28, 29, 30]), (14, false, [28, 29, 30, 31, 32])]),
  (8, [(0, false, [0, 1, 2, 3]), (1, false, [0, 1, 2, 3]), (2, false, [0, 1, 3, 9]), (3, false, [0, 1, 9, 10]), (4, false, [0, 1, 9, 10, 11]), (5, false, [1, 9, 10, 11, 12]), (6, false, [9, 10, 12, 13]), (7, false, [9, 10, 12, 13, 14]), (8, false, [9, 10, 12, 13, 14, 15]), (9, false, [9, 10, 12, 13, 14, 15]), (10, false, [9, 10, 12, 13, 14, 15]), (11, false, [9, 10, 12, 13, 14, 15, 16]), (12, false, [9, 10, 12, 13, 14, 15, 16, 17]), (13, false, [9, 10, 12, 13, 14, 15, 16, 17]), (14, false, [9, 10, 12, 13, 14, 15, 16, 17]), (15, false, [9, 10, 12, 13, 14, 15, 16]), (16, false, [10, 12, 13, 14]), (17, false, [10, 12, 13, 14, 18, 19]), (18, false, [10, 12, 14, 18, 19, 20, 21]), (19, false, [10, 12, 18, 19, 20, 21, 22, 23]), (20, false, []), (21, true, [10, 12, 18, 20, 22]), (22, false, [10, 12, 18, 20, 22, 24]), (23, false, [10, 12, 18, 20, 22, 24]), (24, false, [10, 12, 18, 20, 22, 24]), (25, false, []), (26, true, [10, 12, 18, 20, 22, 24]), (27, false, [10, 12, 18, 20, 22, 24, 25]), (28, false, [10, 12, 18, 20, 22, 24, 25]), (29, false, [10, 12, 18, 20, 22, 24, 25]), (30, false, []), (31, false, [])]),
  (9, [(0, false, [0, 1, 2, 3, 4, 5]), (1, false, [0, 1, 2, 3, 4, 5]), (2, false, [0, 2, 3, 4, 5, 13]), (3, false, [0, 3, 4, 5, 13, 14]), (4, false, [0, 3, 4, 5, 13, 14, 15]), (5, false, [3, 4, 5, 13, 14, 15, 16]), (6, false, [15]), (7, false, [3, 4, 5, 13, 14, 15, 16]), (8, false, [4, 5, 14, 15, 16, 17]), (9, false, [5, 14, 15, 16, 17, 18]), (10, false, [5, 14, 15, 16, 18]), (11, false, [5, 14, 15, 16, 18, 19, 20]), (12, false, [5, 14, 15, 18, 19, 20, 21, 22]), (13, false, []), (14, true, [5, 14, 15, 18, 19, 21]), (15, false, [5, 14, 15, 18, 19, 21, 23]), (16, false, [5, 14, 15, 18, 19, 21, 23]), (17, false, [5, 14, 15, 18, 19, 21, 23]), (18, false, []), (19, true, [5, 14, 15, 18, 19, 21, 23]), (20, false, [5, 14, 15, 18, 19, 21, 23, 24]), (21, false, [5, 14, 15, 18, 19, 21, 23, 24]), (22, false, [5, 14, 15, 18, 19, 21, 23, 24]), (23, false, []), (24, false, [])]),
  (10, [(0, false, [0, 1]), (1, false, [0, 1]), (2, false, [0, 1, 5]), (3, false, [0, 1, 5, 6]), (4, false, [0, 1, 5, 6]), (5, false, [0, 1, 5, 6]), (6, false, [0, 1, 5, 6, 7]), (7, false, [0, 1, 5, 6]), (8, true, [0, 1, 5, 6, 7]), (9, false, [5]), (10, false, [5, 8]), (11, false, [5, 8, 9]), (12, false, [5, 8, 9, 10]), (13, false, [5, 8, 9, 10]), (14, false, [5, 8, 9, 10]), (15, false, [5, 8, 9, 10, 11]), (16, false, [5, 8, 9, 10, 11]), (17, false, [5, 8, 9, 10, 11]), (18, false, [5, 8, 9, 10]), (19, false, [5, 8, 9, 10, 12]), (20, false, [5, 8, 9, 10, 12, 13]), (21, false, [5, 8, 9, 10, 12, 13]), (22, false, [5, 8, 9, 10, 12, 13]), (23, false, [5, 8, 9, 10, 12, 13, 14, 15]), (24, false, []), (25, true, [5, 8, 9, 10, 12, 13, 14]), (26, false, [5, 8, 9, 10, 12]), (27, false, [8, 9]), (28, false, [8, 9, 16, 17]), (29, false, [17]), (30, false, [9, 16, 17])]),
  (11, [(0, false, [0, 1]), (1, false, [0, 1]), (2, false, [5]), (3, false, [5, 6, 7]), (4, false, [5, 6, 7, 8, 9]), (5, false, []), (6, true, [5, 6, 7]), (7, false, [6, 7]), (8, false, [5, 6]), (9, false, [5, 6, 10, 11]), (10, false, [5, 10, 11, 12, 13])]),
  (12, [(0, false, [0, 1, 2]), (1, false, [0, 1, 2]), (2, false, [1, 2, 7]), (3, false, [7, 8]), (4, false, [7, 8, 9, 10]), (5, false, [7, 8, 9, 10, 11, 12]), (6, false, [7, 8, 9, 10, 11, 12, 13, 14]), (7, false, [7, 8, 9, 10, 11, 12, 13, 14, 15, 16]), (8, false, []), (9, true, [7, 8, 9]), (10, false, [8, 9, 17, 18]), (11, false, [9, 17, 18, 19, 20]), (12, false, [17, 18, 19, 20, 21, 22]), (13, false, [22]), (14, true, [17, 19, 21, 22]), (15, false, [21, 22, 23, 24])]),
  (13, [(0, false, [0, 1, 2, 3, 4]), (1, false, [0, 1, 2, 3, 4]), (2, false, [0, 2, 3, 4, 11]), (3, false, [0, 3, 4, 11, 12]), (4, false, [3, 4, 12, 13]), (5, false, [3, 4, 12, 13, 14, 15]), (6, false, []), (7, true, [3, 4, 12, 13, 14]), (8, false, [3, 4, 12, 16]), (9, false, [4, 12, 16, 17]), (10, false, [4, 12, 16, 17, 18]), (11, false, [4, 12, 16, 17, 18, 19]), (12, false, [4, 12, 16, 17, 18, 19]), (13, false, [4, 12, 16, 17, 18, 19]), (14, false, [12, 16, 17, 18]), (15, false, [16, 20, 21])]),
  (14, [(0, false, [0, 1, 2, 3]), (1, false, [0, 1, 2, 3]), (2, false, [0, 2, 3, 9]), (3, false, [0, 3, 9, 10]), (4, false, [3, 10, 11]), (5, false, [3, 10, 11, 12, 13]), (6, false, []), (7, true, [3, 10, 11, 12]), (8, false, [3, 10, 14]), (9, false, [10, 14, 15]), (10, false, [10, 15, 16, 17])]),
  (15, [(0, false, [0, 1]), (1, false, [0, 1]), (2, false, [0, 1]), (3, false, [0, 1]), (4, false, [0])]),
  (16, [(0, false, [0, 1]), (1, false, [0, 1]), (2, false, [5, 6]), (3, false, []), (4, false, [5])]),
  (17, [(0, false, [0, 1]), (1, false, [0, 1]), (2, false, [5, 6]), (3, false, []), (4, false, [5])]),
  (18, [(0, false, [0, 1]), (1, false, [0, 1]), (2, false, []), (3, true, [0, 1])]),
  (19, [(0, false, [0]), (1, false, [0])]),
  (20, [(0, false, [0, 1]), (1, false, [0, 1]), (2, false, []), (3, false, [0, 1]), (4, false, []), (5, false, [0, 1])]),
  (21, [(0, false, [0]), (1, false, [0])]),
  (22, [(0, false, [0]), (1, false, [0]), (2, false, []), (3, false, [0]), (4, false, []), (5, false, [0]), (6, false, [0, 4]), (7, false, [0, 4, 5]), (8, false, [0, 4, 5]), (9, false, [0, 4, 5]), (10, false, [4])]),
  (23, [(0, false, [0, 1, 2]), (1, false, [0, 1, 2]), (2, false, [0, 1, 2, 7]), (3, false, [0, 1, 2, 7, 8]), (4, false, [0, 1, 2, 7, 8]), (5, false, [0, 1, 2, 7, 8]), (6, false, [0, 1, 2, 7, 8, 9]), (7, false, [0, 1, 2, 7, 8, 9, 10]), (8, false, [0, 1, 2, 7, 8, 9, 10]), (9, false, [0, 1, 2, 7, 8, 9, 10]), (10, false, [0, 1, 2, 7, 8, 9, 10, 11]), (11, false, [0, 1, 2, 7, 8, 9, 10]), (12, true, [0, 1, 2, 7, 8, 9, 10, 11]), (13, false, [0, 1, 2, 7, 8, 9]), (14, false, [7])]),
  (24, [(0, false, [0]), (1, false, [0])]),
  (25, [(0, false, [0, 1]), (1, false, [0, 3]), (2, false, []), (3, true, [0, 3]), (4, false, []), (5, false, [0, 3]), (6, false, [0, 3, 6]), (7, false, [3, 6, 26, 27, 28]), (8, false, [3, 6, 26, 27, 28]), (9, false, [3, 6, 8, 26, 27, 28]), (10, false, [3, 6, 8, 9, 26, 27, 28]), (11, false, [3, 6, 8, 9, 26, 27, 28, 38, 39]), (12, false, [3, 6, 8, 9, 26, 27, 28, 38, 39]), (13, false, [3, 6, 8, 9, 10, 26, 27, 28, 38, 39]), (14, false, [3, 6, 8, 9, 26, 27, 28, 38, 39]), (15, false, [3, 6, 9, 26, 27, 28]), (16, false, [3, 6, 26, 27, 28]), (17, false, [6])]),
  (26, [(0, false, [0, 1]), (1, false, [0, 1]), (2, false, []), (3, false, [0, 1]), (4, false, [0, 1, 5]), (5, false, [0, 1, 5]), (6, false, [0, 1, 5]), (7, false, []), (8, false, [])]),
  (27, [(0, false, [0, 1]), (1, false, [0, 3]), (2, false, []), (3, true, [0, 3]), (4, false, []), (5, false, [0, 3]), (6, false, [0, 3, 6]), (7, false, [3, 6, 24, 25, 26]), (8, false, [3, 6, 24, 25, 26]), (9, false, [3, 6, 8, 24, 25, 26]), (10, false, [3, 6, 24, 25, 26]), (11, false, [6])]),
  (28, [(0, false, [0, 1]), (1, false, [0, 1]), (2, false, []), (3, false, [0, 1]), (4, false, [0, 1, 5]), (5, false, [0, 1, 5]), (6, false, [0, 1, 5]), (7, false, []), (8, false, [])]),
  (29, [(0, false, [0, 1]), (1, false, [0, 1]), (2, false, [0, 1, 5]), (3, false, [0, 1]), (4, true, [0, 1, 5]), (5, false, [0, 1, 5, 6]), (6, false, [0, 1, 5, 6, 7]), (7, false, [0, 1, 5, 6, 7]), (8, false, [0, 1, 5, 6, 7]), (9, false, [6])]),
  (30, [(0, false, [0, 1]), (1, false, [0, 1]), (2, false, []), (3, false, [0, 1]), (4, false, []), (5, false, [0, 1]), (6, false, [0, 1, 6]), (7, false, [0, 6, 14, 15]), (8, false, [0, 6, 14, 15]), (9, false, [0, 6, 7, 14, 15]), (10, false, [0, 6, 14, 15]), (11, false, [6])]),
  (31, [(0, false, [0]), (1, false, [0])]),
  (32, [(0, false, [0]), (1, false, [0]), (2, false, []), (3, false, [0]), (4, false, [0, 4]), (5, false, []), (6, false, [0, 4]), (7, false, [4, 5]), (8, false, []), (9, false, [4, 5]), (10, false, [4, 5, 6]), (11, false, [4, 6, 28, 29, 30]), (12, false, [4, 6, 28, 29, 30]), (13, false, [4, 6, 8, 28, 29, 30]), (14, false, [4, 6, 28, 29, 30]), (15, false, [6])]),
  (33, [(0, false, [0]), (1, false, [0]), (2, false, []), (3, false, [0])]),
  (34, [(0, false, [0]), (1, false, [0]), (2, false, [0, 3]), (3, false, [0, 3, 4]), (4, false, [0, 3, 4]), (5, false, [0, 3, 4]), (6, false, [0, 3, 4, 5]), (7, false, [0, 3, 4, 5]), (8, false, [3])]),
  (35, [(0, false, [0, 1, 2]), (1, false, [0, 1, 2]), (2, false, [0, 1, 2, 7]), (3, false, [0, 1, 2, 7, 8]), (4, false, [0, 1, 2, 7, 8, 9]), (5, false, [0, 1, 2, 7, 8, 9]), (6, true, [0, 1, 2, 7, 8, 9]), (7, false, [0, 1, 2, 7, 8, 9, 10]), (8, false, [0, 1, 2, 7, 8, 9, 10]), (9, false, [0, 1, 2, 7, 8, 9]), (10, true, [2, 7]), (11, false, [2, 7, 11]), (12, false, [2, 7, 11, 12]), (13, false, [2, 7, 11, 12]), (14, false, [2, 7, 11, 12]), (15, false, [2, 7, 11, 12]), (16, false, [11])]),
  (36, [(0, false, [0, 1, 2]), (1, false, [0, 1, 2]), (2, false, [0, 1, 2, 8]), (3, false, []), (4, true, [0, 1, 2, 8]), (5, false, [0, 1, 2, 8, 9]), (6, false, [0, 1, 2, 8, 9, 10]), (7, false, [0, 1, 2, 8, 9, 10, 35, 36, 37]), (8, false, [0, 1, 2, 8, 9, 10, 35, 36, 37]), (9, false, [0, 1, 2, 8, 9, 10, 12, 35, 36, 37]), (10, false, [0, 1, 2, 8, 9, 10, 12, 35, 36, 37]), (11, false, [0, 2]), (12, false, [0, 1, 2, 8, 9, 10, 12, 35, 36, 37]), (13, false, [0, 1, 2, 8, 9, 35, 36, 37]), (14, false, [0, 1, 2, 8, 9, 10, 35, 36, 37]), (15, false, [0, 1, 2, 8, 9, 10]), (16, false, [0, 2, 8, 9]), (17, true, [0, 2, 8, 9, 10]), (18, false, [0, 2, 10]), (19, false, [0, 8, 9]), (20, false, []), (21, false, [0, 8, 9])]),
  (37, [(0, false, [0, 1]), (1, false, [0, 1]), (2, false, []), (3, false, [0, 1]), (4, false, [0, 1, 5]), (5, false, [0, 1, 5]), (6, false, [0, 1, 5]), (7, false, []), (8, false, [])]),
  (38, [(0, false, [0, 1]), (1, false, [0, 1]), (2, false, []), (3, false, [0, 1])]),
  (39, [(0, false, [0, 1]), (1, false, [0, 1]), (2, false, []), (3, false, [0, 1])]),
  (40, [(0, false, [0]), (1, false, [0]), (2, false, [5, 6, 7]), (3, false, [5, 6, 7]), (4, false, [4, 5, 6, 7]), (5, false, []), (6, false, [5, 6, 7]), (7, false, [])]),
  (41, [(0, false, [0, 1]), (1, false, [0, 1]), (2, false, [0, 1, 5]), (3, false, [0, 1, 5]), (4, false, [0, 1, 5]), (5, false, [0, 1, 5]), (6, true, [0, 1, 5]), (7, false, [5])]),
  (42, [(0, false, [0, 1]), (1, false, [0, 1]), (2, false, [0, 1, 5]), (3, false, [0, 1, 5]), (4, false, [0, 1, 5]), (5, false, [0, 1, 5]), (6, true, [0, 1, 5]), (7, false, [0, 1, 5]), (8, false, [0, 1, 5]), (9, false, [5])]),
  (43, [(0, false, [0]), (1, false, [0]), (2, false, []), (3, true, [0]), (4, false, [0, 13, 14, 15]), (5, false, [0, 13, 14, 15]), (6, false, [0, 4, 13, 14, 15]), (7, false, []), (8, false, [0, 13, 14, 15]), (9, false, [])]),
  (44, [(0, false, [0, 1]), (1, false, [0, 1]), (2, false, [0, 1, 5]), (3, false, [1, 5, 7, 8]), (4, false, [1, 5, 7, 8]), (5, false, [1, 5, 6, 7, 8]), (6, false, [1, 5, 7, 8]), (7, false, [5])]),
  (45, [(0, false, [0, 1, 2, 3]), (1, false, [0, 1, 2, 3])]),
  (46, [(0, false, [0]), (1, false, [0])]),
  (47, [(0, false, [0, 1, 2]), (1, false, [0, 1, 2])]),
  (48, [(0, false, [0]), (1, false, [0])]),
  (49, [(0, false, [0, 1]), (1, false, [0, 1]), (2, false, [0, 1, 5]), (3, false, [1, 5, 13, 14, 15]), (4, false, [1, 5, 13, 14, 15]), (5, false, [1, 5, 6, 7, 13, 14, 15]), (6, false, [1, 5, 13, 14, 15]), (7, false, [5])]),
  (50, [(0, false, [0]), (1, false, [1])]),
  (51, [(0, false, [0, 1]), (1, false, [0, 1]), (2, false, [0, 1, 5]), (3, false, [1, 5, 9, 10, 11]), (4, false, [1, 5, 9, 10, 11]), (5, false, [1, 5, 6, 7, 9, 10, 11]), (6, false, [1, 5, 6, 7, 8, 9, 10, 11]), (7, false, [1, 5, 6, 7, 8, 9, 10, 11]), (8, false, [1, 5, 6, 7, 8, 9, 10, 11]), (9, true, [1, 5, 8, 9, 10, 11]), (10, false, [1, 5, 9, 10, 11]), (11, false, [5])]),
  (52, [(0, false, [0, 1]), (1, false, [0, 1]), (2, false, [0, 1, 5]), (3, false, [0, 1, 5, 6]), (4, false, [0, 1, 5, 6]), (5, true, [0, 1, 5, 6]), (6, false, [0, 1, 5, 6, 7]), (7, false, [0, 1, 5, 6, 7]), (8, false, [0, 1, 5, 6]), (9, false, [0, 1, 5, 6, 8]), (10, false, [0, 1, 5, 6, 8, 9]), (11, false, [0, 1, 5, 6, 8, 9, 65, 66]), (12, false, [0, 1, 5, 6, 8, 9, 65, 66]), (13, false, [0, 1, 5, 6, 8, 9, 11, 65, 66]), (14, false, [0, 1, 5, 6, 8, 9, 65, 66]), (15, false, [0, 1, 5, 6, 8]), (16, false, [0, 1, 5, 6, 8, 79, 80, 81]), (17, false, [0, 1, 5, 6, 8, 79, 80, 81]), (18, false, [0, 1, 5, 6, 8, 12, 13, 79, 80, 81]), (19, true, [0, 1, 5, 6, 8, 13, 79, 80, 81]), (20, false, [0, 1, 5, 6, 8, 13, 14, 79, 80, 81]), (21, false, [0, 1, 5, 6, 8, 13, 14, 79, 80, 81, 101, 102]), (22, false, [0, 1, 5, 6, 8, 13, 14, 79, 80, 81, 101, 102]), (23, false, [0, 1, 5, 6, 8, 13, 14, 15, 79, 80, 81, 101, 102]), (24, false, [0, 1, 5, 6, 8, 13, 14, 79, 80, 81, 101, 102]), (25, false, [0, 1, 5, 6, 8, 79, 80, 81]), (26, false, [0, 1, 5, 6]), (27, true, [0, 1, 5, 6]), (28, false, [0, 1, 5, 121]), (29, false, [5])]),
  (53, [(0, false, [0]), (1, false, [0]), (2, false, []), (3, false, [0])]),
  (54, [(0, false, [0, 1, 2]), (1, false, [0, 1, 2]), (2, false, [0, 1, 2, 8]), (3, false, [0, 2, 8, 14, 15, 16]), (4, false, [0, 2, 8, 14, 15, 16]), (5, false, [0, 2, 8, 10, 14, 15, 16]), (6, false, [0, 2, 8, 10, 14, 15, 16]), (7, false, [0, 2, 8, 14, 15, 16]), (8, false, [0, 2, 8]), (9, false, []), (10, false, [2])]),
  (55, [(0, false, [0, 1]), (1, false, [0, 1]), (2, false, [0, 1, 5]), (3, false, [1, 5, 8, 9, 10]), (4, false, [1, 5, 8, 9, 10]), (5, false, [1, 5, 6, 7, 8, 9, 10]), (6, false, [1, 5, 7, 8, 9, 10]), (7, false, [1, 5, 8, 9, 10]), (8, false, [5])]),
  (56, [(0, false, [0, 1, 2]), (1, false, [0, 1, 2]), (2, false, [0, 1, 2, 7]), (3, false, [0, 1, 2, 7, 8]), (4, false, [0, 1, 2, 7, 8, 9, 10]), (5, false, [0, 1, 2, 7, 8, 9, 10, 24, 25, 26]), (6, false, [0, 1, 2, 7, 8, 9, 10, 24, 25, 26]), (7, false, [0, 1, 2, 7, 8, 9, 10, 11, 12, 24, 25, 26]), (8, false, [0, 1, 2, 7, 8, 9, 10, 11, 12, 24, 25, 26]), (9, false, [0, 1, 2, 7, 8, 9, 10, 11, 24, 25, 26]), (10, false, [0, 1, 2, 7, 8, 9, 10, 11, 24, 25, 26]), (11, false, [0, 1, 2, 7, 8, 9, 10, 24, 25, 26]), (12, false, [0, 1, 2, 8, 9, 10]), (13, false, [0, 1, 2, 8, 9, 10, 13]), (14, false, [0, 1, 2, 8, 9, 10, 13]), (15, true, [0, 1, 2, 8, 9, 10, 13]), (16, false, [0, 1, 2, 8, 9, 10, 13]), (17, true, [0, 1, 2, 8, 9, 10]), (18, false, [0, 1, 2, 8]), (19, false, [0, 1, 2, 8, 14]), (20, false, [0, 1, 2, 8, 14]), (21, false, [0, 1, 2, 8, 14]), (22, false, [0, 1, 2, 8, 14]), (23, false, [8])]),
  (57, [(0, false, [0, 1]), (1, false, [0, 1]), (2, false, []), (3, false, [0, 1]), (4, false, [0, 1, 5]), (5, false, [0, 1, 5]), (6, false, [0, 1, 5]), (7, false, []), (8, false, [])]),
  (58, [(0, false, [0, 1]), (1, false, [0, 1]), (2, false, [5])]),
  (59, [(0, false, [0, 1]), (1, false, [0, 1])]),
  (60, [(0, false, [0]), (1, false, [0])]),
  (62, [(0, false, [0, 1, 2]), (1, false, [0, 1, 6]), (2, false, [0, 6, 11, 12, 13]), (3, false, [0, 6, 11, 12, 13]), (4, false, [0, 6, 7, 8, 11, 12, 13]), (5, false, [0, 6, 11, 12, 13])]),
  (63, [(0, false, [0, 1]), (1, false, [0, 1]), (2, false, [5])]),
  (64, [(0, false, [0, 1]), (1, false, [0, 1])]),
  (65, [(0, false, [0, 1]), (1, false, [0, 1])]),
  (66, [(0, false, [0, 1]), (1, false, [0, 1]), (2, false, [0, 1, 7, 8]), (3, false, [0, 1, 7, 8]), (4, false, [0, 1, 5, 7, 8]), (5, false, [5]), (6, false, [0, 1, 7, 8]), (7, false, [])]),
  (67, [(0, false, [0, 1]), (1, false, [0, 1])]),
  (68, [(0, false, [0]), (1, false, [0]), (2, false, []), (3, false, [0])]),
  (69, [(0, false, [0, 1, 2, 3]), (1, false, [0, 1, 2, 3]), (2, false, [0, 1, 2, 3, 8]), (3, false, [0, 1, 2, 3, 8, 10]), (4, false, [0, 1, 2, 8, 10, 24, 25, 26]), (5, false, [0, 1, 2, 8, 10, 24, 25, 26]), (6, false, [0, 1, 2, 8, 10, 12, 24, 25, 26]), (7, false, [0, 1, 2, 8, 10, 12, 13, 24, 25, 26]), (8, false, [0, 1, 2, 8, 10, 12, 13, 24, 25, 26, 30, 31, 32]), (9, false, [0, 1, 2, 8, 10, 12, 13, 24, 25, 26, 30, 31, 32]), (10, false, [0, 1, 2, 8, 10, 12, 13, 15, 24, 25, 26, 30, 31, 32]), (11, false, [0, 1, 2, 8, 10, 12, 13, 24, 25, 26, 30, 31, 32]), (12, false, [0, 1, 2, 8, 10, 12, 13, 24, 25, 26]), (13, false, [0, 1, 2, 8, 10, 12, 24, 25, 26]), (14, false, [0, 1, 2, 8, 10, 12, 16, 24, 25, 26]), (15, false, [0, 1, 2, 8, 10, 16, 24, 25, 26]), (16, false, [0, 1, 2, 8, 10, 24, 25, 26]), (17, false, [0, 2, 8, 10]), (18, false, [0, 2, 9, 10]), (19, false, [0, 9, 10, 70, 71, 72]), (20, false, [0, 9, 10, 70, 71, 72]), (21, false, [0, 9, 10, 17, 18, 70, 71, 72]), (22, false, [0, 9, 10, 17, 18, 70, 71, 72, 77, 78, 79]), (23, false, [0, 9, 10, 17, 18, 70, 71, 72, 77, 78, 79]), (24, false, [0, 9, 10, 17, 18, 19, 20, 70, 71, 72, 77, 78, 79]), (25, false, [0, 9, 10, 17, 18, 70, 71, 72, 77, 78, 79]), (26, false, [0, 9, 10, 70, 71, 72])]),
  (70, [(0, false, [0, 1]), (1, false, [0, 1]), (2, false, [0, 1, 7, 8]), (3, false, [0, 1, 7, 8]), (4, false, [0, 1, 5, 7, 8]), (5, false, [5]), (6, false, [0, 1, 7, 8]), (7, false, [])]),
  (61, [(0, false, [0]), (1, false, [0])]),
  (71, [(0, false, [0]), (1, false, [0, 2]), (2, false, [0, 2, 6]), (3, false, [0, 2, 6]), (4, false, [0, 2, 3, 6]), (5, false, [0, 2, 3, 4, 6]), (6, false, [0, 2, 6]), (7, false, [2])]),
  (72, [(0, false, [0, 1]), (1, false, [0, 1]), (2, false, [0, 1, 7, 8]), (3, false, [0, 1, 7, 8]), (4, false, [0, 1, 5, 7, 8]), (5, false, [5]), (6, false, [0, 1, 7, 8]), (7, false, [])])]

noncomputable def c3 : Code := (Try.f3.body).getD .skip

noncomputable def r3 : List ResultVar := Try.f3.results.toList

noncomputable def F3_J1' (W J : StepF (AV × AHeap × Nat) → StepF (AV × AHeap × Nat)) (call : YldF → CallF) (Y : YldF) (lf : Nat) (x7 : Int) (x8 : Int) (x9 : Int) (x10 : Int) (h : AHeap) (nx : Nat) : Option (AV × AHeap × Nat) :=
  goK W J drawK (machOf Try.prog) call Y (keepT 3) lf c3 [1, 1, 1, 1, 1, 1] [] (retK (machOf Try.prog) ⟨c3, 101, r3, keepT 3⟩) ⟨101, mkL [(7, (.int .i64 x7)), (8, (.int .i64 x8)), (9, (.int .i64 x9)), (10, (.int .i64 x10))]⟩ h nx

noncomputable def F3_J1 (call : YldF → CallF) (Y : YldF) (lf : Nat) (x7 : Int) (x8 : Int) (x9 : Int) (x10 : Int) (h : AHeap) (nx : Nat) : Option (AV × AHeap × Nat) := F3_J1' go1 go1 call Y lf x7 x8 x9 x10 h nx

noncomputable def F3_J2' (W J : StepF (AV × AHeap × Nat) → StepF (AV × AHeap × Nat)) (call : YldF → CallF) (Y : YldF) (lf : Nat) (x7 : Int) (x9 : Int) (x10 : Int) (x11 : Int) (x12 : Int) (h : AHeap) (nx : Nat) : Option (AV × AHeap × Nat) :=
  goK W J drawK (machOf Try.prog) call Y (keepT 3) lf c3 [1, 1, 1, 1, 1, 1, 1, 1, 1] [] (retK (machOf Try.prog) ⟨c3, 101, r3, keepT 3⟩) ⟨101, mkL [(7, (.int .i64 x7)), (9, (.int .i64 x9)), (10, (.int .i64 x10)), (11, (.int .i64 x11)), (12, (.int .i64 x12))]⟩ h nx

noncomputable def F3_J2 (call : YldF → CallF) (Y : YldF) (lf : Nat) (x7 : Int) (x9 : Int) (x10 : Int) (x11 : Int) (x12 : Int) (h : AHeap) (nx : Nat) : Option (AV × AHeap × Nat) := F3_J2' go1 go1 call Y lf x7 x9 x10 x11 x12 h nx

theorem F3_J1_eq' (J : StepF (AV × AHeap × Nat) → StepF (AV × AHeap × Nat)) (call : YldF → CallF) (Y : YldF) (lf : Nat) (x7 : Int) (x8 : Int) (x9 : Int) (x10 : Int) (h : AHeap) (nx : Nat) : F3_J1' go1 J call Y lf x7 x8 x9 x10 h nx =
    (call Y 16 [(.int .i64 x8), (.int .i64 x9)] h (nx + 4)).bind fun r1 =>
    (asI .i64 r1.1).bind fun n2 =>
    (call Y 17 [(.int .i64 x8), (.int .i64 x9)] r1.2.1 (r1.2.2 + 4)).bind fun r3 =>
    (asI .i64 r3.1).bind fun n4 =>
    if (decide ((n2 : Int) < 0)) = true then
    (some ((.bool false), r3.2.1, (r3.2.2 + 15)))
    else
    (if (decide ((n2 : Int) > 255)) = true then
    (some ((.bool false), r3.2.1, (r3.2.2 + 15)))
    else
    (if (decide ((n4 : Int) < 0)) = true then
    (some ((.bool false), r3.2.1, (r3.2.2 + 15)))
    else
    (if (decide ((n4 : Int) > 255)) = true then
    (some ((.bool false), r3.2.1, (r3.2.2 + 15)))
    else
    (F3_J2' J J call Y lf x7 x9 x10 n2 n4 r3.2.1 (r3.2.2 + 14))))) := by kernel_rfl

theorem F3_J1_eq (call : YldF → CallF) (Y : YldF) (lf : Nat) (x7 : Int) (x8 : Int) (x9 : Int) (x10 : Int) (h : AHeap) (nx : Nat) : F3_J1 call Y lf x7 x8 x9 x10 h nx =
    (call Y 16 [(.int .i64 x8), (.int .i64 x9)] h (nx + 4)).bind fun r1 =>
    (asI .i64 r1.1).bind fun n2 =>
    (call Y 17 [(.int .i64 x8), (.int .i64 x9)] r1.2.1 (r1.2.2 + 4)).bind fun r3 =>
    (asI .i64 r3.1).bind fun n4 =>
    if (decide ((n2 : Int) < 0)) = true then
    (some ((.bool false), r3.2.1, (r3.2.2 + 15)))
    else
    (if (decide ((n2 : Int) > 255)) = true then
    (some ((.bool false), r3.2.1, (r3.2.2 + 15)))
    else
    (if (decide ((n4 : Int) < 0)) = true then
    (some ((.bool false), r3.2.1, (r3.2.2 + 15)))
    else
    (if (decide ((n4 : Int) > 255)) = true then
    (some ((.bool false), r3.2.1, (r3.2.2 + 15)))
    else
    (F3_J2 call Y lf x7 x9 x10 n2 n4 r3.2.1 (r3.2.2 + 14))))) := F3_J1_eq' go1 call Y lf x7 x8 x9 x10 h nx

theorem F3_J2_eq' (J : StepF (AV × AHeap × Nat) → StepF (AV × AHeap × Nat)) (call : YldF → CallF) (Y : YldF) (lf : Nat) (x7 : Int) (x9 : Int) (x10 : Int) (x11 : Int) (x12 : Int) (h : AHeap) (nx : Nat) : F3_J2' go1 J call Y lf x7 x9 x10 x11 x12 h nx =
    (call Y 16 [(.int .i64 x7), (.int .i64 x9)] h (nx + 4)).bind fun r1 =>
    (asI .i64 r1.1).bind fun n2 =>
    (call Y 16 [(.int .i64 x10), (.int .i64 x9)] r1.2.1 (r1.2.2 + 25)).bind fun r3 =>
    (asI .i64 r3.1).bind fun n4 =>
    (call Y 16 [(.int .i64 x7), (.int .i64 x11)] r3.2.1 r3.2.2).bind fun r5 =>
    (asI .i64 r5.1).bind fun n6 =>
    if ((n4 : Int) == n6) = true then
    (if (decide ((n2 : Int) ≥ 0)) = true then
    (if (decide ((n2 : Int) < 256)) = true then
    ((call Y 16 [(.int .i64 x7), (.int .i64 x12)] r5.2.1 r5.2.2).bind fun r7 =>
    (asI .i64 r7.1).bind fun n8 =>
    (call Y 17 [(.int .i64 x10), (.int .i64 n2)] r7.2.1 r7.2.2).bind fun r9 =>
    (asI .i64 r9.1).bind fun n10 =>
    some ((.bool ((n8 : Int) == n10)), r9.2.1, r9.2.2))
    else
    (some ((.bool false), r5.2.1, r5.2.2)))
    else
    (some ((.bool false), r5.2.1, r5.2.2)))
    else
    (some ((.bool false), r5.2.1, r5.2.2)) := by kernel_rfl

theorem F3_J2_eq (call : YldF → CallF) (Y : YldF) (lf : Nat) (x7 : Int) (x9 : Int) (x10 : Int) (x11 : Int) (x12 : Int) (h : AHeap) (nx : Nat) : F3_J2 call Y lf x7 x9 x10 x11 x12 h nx =
    (call Y 16 [(.int .i64 x7), (.int .i64 x9)] h (nx + 4)).bind fun r1 =>
    (asI .i64 r1.1).bind fun n2 =>
    (call Y 16 [(.int .i64 x10), (.int .i64 x9)] r1.2.1 (r1.2.2 + 25)).bind fun r3 =>
    (asI .i64 r3.1).bind fun n4 =>
    (call Y 16 [(.int .i64 x7), (.int .i64 x11)] r3.2.1 r3.2.2).bind fun r5 =>
    (asI .i64 r5.1).bind fun n6 =>
    if ((n4 : Int) == n6) = true then
    (if (decide ((n2 : Int) ≥ 0)) = true then
    (if (decide ((n2 : Int) < 256)) = true then
    ((call Y 16 [(.int .i64 x7), (.int .i64 x12)] r5.2.1 r5.2.2).bind fun r7 =>
    (asI .i64 r7.1).bind fun n8 =>
    (call Y 17 [(.int .i64 x10), (.int .i64 n2)] r7.2.1 r7.2.2).bind fun r9 =>
    (asI .i64 r9.1).bind fun n10 =>
    some ((.bool ((n8 : Int) == n10)), r9.2.1, r9.2.2))
    else
    (some ((.bool false), r5.2.1, r5.2.2)))
    else
    (some ((.bool false), r5.2.1, r5.2.2)))
    else
    (some ((.bool false), r5.2.1, r5.2.2)) := F3_J2_eq' go1 call Y lf x7 x9 x10 x11 x12 h nx

theorem F3_eq' (J : StepF (AV × AHeap × Nat) → StepF (AV × AHeap × Nat)) (n : Nat) (Y : YldF) (x0 : Int) (x1 : Int) (x2 : Int) (h : AHeap) (nx : Nat) : rootJ J Try.prog keepT (callP Try.prog keepT n) Y n 3 [(.int .i64 x0), (.int .i64 x1), (.int .i64 x2)] h nx =
    ((callP Try.prog keepT n) Y 15 [(.int .i64 x0), (.int .i64 256)] h (nx + 4)).bind fun r1 =>
    (asI .i64 r1.1).bind fun n2 =>
    ((callP Try.prog keepT n) Y 15 [(.int .i64 x1), (.int .i64 256)] r1.2.1 (r1.2.2 + 3)).bind fun r3 =>
    (asI .i64 r3.1).bind fun n4 =>
    ((callP Try.prog keepT n) Y 15 [(.int .i64 x2), (.int .i64 256)] r3.2.1 (r3.2.2 + 3)).bind fun r5 =>
    (asI .i64 r5.1).bind fun n6 =>
    ((callP Try.prog keepT n) Y 16 [(.int .i64 n2), (.int .i64 n4)] r5.2.1 (r5.2.2 + 4)).bind fun r7 =>
    (asI .i64 r7.1).bind fun n8 =>
    if (decide ((n8 : Int) < 0)) = true then
    (some ((.bool false), r7.2.1, (r7.2.2 + 32)))
    else
    (if (decide ((n8 : Int) > 255)) = true then
    (some ((.bool false), r7.2.1, (r7.2.2 + 32)))
    else
    (((callP Try.prog keepT n) Y 16 [(.int .i64 n4), (.int .i64 n2)] r7.2.1 (r7.2.2 + 31)).bind fun r9 =>
    (asI .i64 r9.1).bind fun n10 =>
    if ((n8 : Int) != n10) = true then
    (some ((.bool false), r9.2.1, (r9.2.2 + 1)))
    else
    (((callP Try.prog keepT n) Y 16 [(.int .i64 n2), (.int .i64 1)] r9.2.1 r9.2.2).bind fun r11 =>
    (asI .i64 r11.1).bind fun n12 =>
    if ((n12 : Int) != n2) = true then
    (some ((.bool false), r11.2.1, (r11.2.2 + 1)))
    else
    (((callP Try.prog keepT n) Y 17 [(.int .i64 n2), (.int .i64 n2)] r11.2.1 r11.2.2).bind fun r13 =>
    (asI .i64 r13.1).bind fun n14 =>
    if ((n14 : Int) != 0) = true then
    (some ((.bool false), r13.2.1, (r13.2.2 + 1)))
    else
    (((callP Try.prog keepT n) Y 17 [(.int .i64 n2), (.int .i64 0)] r13.2.1 r13.2.2).bind fun r15 =>
    (asI .i64 r15.1).bind fun n16 =>
    if ((n16 : Int) != n2) = true then
    (some ((.bool false), r15.2.1, (r15.2.2 + 1)))
    else
    (F3_J1' J J (callP Try.prog keepT n) Y n n2 n4 n6 n8 r15.2.1 r15.2.2)))))) := by kernel_rfl

/-- quickset/quicksetkeep.GfField -/
theorem F3_eq (n : Nat) (Y : YldF) (x0 : Int) (x1 : Int) (x2 : Int) (h : AHeap) (nx : Nat) : callP Try.prog keepT (n + 1) Y 3 [(.int .i64 x0), (.int .i64 x1), (.int .i64 x2)] h nx =
    ((callP Try.prog keepT n) Y 15 [(.int .i64 x0), (.int .i64 256)] h (nx + 4)).bind fun r1 =>
    (asI .i64 r1.1).bind fun n2 =>
    ((callP Try.prog keepT n) Y 15 [(.int .i64 x1), (.int .i64 256)] r1.2.1 (r1.2.2 + 3)).bind fun r3 =>
    (asI .i64 r3.1).bind fun n4 =>
    ((callP Try.prog keepT n) Y 15 [(.int .i64 x2), (.int .i64 256)] r3.2.1 (r3.2.2 + 3)).bind fun r5 =>
    (asI .i64 r5.1).bind fun n6 =>
    ((callP Try.prog keepT n) Y 16 [(.int .i64 n2), (.int .i64 n4)] r5.2.1 (r5.2.2 + 4)).bind fun r7 =>
    (asI .i64 r7.1).bind fun n8 =>
    if (decide ((n8 : Int) < 0)) = true then
    (some ((.bool false), r7.2.1, (r7.2.2 + 32)))
    else
    (if (decide ((n8 : Int) > 255)) = true then
    (some ((.bool false), r7.2.1, (r7.2.2 + 32)))
    else
    (((callP Try.prog keepT n) Y 16 [(.int .i64 n4), (.int .i64 n2)] r7.2.1 (r7.2.2 + 31)).bind fun r9 =>
    (asI .i64 r9.1).bind fun n10 =>
    if ((n8 : Int) != n10) = true then
    (some ((.bool false), r9.2.1, (r9.2.2 + 1)))
    else
    (((callP Try.prog keepT n) Y 16 [(.int .i64 n2), (.int .i64 1)] r9.2.1 r9.2.2).bind fun r11 =>
    (asI .i64 r11.1).bind fun n12 =>
    if ((n12 : Int) != n2) = true then
    (some ((.bool false), r11.2.1, (r11.2.2 + 1)))
    else
    (((callP Try.prog keepT n) Y 17 [(.int .i64 n2), (.int .i64 n2)] r11.2.1 r11.2.2).bind fun r13 =>
    (asI .i64 r13.1).bind fun n14 =>
    if ((n14 : Int) != 0) = true then
    (some ((.bool false), r13.2.1, (r13.2.2 + 1)))
    else
    (((callP Try.prog keepT n) Y 17 [(.int .i64 n2), (.int .i64 0)] r13.2.1 r13.2.2).bind fun r15 =>
    (asI .i64 r15.1).bind fun n16 =>
    if ((n16 : Int) != n2) = true then
    (some ((.bool false), r15.2.1, (r15.2.2 + 1)))
    else
    (F3_J1 (callP Try.prog keepT n) Y n n2 n4 n6 n8 r15.2.1 r15.2.2)))))) := F3_eq' go1 n Y x0 x1 x2 h nx

noncomputable def c4 : Code := (Try.f4.body).getD .skip

noncomputable def r4 : List ResultVar := Try.f4.results.toList

noncomputable def F4_J1' (W J : StepF (AV × AHeap × Nat) → StepF (AV × AHeap × Nat)) (call : YldF → CallF) (Y : YldF) (lf : Nat) (x10 : Int) (x12 : Int) (x14 : Int) (h : AHeap) (nx : Nat) : Option (AV × AHeap × Nat) :=
  goK W J drawK (machOf Try.prog) call Y (keepT 4) lf c4 [1, 1, 1, 1, 1, 1, 1, 1, 1] [] (retK (machOf Try.prog) ⟨c4, 87, r4, keepT 4⟩) ⟨87, mkL [(10, (.int .i64 x10)), (12, (.int .i64 x12)), (14, (.int .i64 x14))]⟩ h nx

noncomputable def F4_J1 (call : YldF → CallF) (Y : YldF) (lf : Nat) (x10 : Int) (x12 : Int) (x14 : Int) (h : AHeap) (nx : Nat) : Option (AV × AHeap × Nat) := F4_J1' go1 go1 call Y lf x10 x12 x14 h nx

theorem F4_J1_eq' (J : StepF (AV × AHeap × Nat) → StepF (AV × AHeap × Nat)) (call : YldF → CallF) (Y : YldF) (lf : Nat) (x10 : Int) (x12 : Int) (x14 : Int) (h : AHeap) (nx : Nat) : F4_J1' go1 J call Y lf x10 x12 x14 h nx =
    (call Y 16 [(.int .i64 x10), (.int .i64 x12)] h (nx + 6)).bind fun r1 =>
    (asI .i64 r1.1).bind fun n2 =>
    some ((.bool ((n2 : Int) == x14)), r1.2.1, r1.2.2) := by kernel_rfl

theorem F4_J1_eq (call : YldF → CallF) (Y : YldF) (lf : Nat) (x10 : Int) (x12 : Int) (x14 : Int) (h : AHeap) (nx : Nat) : F4_J1 call Y lf x10 x12 x14 h nx =
    (call Y 16 [(.int .i64 x10), (.int .i64 x12)] h (nx + 6)).bind fun r1 =>
    (asI .i64 r1.1).bind fun n2 =>
    some ((.bool ((n2 : Int) == x14)), r1.2.1, r1.2.2) := F4_J1_eq' go1 call Y lf x10 x12 x14 h nx

theorem F4_eq' (J : StepF (AV × AHeap × Nat) → StepF (AV × AHeap × Nat)) (n : Nat) (Y : YldF) (x0 : Int) (x1 : Int) (x2 : Int) (h : AHeap) (nx : Nat) : rootJ J Try.prog keepT (callP Try.prog keepT n) Y n 4 [(.int .i64 x0), (.int .i64 x1), (.int .i64 x2)] h nx =
    ((callP Try.prog keepT n) Y 15 [(.int .i64 x0), (.int .i64 256)] h (nx + 4)).bind fun r1 =>
    (asI .i64 r1.1).bind fun n2 =>
    ((callP Try.prog keepT n) Y 15 [(.int .i64 x1), (.int .i64 1073741824)] r1.2.1 (r1.2.2 + 3)).bind fun r3 =>
    (asI .i64 r3.1).bind fun n4 =>
    ((callP Try.prog keepT n) Y 15 [(.int .i64 x2), (.int .i64 1073741824)] r3.2.1 (r3.2.2 + 3)).bind fun r5 =>
    (asI .i64 r5.1).bind fun n6 =>
    ((callP Try.prog keepT n) Y 18 [(.int .i64 n2), (.int .i64 n4)] r5.2.1 (r5.2.2 + 8)).bind fun r7 =>
    (asTup 2 r7.1).bind fun d8 =>
    (asI .i64 (d8.getD 0 .bad)).bind fun n9 =>
    (asI .i64 (d8.getD 1 .bad)).bind fun n10 =>
    ((callP Try.prog keepT n) Y 18 [(.int .i64 n2), (.int .i64 n6)] r7.2.1 (r7.2.2 + 8)).bind fun r11 =>
    (asTup 2 r11.1).bind fun d12 =>
    (asI .i64 (d12.getD 0 .bad)).bind fun n13 =>
    (asI .i64 (d12.getD 1 .bad)).bind fun n14 =>
    ((callP Try.prog keepT n) Y 18 [(.int .i64 n2), (.int .i64 (wrapA .i64 (n4 + n6)))] r11.2.1 (r11.2.2 + 10)).bind fun r15 =>
    (asTup 2 r15.1).bind fun d16 =>
    (asI .i64 (d16.getD 0 .bad)).bind fun n17 =>
    (asI .i64 (d16.getD 1 .bad)).bind fun n18 =>
    ((callP Try.prog keepT n) Y 19 [(.int .i64 255)] r15.2.1 (r15.2.2 + 6)).bind fun r19 =>
    (asTup 2 r19.1).bind fun d20 =>
    (asI .i64 (d20.getD 0 .bad)).bind fun n21 =>
    (asI .i64 (d20.getD 1 .bad)).bind fun n22 =>
    if ((n10 : Int) != 0) = true then
    (some ((.bool false), r19.2.1, (r19.2.2 + 35)))
    else
    (if ((n14 : Int) != 0) = true then
    (some ((.bool false), r19.2.1, (r19.2.2 + 35)))
    else
    (if ((n18 : Int) != 0) = true then
    (some ((.bool false), r19.2.1, (r19.2.2 + 35)))
    else
    (if ((n22 : Int) != 0) = true then
    (some ((.bool false), r19.2.1, (r19.2.2 + 35)))
    else
    (if ((n21 : Int) != 1) = true then
    (some ((.bool false), r19.2.1, (r19.2.2 + 35)))
    else
    (if (decide ((n9 : Int) < 0)) = true then
    (some ((.bool false), r19.2.1, (r19.2.2 + 35)))
    else
    (if (decide ((n9 : Int) > 255)) = true then
    (some ((.bool false), r19.2.1, (r19.2.2 + 35)))
    else
    (if (decide ((n13 : Int) < 0)) = true then
    (some ((.bool false), r19.2.1, (r19.2.2 + 35)))
    else
    (if (decide ((n13 : Int) > 255)) = true then
    (some ((.bool false), r19.2.1, (r19.2.2 + 35)))
    else
    (F4_J1' J J (callP Try.prog keepT n) Y n n9 n13 n17 r19.2.1 (r19.2.2 + 34)))))))))) := by kernel_rfl

/-- quickset/quicksetkeep.GfPowers -/
theorem F4_eq (n : Nat) (Y : YldF) (x0 : Int) (x1 : Int) (x2 : Int) (h : AHeap) (nx : Nat) : callP Try.prog keepT (n + 1) Y 4 [(.int .i64 x0), (.int .i64 x1), (.int .i64 x2)] h nx =
    ((callP Try.prog keepT n) Y 15 [(.int .i64 x0), (.int .i64 256)] h (nx + 4)).bind fun r1 =>
    (asI .i64 r1.1).bind fun n2 =>
    ((callP Try.prog keepT n) Y 15 [(.int .i64 x1), (.int .i64 1073741824)] r1.2.1 (r1.2.2 + 3)).bind fun r3 =>
    (asI .i64 r3.1).bind fun n4 =>
    ((callP Try.prog keepT n) Y 15 [(.int .i64 x2), (.int .i64 1073741824)] r3.2.1 (r3.2.2 + 3)).bind fun r5 =>
    (asI .i64 r5.1).bind fun n6 =>
    ((callP Try.prog keepT n) Y 18 [(.int .i64 n2), (.int .i64 n4)] r5.2.1 (r5.2.2 + 8)).bind fun r7 =>
    (asTup 2 r7.1).bind fun d8 =>
    (asI .i64 (d8.getD 0 .bad)).bind fun n9 =>
    (asI .i64 (d8.getD 1 .bad)).bind fun n10 =>
    ((callP Try.prog keepT n) Y 18 [(.int .i64 n2), (.int .i64 n6)] r7.2.1 (r7.2.2 + 8)).bind fun r11 =>
    (asTup 2 r11.1).bind fun d12 =>
    (asI .i64 (d12.getD 0 .bad)).bind fun n13 =>
    (asI .i64 (d12.getD 1 .bad)).bind fun n14 =>
    ((callP Try.prog keepT n) Y 18 [(.int .i64 n2), (.int .i64 (wrapA .i64 (n4 + n6)))] r11.2.1 (r11.2.2 + 10)).bind fun r15 =>
    (asTup 2 r15.1).bind fun d16 =>
    (asI .i64 (d16.getD 0 .bad)).bind fun n17 =>
    (asI .i64 (d16.getD 1 .bad)).bind fun n18 =>
    ((callP Try.prog keepT n) Y 19 [(.int .i64 255)] r15.2.1 (r15.2.2 + 6)).bind fun r19 =>
    (asTup 2 r19.1).bind fun d20 =>
    (asI .i64 (d20.getD 0 .bad)).bind fun n21 =>
    (asI .i64 (d20.getD 1 .bad)).bind fun n22 =>
    if ((n10 : Int) != 0) = true then
    (some ((.bool false), r19.2.1, (r19.2.2 + 35)))
    else
    (if ((n14 : Int) != 0) = true then
    (some ((.bool false), r19.2.1, (r19.2.2 + 35)))
    else
    (if ((n18 : Int) != 0) = true then
    (some ((.bool false), r19.2.1, (r19.2.2 + 35)))
    else
    (if ((n22 : Int) != 0) = true then
    (some ((.bool false), r19.2.1, (r19.2.2 + 35)))
    else
    (if ((n21 : Int) != 1) = true then
    (some ((.bool false), r19.2.1, (r19.2.2 + 35)))
    else
    (if (decide ((n9 : Int) < 0)) = true then
    (some ((.bool false), r19.2.1, (r19.2.2 + 35)))
    else
    (if (decide ((n9 : Int) > 255)) = true then
    (some ((.bool false), r19.2.1, (r19.2.2 + 35)))
    else
    (if (decide ((n13 : Int) < 0)) = true then
    (some ((.bool false), r19.2.1, (r19.2.2 + 35)))
    else
    (if (decide ((n13 : Int) > 255)) = true then
    (some ((.bool false), r19.2.1, (r19.2.2 + 35)))
    else
    (F4_J1 (callP Try.prog keepT n) Y n n9 n13 n17 r19.2.1 (r19.2.2 + 34)))))))))) := F4_eq' go1 n Y x0 x1 x2 h nx

noncomputable def c5 : Code := (Try.f5.body).getD .skip

noncomputable def r5 : List ResultVar := Try.f5.results.toList

noncomputable def F5_J1' (W J : StepF (AV × AHeap × Nat) → StepF (AV × AHeap × Nat)) (call : YldF → CallF) (Y : YldF) (lf : Nat) (x5 : Int) (x6 : Int) (x7 : Int) (x9 : Int) (h : AHeap) (nx : Nat) : Option (AV × AHeap × Nat) :=
  goK W J drawK (machOf Try.prog) call Y (keepT 5) lf c5 [1, 1, 1, 1, 1, 1, 1] [] (retK (machOf Try.prog) ⟨c5, 86, r5, keepT 5⟩) ⟨86, mkL [(5, (.int .i64 x5)), (6, (.int .i64 x6)), (7, (.int .i64 x7)), (9, (.int .i64 x9))]⟩ h nx

noncomputable def F5_J1 (call : YldF → CallF) (Y : YldF) (lf : Nat) (x5 : Int) (x6 : Int) (x7 : Int) (x9 : Int) (h : AHeap) (nx : Nat) : Option (AV × AHeap × Nat) := F5_J1' go1 go1 call Y lf x5 x6 x7 x9 h nx

theorem F5_J1_eq' (J : StepF (AV × AHeap × Nat) → StepF (AV × AHeap × Nat)) (call : YldF → CallF) (Y : YldF) (lf : Nat) (x5 : Int) (x6 : Int) (x7 : Int) (x9 : Int) (h : AHeap) (nx : Nat) : F5_J1' go1 J call Y lf x5 x6 x7 x9 h nx =
    (call Y 16 [(.int .i64 x7), (.int .i64 x6)] h (nx + 28)).bind fun r1 =>
    (asI .i64 r1.1).bind fun n2 =>
    if ((n2 : Int) == x5) = true then
    ((call Y 16 [(.int .i64 x9), (.int .i64 x6)] r1.2.1 r1.2.2).bind fun r3 =>
    (asI .i64 r3.1).bind fun n4 =>
    if ((n4 : Int) == 1) = true then
    ((call Y 16 [(.int .i64 x5), (.int .i64 x9)] r3.2.1 r3.2.2).bind fun r5 =>
    (asI .i64 r5.1).bind fun n6 =>
    if ((x7 : Int) == n6) = true then
    ((call Y 16 [(.int .i64 x5), (.int .i64 x6)] r5.2.1 r5.2.2).bind fun r7 =>
    (asI .i64 r7.1).bind fun n8 =>
    some ((.bool (((n8 : Int) == 0) == ((x5 : Int) == 0))), r7.2.1, r7.2.2))
    else
    (some ((.bool false), r5.2.1, r5.2.2)))
    else
    (some ((.bool false), r3.2.1, r3.2.2)))
    else
    (some ((.bool false), r1.2.1, r1.2.2)) := by kernel_rfl

theorem F5_J1_eq (call : YldF → CallF) (Y : YldF) (lf : Nat) (x5 : Int) (x6 : Int) (x7 : Int) (x9 : Int) (h : AHeap) (nx : Nat) : F5_J1 call Y lf x5 x6 x7 x9 h nx =
    (call Y 16 [(.int .i64 x7), (.int .i64 x6)] h (nx + 28)).bind fun r1 =>
    (asI .i64 r1.1).bind fun n2 =>
    if ((n2 : Int) == x5) = true then
    ((call Y 16 [(.int .i64 x9), (.int .i64 x6)] r1.2.1 r1.2.2).bind fun r3 =>
    (asI .i64 r3.1).bind fun n4 =>
    if ((n4 : Int) == 1) = true then
    ((call Y 16 [(.int .i64 x5), (.int .i64 x9)] r3.2.1 r3.2.2).bind fun r5 =>
    (asI .i64 r5.1).bind fun n6 =>
    if ((x7 : Int) == n6) = true then
    ((call Y 16 [(.int .i64 x5), (.int .i64 x6)] r5.2.1 r5.2.2).bind fun r7 =>
    (asI .i64 r7.1).bind fun n8 =>
    some ((.bool (((n8 : Int) == 0) == ((x5 : Int) == 0))), r7.2.1, r7.2.2))
    else
    (some ((.bool false), r5.2.1, r5.2.2)))
    else
    (some ((.bool false), r3.2.1, r3.2.2)))
    else
    (some ((.bool false), r1.2.1, r1.2.2)) := F5_J1_eq' go1 call Y lf x5 x6 x7 x9 h nx

theorem F5_eq' (J : StepF (AV × AHeap × Nat) → StepF (AV × AHeap × Nat)) (n : Nat) (Y : YldF) (x0 : Int) (x1 : Int) (h : AHeap) (nx : Nat) : rootJ J Try.prog keepT (callP Try.prog keepT n) Y n 5 [(.int .i64 x0), (.int .i64 x1)] h nx =
    ((callP Try.prog keepT n) Y 15 [(.int .i64 x0), (.int .i64 256)] h (nx + 4)).bind fun r1 =>
    (asI .i64 r1.1).bind fun n2 =>
    ((callP Try.prog keepT n) Y 15 [(.int .i64 x1), (.int .i64 255)] r1.2.1 (r1.2.2 + 4)).bind fun r3 =>
    (asI .i64 r3.1).bind fun n4 =>
    ((callP Try.prog keepT n) Y 20 [(.int .i64 n2), (.int .i64 (wrapA .i64 (1 + n4)))] r3.2.1 (r3.2.2 + 8)).bind fun r5 =>
    (asTup 2 r5.1).bind fun d6 =>
    (asI .i64 (d6.getD 0 .bad)).bind fun n7 =>
    (asI .i64 (d6.getD 1 .bad)).bind fun n8 =>
    ((callP Try.prog keepT n) Y 21 [(.int .i64 (wrapA .i64 (1 + n4)))] r5.2.1 (r5.2.2 + 7)).bind fun r9 =>
    (asTup 2 r9.1).bind fun d10 =>
    (asI .i64 (d10.getD 0 .bad)).bind fun n11 =>
    (asI .i64 (d10.getD 1 .bad)).bind fun n12 =>
    ((callP Try.prog keepT n) Y 21 [(.int .i64 0)] r9.2.1 (r9.2.2 + 6)).bind fun r13 =>
    (asTup 2 r13.1).bind fun d14 =>
    (asI .i64 (d14.getD 0 .bad)).bind fun n15 =>
    (asI .i64 (d14.getD 1 .bad)).bind fun n16 =>
    if ((n8 : Int) != 0) = true then
    (some ((.bool false), r13.2.1, (r13.2.2 + 27)))
    else
    (if ((n12 : Int) != 0) = true then
    (some ((.bool false), r13.2.1, (r13.2.2 + 27)))
    else
    (if ((n16 : Int) != 10) = true then
    (some ((.bool false), r13.2.1, (r13.2.2 + 27)))
    else
    (if (decide ((n11 : Int) < 0)) = true then
    (some ((.bool false), r13.2.1, (r13.2.2 + 27)))
    else
    (if (decide ((n11 : Int) > 255)) = true then
    (some ((.bool false), r13.2.1, (r13.2.2 + 27)))
    else
    (if (decide ((n7 : Int) < 0)) = true then
    (some ((.bool false), r13.2.1, (r13.2.2 + 27)))
    else
    (if (decide ((n7 : Int) > 255)) = true then
    (some ((.bool false), r13.2.1, (r13.2.2 + 27)))
    else
    (F5_J1' J J (callP Try.prog keepT n) Y n n2 (wrapA .i64 (1 + n4)) n7 n11 r13.2.1 (r13.2.2 + 26)))))))) := by kernel_rfl

/-- quickset/quicksetkeep.GfInverse -/
theorem F5_eq (n : Nat) (Y : YldF) (x0 : Int) (x1 : Int) (h : AHeap) (nx : Nat) : callP Try.prog keepT (n + 1) Y 5 [(.int .i64 x0), (.int .i64 x1)] h nx =
    ((callP Try.prog keepT n) Y 15 [(.int .i64 x0), (.int .i64 256)] h (nx + 4)).bind fun r1 =>
    (asI .i64 r1.1).bind fun n2 =>
    ((callP Try.prog keepT n) Y 15 [(.int .i64 x1), (.int .i64 255)] r1.2.1 (r1.2.2 + 4)).bind fun r3 =>
    (asI .i64 r3.1).bind fun n4 =>
    ((callP Try.prog keepT n) Y 20 [(.int .i64 n2), (.int .i64 (wrapA .i64 (1 + n4)))] r3.2.1 (r3.2.2 + 8)).bind fun r5 =>
    (asTup 2 r5.1).bind fun d6 =>
    (asI .i64 (d6.getD 0 .bad)).bind fun n7 =>
    (asI .i64 (d6.getD 1 .bad)).bind fun n8 =>
    ((callP Try.prog keepT n) Y 21 [(.int .i64 (wrapA .i64 (1 + n4)))] r5.2.1 (r5.2.2 + 7)).bind fun r9 =>
    (asTup 2 r9.1).bind fun d10 =>
    (asI .i64 (d10.getD 0 .bad)).bind fun n11 =>
    (asI .i64 (d10.getD 1 .bad)).bind fun n12 =>
    ((callP Try.prog keepT n) Y 21 [(.int .i64 0)] r9.2.1 (r9.2.2 + 6)).bind fun r13 =>
    (asTup 2 r13.1).bind fun d14 =>
    (asI .i64 (d14.getD 0 .bad)).bind fun n15 =>
    (asI .i64 (d14.getD 1 .bad)).bind fun n16 =>
    if ((n8 : Int) != 0) = true then
    (some ((.bool false), r13.2.1, (r13.2.2 + 27)))
    else
    (if ((n12 : Int) != 0) = true then
    (some ((.bool false), r13.2.1, (r13.2.2 + 27)))
    else
    (if ((n16 : Int) != 10) = true then
    (some ((.bool false), r13.2.1, (r13.2.2 + 27)))
    else
    (if (decide ((n11 : Int) < 0)) = true then
    (some ((.bool false), r13.2.1, (r13.2.2 + 27)))
    else
    (if (decide ((n11 : Int) > 255)) = true then
    (some ((.bool false), r13.2.1, (r13.2.2 + 27)))
    else
    (if (decide ((n7 : Int) < 0)) = true then
    (some ((.bool false), r13.2.1, (r13.2.2 + 27)))
    else
    (if (decide ((n7 : Int) > 255)) = true then
    (some ((.bool false), r13.2.1, (r13.2.2 + 27)))
    else
    (F5_J1 (callP Try.prog keepT n) Y n n2 (wrapA .i64 (1 + n4)) n7 n11 r13.2.1 (r13.2.2 + 26)))))))) := F5_eq' go1 n Y x0 x1 h nx

noncomputable def c6 : Code := (Try.f6.body).getD .skip

noncomputable def r6 : List ResultVar := Try.f6.results.toList

noncomputable def F6_J1' (W J : StepF (AV × AHeap × Nat) → StepF (AV × AHeap × Nat)) (call : YldF → CallF) (Y : YldF) (lf : Nat) (x5 : Int) (x6 : Int) (x7 : Int) (x9 : Int) (h : AHeap) (nx : Nat) : Option (AV × AHeap × Nat) :=
  goK W J drawK (machOf Try.prog) call Y (keepT 6) lf c6 [1, 1, 1, 1, 1, 1] [] (retK (machOf Try.prog) ⟨c6, 84, r6, keepT 6⟩) ⟨84, mkL [(5, (.int .i64 x5)), (6, (.int .i64 x6)), (7, (.int .i64 x7)), (9, (.int .i64 x9))]⟩ h nx

noncomputable def F6_J1 (call : YldF → CallF) (Y : YldF) (lf : Nat) (x5 : Int) (x6 : Int) (x7 : Int) (x9 : Int) (h : AHeap) (nx : Nat) : Option (AV × AHeap × Nat) := F6_J1' go1 go1 call Y lf x5 x6 x7 x9 h nx

theorem F6_J1_eq' (J : StepF (AV × AHeap × Nat) → StepF (AV × AHeap × Nat)) (call : YldF → CallF) (Y : YldF) (lf : Nat) (x5 : Int) (x6 : Int) (x7 : Int) (x9 : Int) (h : AHeap) (nx : Nat) : F6_J1' go1 J call Y lf x5 x6 x7 x9 h nx =
    (call Y 19 [(.int .i64 x7)] h (nx + 7)).bind fun r1 =>
    (asTup 2 r1.1).bind fun d2 =>
    (asI .i64 (d2.getD 0 .bad)).bind fun n3 =>
    (asI .i64 (d2.getD 1 .bad)).bind fun n4 =>
    (call Y 16 [(.int .i64 x5), (.int .i64 x6)] r1.2.1 (r1.2.2 + 9)).bind fun r5 =>
    (asI .i64 r5.1).bind fun n6 =>
    (call Y 22 [(.int .i64 n6)] r5.2.1 r5.2.2).bind fun r7 =>
    (asTup 2 r7.1).bind fun d8 =>
    (asI .i64 (d8.getD 0 .bad)).bind fun n9 =>
    (asI .i64 (d8.getD 1 .bad)).bind fun n10 =>
    if ((n4 : Int) == 0) = true then
    (if ((n10 : Int) == 0) = true then
    (if ((n3 : Int) == x5) = true then
    (some ((.bool ((n9 : Int) == (Int.tmod (wrapA .i64 (x7 + x9)) 255))), r7.2.1, (r7.2.2 + 20)))
    else
    (some ((.bool false), r7.2.1, (r7.2.2 + 20))))
    else
    (some ((.bool false), r7.2.1, (r7.2.2 + 20))))
    else
    (some ((.bool false), r7.2.1, (r7.2.2 + 20))) := by kernel_rfl

theorem F6_J1_eq (call : YldF → CallF) (Y : YldF) (lf : Nat) (x5 : Int) (x6 : Int) (x7 : Int) (x9 : Int) (h : AHeap) (nx : Nat) : F6_J1 call Y lf x5 x6 x7 x9 h nx =
    (call Y 19 [(.int .i64 x7)] h (nx + 7)).bind fun r1 =>
    (asTup 2 r1.1).bind fun d2 =>
    (asI .i64 (d2.getD 0 .bad)).bind fun n3 =>
    (asI .i64 (d2.getD 1 .bad)).bind fun n4 =>
    (call Y 16 [(.int .i64 x5), (.int .i64 x6)] r1.2.1 (r1.2.2 + 9)).bind fun r5 =>
    (asI .i64 r5.1).bind fun n6 =>
    (call Y 22 [(.int .i64 n6)] r5.2.1 r5.2.2).bind fun r7 =>
    (asTup 2 r7.1).bind fun d8 =>
    (asI .i64 (d8.getD 0 .bad)).bind fun n9 =>
    (asI .i64 (d8.getD 1 .bad)).bind fun n10 =>
    if ((n4 : Int) == 0) = true then
    (if ((n10 : Int) == 0) = true then
    (if ((n3 : Int) == x5) = true then
    (some ((.bool ((n9 : Int) == (Int.tmod (wrapA .i64 (x7 + x9)) 255))), r7.2.1, (r7.2.2 + 20)))
    else
    (some ((.bool false), r7.2.1, (r7.2.2 + 20))))
    else
    (some ((.bool false), r7.2.1, (r7.2.2 + 20))))
    else
    (some ((.bool false), r7.2.1, (r7.2.2 + 20))) := F6_J1_eq' go1 call Y lf x5 x6 x7 x9 h nx

theorem F6_eq' (J : StepF (AV × AHeap × Nat) → StepF (AV × AHeap × Nat)) (n : Nat) (Y : YldF) (x0 : Int) (x1 : Int) (h : AHeap) (nx : Nat) : rootJ J Try.prog keepT (callP Try.prog keepT n) Y n 6 [(.int .i64 x0), (.int .i64 x1)] h nx =
    ((callP Try.prog keepT n) Y 15 [(.int .i64 x0), (.int .i64 255)] h (nx + 5)).bind fun r1 =>
    (asI .i64 r1.1).bind fun n2 =>
    ((callP Try.prog keepT n) Y 15 [(.int .i64 x1), (.int .i64 255)] r1.2.1 (r1.2.2 + 4)).bind fun r3 =>
    (asI .i64 r3.1).bind fun n4 =>
    ((callP Try.prog keepT n) Y 22 [(.int .i64 (wrapA .i64 (1 + n2)))] r3.2.1 (r3.2.2 + 7)).bind fun r5 =>
    (asTup 2 r5.1).bind fun d6 =>
    (asI .i64 (d6.getD 0 .bad)).bind fun n7 =>
    (asI .i64 (d6.getD 1 .bad)).bind fun n8 =>
    ((callP Try.prog keepT n) Y 22 [(.int .i64 (wrapA .i64 (1 + n4)))] r5.2.1 (r5.2.2 + 7)).bind fun r9 =>
    (asTup 2 r9.1).bind fun d10 =>
    (asI .i64 (d10.getD 0 .bad)).bind fun n11 =>
    (asI .i64 (d10.getD 1 .bad)).bind fun n12 =>
    if ((n8 : Int) != 0) = true then
    (some ((.bool false), r9.2.1, (r9.2.2 + 23)))
    else
    (if ((n12 : Int) != 0) = true then
    (some ((.bool false), r9.2.1, (r9.2.2 + 23)))
    else
    (if (decide ((n7 : Int) < 0)) = true then
    (some ((.bool false), r9.2.1, (r9.2.2 + 23)))
    else
    (if (decide ((n7 : Int) > 254)) = true then
    (some ((.bool false), r9.2.1, (r9.2.2 + 23)))
    else
    (if (decide ((n11 : Int) < 0)) = true then
    (some ((.bool false), r9.2.1, (r9.2.2 + 23)))
    else
    (if (decide ((n11 : Int) > 254)) = true then
    (some ((.bool false), r9.2.1, (r9.2.2 + 23)))
    else
    (F6_J1' J J (callP Try.prog keepT n) Y n (wrapA .i64 (1 + n2)) (wrapA .i64 (1 + n4)) n7 n11 r9.2.1 (r9.2.2 + 22))))))) := by kernel_rfl

/-- quickset/quicksetkeep.GfLogBack -/
theorem F6_eq (n : Nat) (Y : YldF) (x0 : Int) (x1 : Int) (h : AHeap) (nx : Nat) : callP Try.prog keepT (n + 1) Y 6 [(.int .i64 x0), (.int .i64 x1)] h nx =
    ((callP Try.prog keepT n) Y 15 [(.int .i64 x0), (.int .i64 255)] h (nx + 5)).bind fun r1 =>
    (asI .i64 r1.1).bind fun n2 =>
    ((callP Try.prog keepT n) Y 15 [(.int .i64 x1), (.int .i64 255)] r1.2.1 (r1.2.2 + 4)).bind fun r3 =>
    (asI .i64 r3.1).bind fun n4 =>
    ((callP Try.prog keepT n) Y 22 [(.int .i64 (wrapA .i64 (1 + n2)))] r3.2.1 (r3.2.2 + 7)).bind fun r5 =>
    (asTup 2 r5.1).bind fun d6 =>
    (asI .i64 (d6.getD 0 .bad)).bind fun n7 =>
    (asI .i64 (d6.getD 1 .bad)).bind fun n8 =>
    ((callP Try.prog keepT n) Y 22 [(.int .i64 (wrapA .i64 (1 + n4)))] r5.2.1 (r5.2.2 + 7)).bind fun r9 =>
    (asTup 2 r9.1).bind fun d10 =>
    (asI .i64 (d10.getD 0 .bad)).bind fun n11 =>
    (asI .i64 (d10.getD 1 .bad)).bind fun n12 =>
    if ((n8 : Int) != 0) = true then
    (some ((.bool false), r9.2.1, (r9.2.2 + 23)))
    else
    (if ((n12 : Int) != 0) = true then
    (some ((.bool false), r9.2.1, (r9.2.2 + 23)))
    else
    (if (decide ((n7 : Int) < 0)) = true then
    (some ((.bool false), r9.2.1, (r9.2.2 + 23)))
    else
    (if (decide ((n7 : Int) > 254)) = true then
    (some ((.bool false), r9.2.1, (r9.2.2 + 23)))
    else
    (if (decide ((n11 : Int) < 0)) = true then
    (some ((.bool false), r9.2.1, (r9.2.2 + 23)))
    else
    (if (decide ((n11 : Int) > 254)) = true then
    (some ((.bool false), r9.2.1, (r9.2.2 + 23)))
    else
    (F6_J1 (callP Try.prog keepT n) Y n (wrapA .i64 (1 + n2)) (wrapA .i64 (1 + n4)) n7 n11 r9.2.1 (r9.2.2 + 22))))))) := F6_eq' go1 n Y x0 x1 h nx

noncomputable def c7 : Code := (Try.f7.body).getD .skip

noncomputable def r7 : List ResultVar := Try.f7.results.toList

noncomputable def F7_J1' (W J : StepF (AV × AHeap × Nat) → StepF (AV × AHeap × Nat)) (call : YldF → CallF) (Y : YldF) (lf : Nat) (x2a : Option (Nat × Nat)) (x2n : Nat) (x2c : Bool) (x5 : Int) (x15a : Option (Nat × Nat)) (x15n : Nat) (x15c : Bool) (x16a : Option (Nat × Nat)) (x16n : Nat) (x16c : Bool) (x18a : Option (Nat × Nat)) (x18n : Nat) (x18c : Bool) (h : AHeap) (nx : Nat) : Option (AV × AHeap × Nat) :=
  goK W J drawK (machOf Try.prog) call Y (keepT 7) lf c7 [1, 1, 1, 1, 1, 1, 1, 1, 1] [] (retK (machOf Try.prog) ⟨c7, 141, r7, keepT 7⟩) ⟨141, mkL [(2, (.slice x2a x2n x2c)), (5, (.int .i64 x5)), (15, (.slice x15a x15n x15c)), (16, (.slice x16a x16n x16c)), (18, (.slice x18a x18n x18c))]⟩ h nx

noncomputable def F7_J1 (call : YldF → CallF) (Y : YldF) (lf : Nat) (x2a : Option (Nat × Nat)) (x2n : Nat) (x2c : Bool) (x5 : Int) (x15a : Option (Nat × Nat)) (x15n : Nat) (x15c : Bool) (x16a : Option (Nat × Nat)) (x16n : Nat) (x16c : Bool) (x18a : Option (Nat × Nat)) (x18n : Nat) (x18c : Bool) (h : AHeap) (nx : Nat) : Option (AV × AHeap × Nat) := F7_J1' go1 go1 call Y lf x2a x2n x2c x5 x15a x15n x15c x16a x16n x16c x18a x18n x18c h nx

theorem F7_J1_eq' (J : StepF (AV × AHeap × Nat) → StepF (AV × AHeap × Nat)) (call : YldF → CallF) (Y : YldF) (lf : Nat) (x2a : Option (Nat × Nat)) (x2n : Nat) (x2c : Bool) (x5 : Int) (x15a : Option (Nat × Nat)) (x15n : Nat) (x15c : Bool) (x16a : Option (Nat × Nat)) (x16n : Nat) (x16c : Bool) (x18a : Option (Nat × Nat)) (x18n : Nat) (x18c : Bool) (h : AHeap) (nx : Nat) : F7_J1' go1 J call Y lf x2a x2n x2c x5 x15a x15n x15c x16a x16n x16c x18a x18n x18c h nx =
    (call Y 24 [(.int .i64 x5)] h (nx + 7)).bind fun r1 =>
    (asI .i64 r1.1).bind fun n2 =>
    (call Y 23 [(.slice x2a x2n x2c), (.int .i64 1), (.int .i64 n2)] r1.2.1 r1.2.2).bind fun r3 =>
    (asSl r3.1).bind fun s4 =>
    (s4.1).bind fun p5 =>
    if 0 ≤ (0 : Int) ∧ 0 < ((s4.2.1 : Nat) : Int) then
    ((ldA r3.2.1 p5.1 (p5.2 + Int.toNat 0 * 1)).bind fun v6 =>
    (asSl v6).bind fun s7 =>
    (call Y 27 [(.slice x16a x16n x16c), (.slice s7.1 s7.2.1 s7.2.2)] r3.2.1 (r3.2.2 + 8)).bind fun r8 =>
    (asTup 2 r8.1).bind fun d9 =>
    (asSl (d9.getD 0 .bad)).bind fun s10 =>
    (asI .i64 (d9.getD 1 .bad)).bind fun n11 =>
    (call Y 27 [(.slice x15a x15n x15c), (.slice s10.1 s10.2.1 s10.2.2)] r8.2.1 (r8.2.2 + 8)).bind fun r12 =>
    (asTup 2 r12.1).bind fun d13 =>
    (asSl (d13.getD 0 .bad)).bind fun s14 =>
    (asI .i64 (d13.getD 1 .bad)).bind fun n15 =>
    (call Y 27 [(.slice x18a x18n x18c), (.slice s7.1 s7.2.1 s7.2.2)] r12.2.1 (r12.2.2 + 8)).bind fun r16 =>
    (asTup 2 r16.1).bind fun d17 =>
    (asSl (d17.getD 0 .bad)).bind fun s18 =>
    (asI .i64 (d17.getD 1 .bad)).bind fun n19 =>
    if ((n11 : Int) == 0) = true then
    (if ((n15 : Int) == 0) = true then
    (if ((n19 : Int) == 0) = true then
    ((call Y 28 [(.slice s14.1 s14.2.1 s14.2.2), (.slice s18.1 s18.2.1 s18.2.2)] r16.2.1 (r16.2.2 + 16)).bind fun r20 =>
    (asB r20.1).bind fun t21 =>
    some ((.bool t21), r20.2.1, r20.2.2))
    else
    (some ((.bool false), r16.2.1, (r16.2.2 + 16))))
    else
    (some ((.bool false), r16.2.1, (r16.2.2 + 16))))
    else
    (some ((.bool false), r16.2.1, (r16.2.2 + 16))))
    else none := by kernel_rfl

theorem F7_J1_eq (call : YldF → CallF) (Y : YldF) (lf : Nat) (x2a : Option (Nat × Nat)) (x2n : Nat) (x2c : Bool) (x5 : Int) (x15a : Option (Nat × Nat)) (x15n : Nat) (x15c : Bool) (x16a : Option (Nat × Nat)) (x16n : Nat) (x16c : Bool) (x18a : Option (Nat × Nat)) (x18n : Nat) (x18c : Bool) (h : AHeap) (nx : Nat) : F7_J1 call Y lf x2a x2n x2c x5 x15a x15n x15c x16a x16n x16c x18a x18n x18c h nx =
    (call Y 24 [(.int .i64 x5)] h (nx + 7)).bind fun r1 =>
    (asI .i64 r1.1).bind fun n2 =>
    (call Y 23 [(.slice x2a x2n x2c), (.int .i64 1), (.int .i64 n2)] r1.2.1 r1.2.2).bind fun r3 =>
    (asSl r3.1).bind fun s4 =>
    (s4.1).bind fun p5 =>
    if 0 ≤ (0 : Int) ∧ 0 < ((s4.2.1 : Nat) : Int) then
    ((ldA r3.2.1 p5.1 (p5.2 + Int.toNat 0 * 1)).bind fun v6 =>
    (asSl v6).bind fun s7 =>
    (call Y 27 [(.slice x16a x16n x16c), (.slice s7.1 s7.2.1 s7.2.2)] r3.2.1 (r3.2.2 + 8)).bind fun r8 =>
    (asTup 2 r8.1).bind fun d9 =>
    (asSl (d9.getD 0 .bad)).bind fun s10 =>
    (asI .i64 (d9.getD 1 .bad)).bind fun n11 =>
    (call Y 27 [(.slice x15a x15n x15c), (.slice s10.1 s10.2.1 s10.2.2)] r8.2.1 (r8.2.2 + 8)).bind fun r12 =>
    (asTup 2 r12.1).bind fun d13 =>
    (asSl (d13.getD 0 .bad)).bind fun s14 =>
    (asI .i64 (d13.getD 1 .bad)).bind fun n15 =>
    (call Y 27 [(.slice x18a x18n x18c), (.slice s7.1 s7.2.1 s7.2.2)] r12.2.1 (r12.2.2 + 8)).bind fun r16 =>
    (asTup 2 r16.1).bind fun d17 =>
    (asSl (d17.getD 0 .bad)).bind fun s18 =>
    (asI .i64 (d17.getD 1 .bad)).bind fun n19 =>
    if ((n11 : Int) == 0) = true then
    (if ((n15 : Int) == 0) = true then
    (if ((n19 : Int) == 0) = true then
    ((call Y 28 [(.slice s14.1 s14.2.1 s14.2.2), (.slice s18.1 s18.2.1 s18.2.2)] r16.2.1 (r16.2.2 + 16)).bind fun r20 =>
    (asB r20.1).bind fun t21 =>
    some ((.bool t21), r20.2.1, r20.2.2))
    else
    (some ((.bool false), r16.2.1, (r16.2.2 + 16))))
    else
    (some ((.bool false), r16.2.1, (r16.2.2 + 16))))
    else
    (some ((.bool false), r16.2.1, (r16.2.2 + 16))))
    else none := F7_J1_eq' go1 call Y lf x2a x2n x2c x5 x15a x15n x15c x16a x16n x16c x18a x18n x18c h nx

theorem F7_eq' (J : StepF (AV × AHeap × Nat) → StepF (AV × AHeap × Nat)) (n : Nat) (Y : YldF) (x0a : Option (Nat × Nat)) (x0n : Nat) (x0c : Bool) (x1a : Option (Nat × Nat)) (x1n : Nat) (x1c : Bool) (x2a : Option (Nat × Nat)) (x2n : Nat) (x2c : Bool) (x3 : Int) (x4 : Int) (x5 : Int) (x6 : Int) (h : AHeap) (nx : Nat) : rootJ J Try.prog keepT (callP Try.prog keepT n) Y n 7 [(.slice x0a x0n x0c), (.slice x1a x1n x1c), (.slice x2a x2n x2c), (.int .i64 x3), (.int .i64 x4), (.int .i64 x5), (.int .i64 x6)] h nx =
    ((callP Try.prog keepT n) Y 24 [(.int .i64 x3)] h (nx + 8)).bind fun r1 =>
    (asI .i64 r1.1).bind fun n2 =>
    ((callP Try.prog keepT n) Y 24 [(.int .i64 x4)] r1.2.1 r1.2.2).bind fun r3 =>
    (asI .i64 r3.1).bind fun n4 =>
    ((callP Try.prog keepT n) Y 23 [(.slice x0a x0n x0c), (.int .i64 n2), (.int .i64 n4)] r3.2.1 r3.2.2).bind fun r5 =>
    (asSl r5.1).bind fun s6 =>
    ((callP Try.prog keepT n) Y 24 [(.int .i64 x4)] r5.2.1 (r5.2.2 + 7)).bind fun r7 =>
    (asI .i64 r7.1).bind fun n8 =>
    ((callP Try.prog keepT n) Y 24 [(.int .i64 x5)] r7.2.1 r7.2.2).bind fun r9 =>
    (asI .i64 r9.1).bind fun n10 =>
    ((callP Try.prog keepT n) Y 23 [(.slice x1a x1n x1c), (.int .i64 n8), (.int .i64 n10)] r9.2.1 r9.2.2).bind fun r11 =>
    (asSl r11.1).bind fun s12 =>
    ((callP Try.prog keepT n) Y 24 [(.int .i64 x5)] r11.2.1 (r11.2.2 + 7)).bind fun r13 =>
    (asI .i64 r13.1).bind fun n14 =>
    ((callP Try.prog keepT n) Y 24 [(.int .i64 x6)] r13.2.1 r13.2.2).bind fun r15 =>
    (asI .i64 r15.1).bind fun n16 =>
    ((callP Try.prog keepT n) Y 23 [(.slice x2a x2n x2c), (.int .i64 n14), (.int .i64 n16)] r15.2.1 r15.2.2).bind fun r17 =>
    (asSl r17.1).bind fun s18 =>
    ((callP Try.prog keepT n) Y 25 [(.slice s6.1 s6.2.1 s6.2.2), (.slice s12.1 s12.2.1 s12.2.2)] r17.2.1 (r17.2.2 + 8)).bind fun r19 =>
    (asTup 2 r19.1).bind fun d20 =>
    (asSl (d20.getD 0 .bad)).bind fun s21 =>
    (asI .i64 (d20.getD 1 .bad)).bind fun n22 =>
    ((callP Try.prog keepT n) Y 25 [(.slice s12.1 s12.2.1 s12.2.2), (.slice s18.1 s18.2.1 s18.2.2)] r19.2.1 (r19.2.2 + 8)).bind fun r23 =>
    (asTup 2 r23.1).bind fun d24 =>
    (asSl (d24.getD 0 .bad)).bind fun s25 =>
    (asI .i64 (d24.getD 1 .bad)).bind fun n26 =>
    ((callP Try.prog keepT n) Y 25 [(.slice s21.1 s21.2.1 s21.2.2), (.slice s18.1 s18.2.1 s18.2.2)] r23.2.1 (r23.2.2 + 8)).bind fun r27 =>
    (asTup 2 r27.1).bind fun d28 =>
    (asSl (d28.getD 0 .bad)).bind fun s29 =>
    (asI .i64 (d28.getD 1 .bad)).bind fun n30 =>
    ((callP Try.prog keepT n) Y 25 [(.slice s6.1 s6.2.1 s6.2.2), (.slice s25.1 s25.2.1 s25.2.2)] r27.2.1 (r27.2.2 + 8)).bind fun r31 =>
    (asTup 2 r31.1).bind fun d32 =>
    (asSl (d32.getD 0 .bad)).bind fun s33 =>
    (asI .i64 (d32.getD 1 .bad)).bind fun n34 =>
    if ((n22 : Int) != 0) = true then
    (some ((.bool false), r31.2.1, (r31.2.2 + 28)))
    else
    (if ((n26 : Int) != 0) = true then
    (some ((.bool false), r31.2.1, (r31.2.2 + 28)))
    else
    (if ((n30 : Int) != 0) = true then
    (some ((.bool false), r31.2.1, (r31.2.2 + 28)))
    else
    (if ((n34 : Int) != 0) = true then
    (some ((.bool false), r31.2.1, (r31.2.2 + 28)))
    else
    (((callP Try.prog keepT n) Y 24 [(.int .i64 x3)] r31.2.1 (r31.2.2 + 27)).bind fun r35 =>
    (asI .i64 r35.1).bind fun n36 =>
    if ((((s29.2.1 : Nat) : Int) : Int) != n36) = true then
    (some ((.bool false), r35.2.1, (r35.2.2 + 1)))
    else
    (((callP Try.prog keepT n) Y 26 [(.slice s29.1 s29.2.1 s29.2.2), (.slice s33.1 s33.2.1 s33.2.2)] r35.2.1 r35.2.2).bind fun r37 =>
    (asB r37.1).bind fun t38 =>
    if (!t38) = true then
    (some ((.bool false), r37.2.1, (r37.2.2 + 1)))
    else
    (F7_J1' J J (callP Try.prog keepT n) Y n x2a x2n x2c x5 s6.1 s6.2.1 s6.2.2 s12.1 s12.2.1 s12.2.2 s21.1 s21.2.1 s21.2.2 r37.2.1 r37.2.2)))))) := by kernel_rfl

/-- quickset/quicksetkeep.MatTogether -/
theorem F7_eq (n : Nat) (Y : YldF) (x0a : Option (Nat × Nat)) (x0n : Nat) (x0c : Bool) (x1a : Option (Nat × Nat)) (x1n : Nat) (x1c : Bool) (x2a : Option (Nat × Nat)) (x2n : Nat) (x2c : Bool) (x3 : Int) (x4 : Int) (x5 : Int) (x6 : Int) (h : AHeap) (nx : Nat) : callP Try.prog keepT (n + 1) Y 7 [(.slice x0a x0n x0c), (.slice x1a x1n x1c), (.slice x2a x2n x2c), (.int .i64 x3), (.int .i64 x4), (.int .i64 x5), (.int .i64 x6)] h nx =
    ((callP Try.prog keepT n) Y 24 [(.int .i64 x3)] h (nx + 8)).bind fun r1 =>
    (asI .i64 r1.1).bind fun n2 =>
    ((callP Try.prog keepT n) Y 24 [(.int .i64 x4)] r1.2.1 r1.2.2).bind fun r3 =>
    (asI .i64 r3.1).bind fun n4 =>
    ((callP Try.prog keepT n) Y 23 [(.slice x0a x0n x0c), (.int .i64 n2), (.int .i64 n4)] r3.2.1 r3.2.2).bind fun r5 =>
    (asSl r5.1).bind fun s6 =>
    ((callP Try.prog keepT n) Y 24 [(.int .i64 x4)] r5.2.1 (r5.2.2 + 7)).bind fun r7 =>
    (asI .i64 r7.1).bind fun n8 =>
    ((callP Try.prog keepT n) Y 24 [(.int .i64 x5)] r7.2.1 r7.2.2).bind fun r9 =>
    (asI .i64 r9.1).bind fun n10 =>
    ((callP Try.prog keepT n) Y 23 [(.slice x1a x1n x1c), (.int .i64 n8), (.int .i64 n10)] r9.2.1 r9.2.2).bind fun r11 =>
    (asSl r11.1).bind fun s12 =>
    ((callP Try.prog keepT n) Y 24 [(.int .i64 x5)] r11.2.1 (r11.2.2 + 7)).bind fun r13 =>
    (asI .i64 r13.1).bind fun n14 =>
    ((callP Try.prog keepT n) Y 24 [(.int .i64 x6)] r13.2.1 r13.2.2).bind fun r15 =>
    (asI .i64 r15.1).bind fun n16 =>
    ((callP Try.prog keepT n) Y 23 [(.slice x2a x2n x2c), (.int .i64 n14), (.int .i64 n16)] r15.2.1 r15.2.2).bind fun r17 =>
    (asSl r17.1).bind fun s18 =>
    ((callP Try.prog keepT n) Y 25 [(.slice s6.1 s6.2.1 s6.2.2), (.slice s12.1 s12.2.1 s12.2.2)] r17.2.1 (r17.2.2 + 8)).bind fun r19 =>
    (asTup 2 r19.1).bind fun d20 =>
    (asSl (d20.getD 0 .bad)).bind fun s21 =>
    (asI .i64 (d20.getD 1 .bad)).bind fun n22 =>
    ((callP Try.prog keepT n) Y 25 [(.slice s12.1 s12.2.1 s12.2.2), (.slice s18.1 s18.2.1 s18.2.2)] r19.2.1 (r19.2.2 + 8)).bind fun r23 =>
    (asTup 2 r23.1).bind fun d24 =>
    (asSl (d24.getD 0 .bad)).bind fun s25 =>
    (asI .i64 (d24.getD 1 .bad)).bind fun n26 =>
    ((callP Try.prog keepT n) Y 25 [(.slice s21.1 s21.2.1 s21.2.2), (.slice s18.1 s18.2.1 s18.2.2)] r23.2.1 (r23.2.2 + 8)).bind fun r27 =>
    (asTup 2 r27.1).bind fun d28 =>
    (asSl (d28.getD 0 .bad)).bind fun s29 =>
    (asI .i64 (d28.getD 1 .bad)).bind fun n30 =>
    ((callP Try.prog keepT n) Y 25 [(.slice s6.1 s6.2.1 s6.2.2), (.slice s25.1 s25.2.1 s25.2.2)] r27.2.1 (r27.2.2 + 8)).bind fun r31 =>
    (asTup 2 r31.1).bind fun d32 =>
    (asSl (d32.getD 0 .bad)).bind fun s33 =>
    (asI .i64 (d32.getD 1 .bad)).bind fun n34 =>
    if ((n22 : Int) != 0) = true then
    (some ((.bool false), r31.2.1, (r31.2.2 + 28)))
    else
    (if ((n26 : Int) != 0) = true then
    (some ((.bool false), r31.2.1, (r31.2.2 + 28)))
    else
    (if ((n30 : Int) != 0) = true then
    (some ((.bool false), r31.2.1, (r31.2.2 + 28)))
    else
    (if ((n34 : Int) != 0) = true then
    (some ((.bool false), r31.2.1, (r31.2.2 + 28)))
    else
    (((callP Try.prog keepT n) Y 24 [(.int .i64 x3)] r31.2.1 (r31.2.2 + 27)).bind fun r35 =>
    (asI .i64 r35.1).bind fun n36 =>
    if ((((s29.2.1 : Nat) : Int) : Int) != n36) = true then
    (some ((.bool false), r35.2.1, (r35.2.2 + 1)))
    else
    (((callP Try.prog keepT n) Y 26 [(.slice s29.1 s29.2.1 s29.2.2), (.slice s33.1 s33.2.1 s33.2.2)] r35.2.1 r35.2.2).bind fun r37 =>
    (asB r37.1).bind fun t38 =>
    if (!t38) = true then
    (some ((.bool false), r37.2.1, (r37.2.2 + 1)))
    else
    (F7_J1 (callP Try.prog keepT n) Y n x2a x2n x2c x5 s6.1 s6.2.1 s6.2.2 s12.1 s12.2.1 s12.2.2 s21.1 s21.2.1 s21.2.2 r37.2.1 r37.2.2)))))) := F7_eq' go1 n Y x0a x0n x0c x1a x1n x1c x2a x2n x2c x3 x4 x5 x6 h nx

noncomputable def c8 : Code := (Try.f8.body).getD .skip

noncomputable def r8 : List ResultVar := Try.f8.results.toList

noncomputable def F8_L1' (W J : StepF (AV × AHeap × Nat) → StepF (AV × AHeap × Nat)) (call : YldF → CallF) (Y : YldF) (lf : Nat) (n0 : Nat) (x9 : Int) (x10 : Int) (x12a : Option (Nat × Nat)) (x12n : Nat) (x12c : Bool) (x13a : Option (Nat × Nat)) (x13n : Nat) (x13c : Bool) (x14a : Option (Nat × Nat)) (x14n : Nat) (x14c : Bool) (x15 : Int) (h : AHeap) (nx : Nat) : Option (AV × AHeap × Nat) :=
  goK W J drawK (machOf Try.prog) call Y (keepT 8) lf c8 [1, 1, 1, 1, 1, 1, 1, 0, 1, 0, 9] [n0] (retK (machOf Try.prog) ⟨c8, 200, r8, keepT 8⟩) ⟨200, mkL [(9, (.int .i64 x9)), (10, (.int .i64 x10)), (12, (.slice x12a x12n x12c)), (13, (.slice x13a x13n x13c)), (14, (.slice x14a x14n x14c)), (15, (.int .i64 x15))]⟩ h nx

noncomputable def F8_L1 (call : YldF → CallF) (Y : YldF) (lf : Nat) (n0 : Nat) (x9 : Int) (x10 : Int) (x12a : Option (Nat × Nat)) (x12n : Nat) (x12c : Bool) (x13a : Option (Nat × Nat)) (x13n : Nat) (x13c : Bool) (x14a : Option (Nat × Nat)) (x14n : Nat) (x14c : Bool) (x15 : Int) (h : AHeap) (nx : Nat) : Option (AV × AHeap × Nat) := F8_L1' go1 go1 call Y lf n0 x9 x10 x12a x12n x12c x13a x13n x13c x14a x14n x14c x15 h nx

noncomputable def F8_L2' (W J : StepF (AV × AHeap × Nat) → StepF (AV × AHeap × Nat)) (call : YldF → CallF) (Y : YldF) (lf : Nat) (n0 : Nat) (n1 : Nat) (x9 : Int) (x10 : Int) (x12a : Option (Nat × Nat)) (x12n : Nat) (x12c : Bool) (x13a : Option (Nat × Nat)) (x13n : Nat) (x13c : Bool) (x14a : Option (Nat × Nat)) (x14n : Nat) (x14c : Bool) (x15 : Int) (x16a : Option (Nat × Nat)) (x16n : Nat) (x16c : Bool) (x17 : Int) (h : AHeap) (nx : Nat) : Option (AV × AHeap × Nat) :=
  goK W J drawK (machOf Try.prog) call Y (keepT 8) lf c8 [1, 1, 1, 1, 1, 1, 1, 0, 1, 0, 0, 1, 0, 0, 1, 0, 1, 0, 9] [n0, n1] (retK (machOf Try.prog) ⟨c8, 200, r8, keepT 8⟩) ⟨200, mkL [(9, (.int .i64 x9)), (10, (.int .i64 x10)), (12, (.slice x12a x12n x12c)), (13, (.slice x13a x13n x13c)), (14, (.slice x14a x14n x14c)), (15, (.int .i64 x15)), (16, (.slice x16a x16n x16c)), (17, (.int .i64 x17))]⟩ h nx

noncomputable def F8_L2 (call : YldF → CallF) (Y : YldF) (lf : Nat) (n0 : Nat) (n1 : Nat) (x9 : Int) (x10 : Int) (x12a : Option (Nat × Nat)) (x12n : Nat) (x12c : Bool) (x13a : Option (Nat × Nat)) (x13n : Nat) (x13c : Bool) (x14a : Option (Nat × Nat)) (x14n : Nat) (x14c : Bool) (x15 : Int) (x16a : Option (Nat × Nat)) (x16n : Nat) (x16c : Bool) (x17 : Int) (h : AHeap) (nx : Nat) : Option (AV × AHeap × Nat) := F8_L2' go1 go1 call Y lf n0 n1 x9 x10 x12a x12n x12c x13a x13n x13c x14a x14n x14c x15 x16a x16n x16c x17 h nx

noncomputable def F8_J3' (W J : StepF (AV × AHeap × Nat) → StepF (AV × AHeap × Nat)) (call : YldF → CallF) (Y : YldF) (lf : Nat) (x10 : Int) (x12a : Option (Nat × Nat)) (x12n : Nat) (x12c : Bool) (x18a : Option (Nat × Nat)) (x18n : Nat) (x18c : Bool) (x20a : Option (Nat × Nat)) (x20n : Nat) (x20c : Bool) (x22a : Option (Nat × Nat)) (x22n : Nat) (x22c : Bool) (h : AHeap) (nx : Nat) : Option (AV × AHeap × Nat) :=
  goK W J drawK (machOf Try.prog) call Y (keepT 8) lf c8 [1, 1, 1, 1, 1, 1, 1, 1, 1, 1, 1, 1] [] (retK (machOf Try.prog) ⟨c8, 200, r8, keepT 8⟩) ⟨200, mkL [(10, (.int .i64 x10)), (12, (.slice x12a x12n x12c)), (18, (.slice x18a x18n x18c)), (20, (.slice x20a x20n x20c)), (22, (.slice x22a x22n x22c))]⟩ h nx

noncomputable def F8_J3 (call : YldF → CallF) (Y : YldF) (lf : Nat) (x10 : Int) (x12a : Option (Nat × Nat)) (x12n : Nat) (x12c : Bool) (x18a : Option (Nat × Nat)) (x18n : Nat) (x18c : Bool) (x20a : Option (Nat × Nat)) (x20n : Nat) (x20c : Bool) (x22a : Option (Nat × Nat)) (x22n : Nat) (x22c : Bool) (h : AHeap) (nx : Nat) : Option (AV × AHeap × Nat) := F8_J3' go1 go1 call Y lf x10 x12a x12n x12c x18a x18n x18c x20a x20n x20c x22a x22n x22c h nx

noncomputable def F8_L4' (W J : StepF (AV × AHeap × Nat) → StepF (AV × AHeap × Nat)) (call : YldF → CallF) (Y : YldF) (lf : Nat) (n0 : Nat) (x10 : Int) (x12a : Option (Nat × Nat)) (x12n : Nat) (x12c : Bool) (x18a : Option (Nat × Nat)) (x18n : Nat) (x18c : Bool) (x20a : Option (Nat × Nat)) (x20n : Nat) (x20c : Bool) (x22a : Option (Nat × Nat)) (x22n : Nat) (x22c : Bool) (x24 : Int) (h : AHeap) (nx : Nat) : Option (AV × AHeap × Nat) :=
  goK W J drawK (machOf Try.prog) call Y (keepT 8) lf c8 [1, 1, 1, 1, 1, 1, 1, 1, 1, 1, 1, 1, 0, 1, 0, 9] [n0] (retK (machOf Try.prog) ⟨c8, 200, r8, keepT 8⟩) ⟨200, mkL [(10, (.int .i64 x10)), (12, (.slice x12a x12n x12c)), (18, (.slice x18a x18n x18c)), (20, (.slice x20a x20n x20c)), (22, (.slice x22a x22n x22c)), (24, (.int .i64 x24))]⟩ h nx

noncomputable def F8_L4 (call : YldF → CallF) (Y : YldF) (lf : Nat) (n0 : Nat) (x10 : Int) (x12a : Option (Nat × Nat)) (x12n : Nat) (x12c : Bool) (x18a : Option (Nat × Nat)) (x18n : Nat) (x18c : Bool) (x20a : Option (Nat × Nat)) (x20n : Nat) (x20c : Bool) (x22a : Option (Nat × Nat)) (x22n : Nat) (x22c : Bool) (x24 : Int) (h : AHeap) (nx : Nat) : Option (AV × AHeap × Nat) := F8_L4' go1 go1 call Y lf n0 x10 x12a x12n x12c x18a x18n x18c x20a x20n x20c x22a x22n x22c x24 h nx

noncomputable def F8_J5' (W J : StepF (AV × AHeap × Nat) → StepF (AV × AHeap × Nat)) (call : YldF → CallF) (Y : YldF) (lf : Nat) (n0 : Nat) (x10 : Int) (x12a : Option (Nat × Nat)) (x12n : Nat) (x12c : Bool) (x18a : Option (Nat × Nat)) (x18n : Nat) (x18c : Bool) (x20a : Option (Nat × Nat)) (x20n : Nat) (x20c : Bool) (x22a : Option (Nat × Nat)) (x22n : Nat) (x22c : Bool) (x24 : Int) (h : AHeap) (nx : Nat) : Option (AV × AHeap × Nat) :=
  goK W J drawK (machOf Try.prog) call Y (keepT 8) lf c8 [1, 1, 1, 1, 1, 1, 1, 1, 1, 1, 1, 1, 0, 1, 0, 0, 1, 0, 0, 1] [n0] (retK (machOf Try.prog) ⟨c8, 200, r8, keepT 8⟩) ⟨200, mkL [(10, (.int .i64 x10)), (12, (.slice x12a x12n x12c)), (18, (.slice x18a x18n x18c)), (20, (.slice x20a x20n x20c)), (22, (.slice x22a x22n x22c)), (24, (.int .i64 x24))]⟩ h nx

noncomputable def F8_J5 (call : YldF → CallF) (Y : YldF) (lf : Nat) (n0 : Nat) (x10 : Int) (x12a : Option (Nat × Nat)) (x12n : Nat) (x12c : Bool) (x18a : Option (Nat × Nat)) (x18n : Nat) (x18c : Bool) (x20a : Option (Nat × Nat)) (x20n : Nat) (x20c : Bool) (x22a : Option (Nat × Nat)) (x22n : Nat) (x22c : Bool) (x24 : Int) (h : AHeap) (nx : Nat) : Option (AV × AHeap × Nat) := F8_J5' go1 go1 call Y lf n0 x10 x12a x12n x12c x18a x18n x18c x20a x20n x20c x22a x22n x22c x24 h nx

noncomputable def F8_L6' (W J : StepF (AV × AHeap × Nat) → StepF (AV × AHeap × Nat)) (call : YldF → CallF) (Y : YldF) (lf : Nat) (n0 : Nat) (n1 : Nat) (x10 : Int) (x12a : Option (Nat × Nat)) (x12n : Nat) (x12c : Bool) (x18a : Option (Nat × Nat)) (x18n : Nat) (x18c : Bool) (x20a : Option (Nat × Nat)) (x20n : Nat) (x20c : Bool) (x22a : Option (Nat × Nat)) (x22n : Nat) (x22c : Bool) (x24 : Int) (x25 : Int) (h : AHeap) (nx : Nat) : Option (AV × AHeap × Nat) :=
  goK W J drawK (machOf Try.prog) call Y (keepT 8) lf c8 [1, 1, 1, 1, 1, 1, 1, 1, 1, 1, 1, 1, 0, 1, 0, 0, 1, 0, 0, 1, 1, 0, 9] [n0, n1] (retK (machOf Try.prog) ⟨c8, 200, r8, keepT 8⟩) ⟨200, mkL [(10, (.int .i64 x10)), (12, (.slice x12a x12n x12c)), (18, (.slice x18a x18n x18c)), (20, (.slice x20a x20n x20c)), (22, (.slice x22a x22n x22c)), (24, (.int .i64 x24)), (25, (.int .i64 x25))]⟩ h nx

noncomputable def F8_L6 (call : YldF → CallF) (Y : YldF) (lf : Nat) (n0 : Nat) (n1 : Nat) (x10 : Int) (x12a : Option (Nat × Nat)) (x12n : Nat) (x12c : Bool) (x18a : Option (Nat × Nat)) (x18n : Nat) (x18c : Bool) (x20a : Option (Nat × Nat)) (x20n : Nat) (x20c : Bool) (x22a : Option (Nat × Nat)) (x22n : Nat) (x22c : Bool) (x24 : Int) (x25 : Int) (h : AHeap) (nx : Nat) : Option (AV × AHeap × Nat) := F8_L6' go1 go1 call Y lf n0 n1 x10 x12a x12n x12c x18a x18n x18c x20a x20n x20c x22a x22n x22c x24 x25 h nx

theorem F8_L1_eq' (J : StepF (AV × AHeap × Nat) → StepF (AV × AHeap × Nat)) (call : YldF → CallF) (Y : YldF) (lf : Nat) (n0 : Nat) (x9 : Int) (x10 : Int) (x12a : Option (Nat × Nat)) (x12n : Nat) (x12c : Bool) (x13a : Option (Nat × Nat)) (x13n : Nat) (x13c : Bool) (x14a : Option (Nat × Nat)) (x14n : Nat) (x14c : Bool) (x15 : Int) (h : AHeap) (nx : Nat) : F8_L1' go1 J call Y lf (n0 + 1) x9 x10 x12a x12n x12c x13a x13n x13c x14a x14n x14c x15 h nx =
    if (decide ((x15 : Int) < x9)) = true then
    (F8_L2' J J call Y lf n0 lf x9 x10 x12a x12n x12c x13a x13n x13c x14a x14n x14c x15 none 0 false 0 h (nx + 5))
    else
    ((call Y 30 [(.slice x12a x12n x12c), (.int .i64 x10)] h (nx + 11)).bind fun r1 =>
    (asTup 2 r1.1).bind fun d2 =>
    (asSl (d2.getD 0 .bad)).bind fun s3 =>
    (asI .i64 (d2.getD 1 .bad)).bind fun n4 =>
    (call Y 30 [(.slice x13a x13n x13c), (.int .i64 x10)] r1.2.1 (r1.2.2 + 8)).bind fun r5 =>
    (asTup 2 r5.1).bind fun d6 =>
    (asSl (d6.getD 0 .bad)).bind fun s7 =>
    (asI .i64 (d6.getD 1 .bad)).bind fun n8 =>
    (call Y 30 [(.slice x14a x14n x14c), (.int .i64 x10)] r5.2.1 (r5.2.2 + 8)).bind fun r9 =>
    (asTup 2 r9.1).bind fun d10 =>
    (asSl (d10.getD 0 .bad)).bind fun s11 =>
    (asI .i64 (d10.getD 1 .bad)).bind fun n12 =>
    if ((n4 : Int) != 0) = true then
    (some ((.bool false), r9.2.1, (r9.2.2 + 29)))
    else
    (if ((n8 : Int) != 0) = true then
    (some ((.bool false), r9.2.1, (r9.2.2 + 29)))
    else
    (if ((n12 : Int) != 0) = true then
    (some ((.bool false), r9.2.1, (r9.2.2 + 29)))
    else
    (if ((((s3.2.1 : Nat) : Int) : Int) != x10) = true then
    (some ((.bool false), r9.2.1, (r9.2.2 + 29)))
    else
    (if ((((s7.2.1 : Nat) : Int) : Int) != x10) = true then
    (some ((.bool false), r9.2.1, (r9.2.2 + 29)))
    else
    (if ((((s11.2.1 : Nat) : Int) : Int) != x10) = true then
    (some ((.bool false), r9.2.1, (r9.2.2 + 29)))
    else
    (F8_J3' J J call Y lf x10 x12a x12n x12c s3.1 s3.2.1 s3.2.2 s7.1 s7.2.1 s7.2.2 s11.1 s11.2.1 s11.2.2 r9.2.1 (r9.2.2 + 28)))))))) := by kernel_rfl

theorem F8_L1_eq (call : YldF → CallF) (Y : YldF) (lf : Nat) (n0 : Nat) (x9 : Int) (x10 : Int) (x12a : Option (Nat × Nat)) (x12n : Nat) (x12c : Bool) (x13a : Option (Nat × Nat)) (x13n : Nat) (x13c : Bool) (x14a : Option (Nat × Nat)) (x14n : Nat) (x14c : Bool) (x15 : Int) (h : AHeap) (nx : Nat) : F8_L1 call Y lf (n0 + 1) x9 x10 x12a x12n x12c x13a x13n x13c x14a x14n x14c x15 h nx =
    if (decide ((x15 : Int) < x9)) = true then
    (F8_L2 call Y lf n0 lf x9 x10 x12a x12n x12c x13a x13n x13c x14a x14n x14c x15 none 0 false 0 h (nx + 5))
    else
    ((call Y 30 [(.slice x12a x12n x12c), (.int .i64 x10)] h (nx + 11)).bind fun r1 =>
    (asTup 2 r1.1).bind fun d2 =>
    (asSl (d2.getD 0 .bad)).bind fun s3 =>
    (asI .i64 (d2.getD 1 .bad)).bind fun n4 =>
    (call Y 30 [(.slice x13a x13n x13c), (.int .i64 x10)] r1.2.1 (r1.2.2 + 8)).bind fun r5 =>
    (asTup 2 r5.1).bind fun d6 =>
    (asSl (d6.getD 0 .bad)).bind fun s7 =>
    (asI .i64 (d6.getD 1 .bad)).bind fun n8 =>
    (call Y 30 [(.slice x14a x14n x14c), (.int .i64 x10)] r5.2.1 (r5.2.2 + 8)).bind fun r9 =>
    (asTup 2 r9.1).bind fun d10 =>
    (asSl (d10.getD 0 .bad)).bind fun s11 =>
    (asI .i64 (d10.getD 1 .bad)).bind fun n12 =>
    if ((n4 : Int) != 0) = true then
    (some ((.bool false), r9.2.1, (r9.2.2 + 29)))
    else
    (if ((n8 : Int) != 0) = true then
    (some ((.bool false), r9.2.1, (r9.2.2 + 29)))
    else
    (if ((n12 : Int) != 0) = true then
    (some ((.bool false), r9.2.1, (r9.2.2 + 29)))
    else
    (if ((((s3.2.1 : Nat) : Int) : Int) != x10) = true then
    (some ((.bool false), r9.2.1, (r9.2.2 + 29)))
    else
    (if ((((s7.2.1 : Nat) : Int) : Int) != x10) = true then
    (some ((.bool false), r9.2.1, (r9.2.2 + 29)))
    else
    (if ((((s11.2.1 : Nat) : Int) : Int) != x10) = true then
    (some ((.bool false), r9.2.1, (r9.2.2 + 29)))
    else
    (F8_J3 call Y lf x10 x12a x12n x12c s3.1 s3.2.1 s3.2.2 s7.1 s7.2.1 s7.2.2 s11.1 s11.2.1 s11.2.2 r9.2.1 (r9.2.2 + 28)))))))) := F8_L1_eq' go1 call Y lf n0 x9 x10 x12a x12n x12c x13a x13n x13c x14a x14n x14c x15 h nx

theorem F8_L1_zero (call : YldF → CallF) (Y : YldF) (lf : Nat) (x9 : Int) (x10 : Int) (x12a : Option (Nat × Nat)) (x12n : Nat) (x12c : Bool) (x13a : Option (Nat × Nat)) (x13n : Nat) (x13c : Bool) (x14a : Option (Nat × Nat)) (x14n : Nat) (x14c : Bool) (x15 : Int) (h : AHeap) (nx : Nat) : F8_L1 call Y lf 0 x9 x10 x12a x12n x12c x13a x13n x13c x14a x14n x14c x15 h nx = none := by kernel_rfl

theorem F8_L2_eq' (J : StepF (AV × AHeap × Nat) → StepF (AV × AHeap × Nat)) (call : YldF → CallF) (Y : YldF) (lf : Nat) (n0 : Nat) (n1 : Nat) (x9 : Int) (x10 : Int) (x12a : Option (Nat × Nat)) (x12n : Nat) (x12c : Bool) (x13a : Option (Nat × Nat)) (x13n : Nat) (x13c : Bool) (x14a : Option (Nat × Nat)) (x14n : Nat) (x14c : Bool) (x15 : Int) (x16a : Option (Nat × Nat)) (x16n : Nat) (x16c : Bool) (x17 : Int) (h : AHeap) (nx : Nat) : F8_L2' go1 J call Y lf n0 (n1 + 1) x9 x10 x12a x12n x12c x13a x13n x13c x14a x14n x14c x15 x16a x16n x16c x17 h nx =
    (x12a).bind fun p1 =>
    if 0 ≤ (x15 : Int) ∧ x15 < ((x12n : Nat) : Int) then
    ((ldA h p1.1 (p1.2 + Int.toNat x15 * 1)).bind fun v2 =>
    (asSl v2).bind fun s3 =>
    if (decide ((x17 : Int) < ((s3.2.1 : Nat) : Int))) = true then
    ((x12a).bind fun p4 =>
    if 0 ≤ (x15 : Int) ∧ x15 < ((x12n : Nat) : Int) then
    ((ldA h p4.1 (p4.2 + Int.toNat x15 * 1)).bind fun v5 =>
    (asSl v5).bind fun s6 =>
    (s6.1).bind fun p7 =>
    if 0 ≤ (x17 : Int) ∧ x17 < ((s6.2.1 : Nat) : Int) then
    ((ldA h p7.1 (p7.2 + Int.toNat x17 * 1)).bind fun v8 =>
    (asI .u8 v8).bind fun n9 =>
    (x13a).bind fun p10 =>
    if 0 ≤ (x15 : Int) ∧ x15 < ((x13n : Nat) : Int) then
    ((ldA h p10.1 (p10.2 + Int.toNat x15 * 1)).bind fun v11 =>
    (asSl v11).bind fun s12 =>
    (s12.1).bind fun p13 =>
    if 0 ≤ (x17 : Int) ∧ x17 < ((s12.2.1 : Nat) : Int) then
    ((ldA h p13.1 (p13.2 + Int.toNat x17 * 1)).bind fun v14 =>
    (asI .u8 v14).bind fun n15 =>
    let h16 := AHeap.put h (nx + 23) (some ⟨[(.int .u8 (bits .xor .u8 n9 n15))], 1, true⟩)
    (srcS h16 (some ((nx + 23), 0)) 1 1).bind fun q17 =>
    (appD h16 x16a x16n x16c 1 1 (nx + 24) q17).bind fun e18 =>
    let h19 := AHeap.puts h16 e18.sets
    F8_L2' J J call Y lf n0 n1 x9 x10 x12a x12n x12c x13a x13n x13c x14a x14n x14c x15 e18.a e18.n e18.c (wrapA .i64 (x17 + 1)) h19 (nx + 29))
    else none)
    else none)
    else none)
    else none)
    else
    (let h20 := AHeap.put h (nx + 9) (some ⟨[(.slice x16a x16n x16c)], 1, true⟩)
    (srcS h20 (some ((nx + 9), 0)) 1 1).bind fun q21 =>
    (appD h20 x14a x14n x14c 1 24 (nx + 10) q21).bind fun e22 =>
    let h23 := AHeap.puts h20 e22.sets
    F8_L1' J J call Y lf n0 x9 x10 x12a x12n x12c x13a x13n x13c e22.a e22.n e22.c (wrapA .i64 (x15 + 1)) h23 (nx + 15)))
    else none := by kernel_rfl

theorem F8_L2_eq (call : YldF → CallF) (Y : YldF) (lf : Nat) (n0 : Nat) (n1 : Nat) (x9 : Int) (x10 : Int) (x12a : Option (Nat × Nat)) (x12n : Nat) (x12c : Bool) (x13a : Option (Nat × Nat)) (x13n : Nat) (x13c : Bool) (x14a : Option (Nat × Nat)) (x14n : Nat) (x14c : Bool) (x15 : Int) (x16a : Option (Nat × Nat)) (x16n : Nat) (x16c : Bool) (x17 : Int) (h : AHeap) (nx : Nat) : F8_L2 call Y lf n0 (n1 + 1) x9 x10 x12a x12n x12c x13a x13n x13c x14a x14n x14c x15 x16a x16n x16c x17 h nx =
    (x12a).bind fun p1 =>
    if 0 ≤ (x15 : Int) ∧ x15 < ((x12n : Nat) : Int) then
    ((ldA h p1.1 (p1.2 + Int.toNat x15 * 1)).bind fun v2 =>
    (asSl v2).bind fun s3 =>
    if (decide ((x17 : Int) < ((s3.2.1 : Nat) : Int))) = true then
    ((x12a).bind fun p4 =>
    if 0 ≤ (x15 : Int) ∧ x15 < ((x12n : Nat) : Int) then
    ((ldA h p4.1 (p4.2 + Int.toNat x15 * 1)).bind fun v5 =>
    (asSl v5).bind fun s6 =>
    (s6.1).bind fun p7 =>
    if 0 ≤ (x17 : Int) ∧ x17 < ((s6.2.1 : Nat) : Int) then
    ((ldA h p7.1 (p7.2 + Int.toNat x17 * 1)).bind fun v8 =>
    (asI .u8 v8).bind fun n9 =>
    (x13a).bind fun p10 =>
    if 0 ≤ (x15 : Int) ∧ x15 < ((x13n : Nat) : Int) then
    ((ldA h p10.1 (p10.2 + Int.toNat x15 * 1)).bind fun v11 =>
    (asSl v11).bind fun s12 =>
    (s12.1).bind fun p13 =>
    if 0 ≤ (x17 : Int) ∧ x17 < ((s12.2.1 : Nat) : Int) then
    ((ldA h p13.1 (p13.2 + Int.toNat x17 * 1)).bind fun v14 =>
    (asI .u8 v14).bind fun n15 =>
    let h16 := AHeap.put h (nx + 23) (some ⟨[(.int .u8 (bits .xor .u8 n9 n15))], 1, true⟩)
    (srcS h16 (some ((nx + 23), 0)) 1 1).bind fun q17 =>
    (appD h16 x16a x16n x16c 1 1 (nx + 24) q17).bind fun e18 =>
    let h19 := AHeap.puts h16 e18.sets
    F8_L2 call Y lf n0 n1 x9 x10 x12a x12n x12c x13a x13n x13c x14a x14n x14c x15 e18.a e18.n e18.c (wrapA .i64 (x17 + 1)) h19 (nx + 29))
    else none)
    else none)
    else none)
    else none)
    else
    (let h20 := AHeap.put h (nx + 9) (some ⟨[(.slice x16a x16n x16c)], 1, true⟩)
    (srcS h20 (some ((nx + 9), 0)) 1 1).bind fun q21 =>
    (appD h20 x14a x14n x14c 1 24 (nx + 10) q21).bind fun e22 =>
    let h23 := AHeap.puts h20 e22.sets
    F8_L1 call Y lf n0 x9 x10 x12a x12n x12c x13a x13n x13c e22.a e22.n e22.c (wrapA .i64 (x15 + 1)) h23 (nx + 15)))
    else none := F8_L2_eq' go1 call Y lf n0 n1 x9 x10 x12a x12n x12c x13a x13n x13c x14a x14n x14c x15 x16a x16n x16c x17 h nx

theorem F8_L2_zero (call : YldF → CallF) (Y : YldF) (lf : Nat) (n0 : Nat) (x9 : Int) (x10 : Int) (x12a : Option (Nat × Nat)) (x12n : Nat) (x12c : Bool) (x13a : Option (Nat × Nat)) (x13n : Nat) (x13c : Bool) (x14a : Option (Nat × Nat)) (x14n : Nat) (x14c : Bool) (x15 : Int) (x16a : Option (Nat × Nat)) (x16n : Nat) (x16c : Bool) (x17 : Int) (h : AHeap) (nx : Nat) : F8_L2 call Y lf n0 0 x9 x10 x12a x12n x12c x13a x13n x13c x14a x14n x14c x15 x16a x16n x16c x17 h nx = none := by kernel_rfl

theorem F8_J3_eq' (J : StepF (AV × AHeap × Nat) → StepF (AV × AHeap × Nat)) (call : YldF → CallF) (Y : YldF) (lf : Nat) (x10 : Int) (x12a : Option (Nat × Nat)) (x12n : Nat) (x12c : Bool) (x18a : Option (Nat × Nat)) (x18n : Nat) (x18c : Bool) (x20a : Option (Nat × Nat)) (x20n : Nat) (x20c : Bool) (x22a : Option (Nat × Nat)) (x22n : Nat) (x22c : Bool) (h : AHeap) (nx : Nat) : F8_J3' go1 J call Y lf x10 x12a x12n x12c x18a x18n x18c x20a x20n x20c x22a x22n x22c h nx =
    F8_L4' J J call Y lf lf x10 x12a x12n x12c x18a x18n x18c x20a x20n x20c x22a x22n x22c 0 h (nx + 1) := by kernel_rfl

theorem F8_J3_eq (call : YldF → CallF) (Y : YldF) (lf : Nat) (x10 : Int) (x12a : Option (Nat × Nat)) (x12n : Nat) (x12c : Bool) (x18a : Option (Nat × Nat)) (x18n : Nat) (x18c : Bool) (x20a : Option (Nat × Nat)) (x20n : Nat) (x20c : Bool) (x22a : Option (Nat × Nat)) (x22n : Nat) (x22c : Bool) (h : AHeap) (nx : Nat) : F8_J3 call Y lf x10 x12a x12n x12c x18a x18n x18c x20a x20n x20c x22a x22n x22c h nx =
    F8_L4 call Y lf lf x10 x12a x12n x12c x18a x18n x18c x20a x20n x20c x22a x22n x22c 0 h (nx + 1) := F8_J3_eq' go1 call Y lf x10 x12a x12n x12c x18a x18n x18c x20a x20n x20c x22a x22n x22c h nx

theorem F8_L4_eq' (J : StepF (AV × AHeap × Nat) → StepF (AV × AHeap × Nat)) (call : YldF → CallF) (Y : YldF) (lf : Nat) (n0 : Nat) (x10 : Int) (x12a : Option (Nat × Nat)) (x12n : Nat) (x12c : Bool) (x18a : Option (Nat × Nat)) (x18n : Nat) (x18c : Bool) (x20a : Option (Nat × Nat)) (x20n : Nat) (x20c : Bool) (x22a : Option (Nat × Nat)) (x22n : Nat) (x22c : Bool) (x24 : Int) (h : AHeap) (nx : Nat) : F8_L4' go1 J call Y lf (n0 + 1) x10 x12a x12n x12c x18a x18n x18c x20a x20n x20c x22a x22n x22c x24 h nx =
    if (decide ((x24 : Int) < x10)) = true then
    ((x18a).bind fun p1 =>
    if 0 ≤ (x24 : Int) ∧ x24 < ((x18n : Nat) : Int) then
    ((ldA h p1.1 (p1.2 + Int.toNat x24 * 1)).bind fun v2 =>
    (asSl v2).bind fun s3 =>
    (x12a).bind fun p4 =>
    if 0 ≤ (0 : Int) ∧ 0 < ((x12n : Nat) : Int) then
    ((ldA h p4.1 (p4.2 + Int.toNat 0 * 1)).bind fun v5 =>
    (asSl v5).bind fun s6 =>
    if ((((s3.2.1 : Nat) : Int) : Int) != ((s6.2.1 : Nat) : Int)) = true then
    (some ((.bool false), h, (nx + 38)))
    else
    ((x20a).bind fun p7 =>
    if 0 ≤ (x24 : Int) ∧ x24 < ((x20n : Nat) : Int) then
    ((ldA h p7.1 (p7.2 + Int.toNat x24 * 1)).bind fun v8 =>
    (asSl v8).bind fun s9 =>
    (x12a).bind fun p10 =>
    if 0 ≤ (0 : Int) ∧ 0 < ((x12n : Nat) : Int) then
    ((ldA h p10.1 (p10.2 + Int.toNat 0 * 1)).bind fun v11 =>
    (asSl v11).bind fun s12 =>
    if ((((s9.2.1 : Nat) : Int) : Int) != ((s12.2.1 : Nat) : Int)) = true then
    (some ((.bool false), h, (nx + 38)))
    else
    ((x22a).bind fun p13 =>
    if 0 ≤ (x24 : Int) ∧ x24 < ((x22n : Nat) : Int) then
    ((ldA h p13.1 (p13.2 + Int.toNat x24 * 1)).bind fun v14 =>
    (asSl v14).bind fun s15 =>
    (x12a).bind fun p16 =>
    if 0 ≤ (0 : Int) ∧ 0 < ((x12n : Nat) : Int) then
    ((ldA h p16.1 (p16.2 + Int.toNat 0 * 1)).bind fun v17 =>
    (asSl v17).bind fun s18 =>
    if ((((s15.2.1 : Nat) : Int) : Int) != ((s18.2.1 : Nat) : Int)) = true then
    (some ((.bool false), h, (nx + 38)))
    else
    (F8_J5' J J call Y lf n0 x10 x12a x12n x12c x18a x18n x18c x20a x20n x20c x22a x22n x22c x24 h (nx + 37)))
    else none)
    else none))
    else none)
    else none))
    else none)
    else none)
    else
    (some ((.bool true), h, (nx + 4))) := by kernel_rfl

theorem F8_L4_eq (call : YldF → CallF) (Y : YldF) (lf : Nat) (n0 : Nat) (x10 : Int) (x12a : Option (Nat × Nat)) (x12n : Nat) (x12c : Bool) (x18a : Option (Nat × Nat)) (x18n : Nat) (x18c : Bool) (x20a : Option (Nat × Nat)) (x20n : Nat) (x20c : Bool) (x22a : Option (Nat × Nat)) (x22n : Nat) (x22c : Bool) (x24 : Int) (h : AHeap) (nx : Nat) : F8_L4 call Y lf (n0 + 1) x10 x12a x12n x12c x18a x18n x18c x20a x20n x20c x22a x22n x22c x24 h nx =
    if (decide ((x24 : Int) < x10)) = true then
    ((x18a).bind fun p1 =>
    if 0 ≤ (x24 : Int) ∧ x24 < ((x18n : Nat) : Int) then
    ((ldA h p1.1 (p1.2 + Int.toNat x24 * 1)).bind fun v2 =>
    (asSl v2).bind fun s3 =>
    (x12a).bind fun p4 =>
    if 0 ≤ (0 : Int) ∧ 0 < ((x12n : Nat) : Int) then
    ((ldA h p4.1 (p4.2 + Int.toNat 0 * 1)).bind fun v5 =>
    (asSl v5).bind fun s6 =>
    if ((((s3.2.1 : Nat) : Int) : Int) != ((s6.2.1 : Nat) : Int)) = true then
    (some ((.bool false), h, (nx + 38)))
    else
    ((x20a).bind fun p7 =>
    if 0 ≤ (x24 : Int) ∧ x24 < ((x20n : Nat) : Int) then
    ((ldA h p7.1 (p7.2 + Int.toNat x24 * 1)).bind fun v8 =>
    (asSl v8).bind fun s9 =>
    (x12a).bind fun p10 =>
    if 0 ≤ (0 : Int) ∧ 0 < ((x12n : Nat) : Int) then
    ((ldA h p10.1 (p10.2 + Int.toNat 0 * 1)).bind fun v11 =>
    (asSl v11).bind fun s12 =>
    if ((((s9.2.1 : Nat) : Int) : Int) != ((s12.2.1 : Nat) : Int)) = true then
    (some ((.bool false), h, (nx + 38)))
    else
    ((x22a).bind fun p13 =>
    if 0 ≤ (x24 : Int) ∧ x24 < ((x22n : Nat) : Int) then
    ((ldA h p13.1 (p13.2 + Int.toNat x24 * 1)).bind fun v14 =>
    (asSl v14).bind fun s15 =>
    (x12a).bind fun p16 =>
    if 0 ≤ (0 : Int) ∧ 0 < ((x12n : Nat) : Int) then
    ((ldA h p16.1 (p16.2 + Int.toNat 0 * 1)).bind fun v17 =>
    (asSl v17).bind fun s18 =>
    if ((((s15.2.1 : Nat) : Int) : Int) != ((s18.2.1 : Nat) : Int)) = true then
    (some ((.bool false), h, (nx + 38)))
    else
    (F8_J5 call Y lf n0 x10 x12a x12n x12c x18a x18n x18c x20a x20n x20c x22a x22n x22c x24 h (nx + 37)))
    else none)
    else none))
    else none)
    else none))
    else none)
    else none)
    else
    (some ((.bool true), h, (nx + 4))) := F8_L4_eq' go1 call Y lf n0 x10 x12a x12n x12c x18a x18n x18c x20a x20n x20c x22a x22n x22c x24 h nx

theorem F8_L4_zero (call : YldF → CallF) (Y : YldF) (lf : Nat) (x10 : Int) (x12a : Option (Nat × Nat)) (x12n : Nat) (x12c : Bool) (x18a : Option (Nat × Nat)) (x18n : Nat) (x18c : Bool) (x20a : Option (Nat × Nat)) (x20n : Nat) (x20c : Bool) (x22a : Option (Nat × Nat)) (x22n : Nat) (x22c : Bool) (x24 : Int) (h : AHeap) (nx : Nat) : F8_L4 call Y lf 0 x10 x12a x12n x12c x18a x18n x18c x20a x20n x20c x22a x22n x22c x24 h nx = none := by kernel_rfl

theorem F8_J5_eq' (J : StepF (AV × AHeap × Nat) → StepF (AV × AHeap × Nat)) (call : YldF → CallF) (Y : YldF) (lf : Nat) (n0 : Nat) (x10 : Int) (x12a : Option (Nat × Nat)) (x12n : Nat) (x12c : Bool) (x18a : Option (Nat × Nat)) (x18n : Nat) (x18c : Bool) (x20a : Option (Nat × Nat)) (x20n : Nat) (x20c : Bool) (x22a : Option (Nat × Nat)) (x22n : Nat) (x22c : Bool) (x24 : Int) (h : AHeap) (nx : Nat) : F8_J5' go1 J call Y lf n0 x10 x12a x12n x12c x18a x18n x18c x20a x20n x20c x22a x22n x22c x24 h nx =
    F8_L6' J J call Y lf n0 lf x10 x12a x12n x12c x18a x18n x18c x20a x20n x20c x22a x22n x22c x24 0 h (nx + 1) := by kernel_rfl

theorem F8_J5_eq (call : YldF → CallF) (Y : YldF) (lf : Nat) (n0 : Nat) (x10 : Int) (x12a : Option (Nat × Nat)) (x12n : Nat) (x12c : Bool) (x18a : Option (Nat × Nat)) (x18n : Nat) (x18c : Bool) (x20a : Option (Nat × Nat)) (x20n : Nat) (x20c : Bool) (x22a : Option (Nat × Nat)) (x22n : Nat) (x22c : Bool) (x24 : Int) (h : AHeap) (nx : Nat) : F8_J5 call Y lf n0 x10 x12a x12n x12c x18a x18n x18c x20a x20n x20c x22a x22n x22c x24 h nx =
    F8_L6 call Y lf n0 lf x10 x12a x12n x12c x18a x18n x18c x20a x20n x20c x22a x22n x22c x24 0 h (nx + 1) := F8_J5_eq' go1 call Y lf n0 x10 x12a x12n x12c x18a x18n x18c x20a x20n x20c x22a x22n x22c x24 h nx

theorem F8_L6_eq' (J : StepF (AV × AHeap × Nat) → StepF (AV × AHeap × Nat)) (call : YldF → CallF) (Y : YldF) (lf : Nat) (n0 : Nat) (n1 : Nat) (x10 : Int) (x12a : Option (Nat × Nat)) (x12n : Nat) (x12c : Bool) (x18a : Option (Nat × Nat)) (x18n : Nat) (x18c : Bool) (x20a : Option (Nat × Nat)) (x20n : Nat) (x20c : Bool) (x22a : Option (Nat × Nat)) (x22n : Nat) (x22c : Bool) (x24 : Int) (x25 : Int) (h : AHeap) (nx : Nat) : F8_L6' go1 J call Y lf n0 (n1 + 1) x10 x12a x12n x12c x18a x18n x18c x20a x20n x20c x22a x22n x22c x24 x25 h nx =
    (x18a).bind fun p1 =>
    if 0 ≤ (x24 : Int) ∧ x24 < ((x18n : Nat) : Int) then
    ((ldA h p1.1 (p1.2 + Int.toNat x24 * 1)).bind fun v2 =>
    (asSl v2).bind fun s3 =>
    if (decide ((x25 : Int) < ((s3.2.1 : Nat) : Int))) = true then
    ((x18a).bind fun p4 =>
    if 0 ≤ (x24 : Int) ∧ x24 < ((x18n : Nat) : Int) then
    ((ldA h p4.1 (p4.2 + Int.toNat x24 * 1)).bind fun v5 =>
    (asSl v5).bind fun s6 =>
    (s6.1).bind fun p7 =>
    if 0 ≤ (x25 : Int) ∧ x25 < ((s6.2.1 : Nat) : Int) then
    ((ldA h p7.1 (p7.2 + Int.toNat x25 * 1)).bind fun v8 =>
    (asI .u8 v8).bind fun n9 =>
    (x20a).bind fun p10 =>
    if 0 ≤ (x24 : Int) ∧ x24 < ((x20n : Nat) : Int) then
    ((ldA h p10.1 (p10.2 + Int.toNat x24 * 1)).bind fun v11 =>
    (asSl v11).bind fun s12 =>
    (s12.1).bind fun p13 =>
    if 0 ≤ (x25 : Int) ∧ x25 < ((s12.2.1 : Nat) : Int) then
    ((ldA h p13.1 (p13.2 + Int.toNat x25 * 1)).bind fun v14 =>
    (asI .u8 v14).bind fun n15 =>
    (x22a).bind fun p16 =>
    if 0 ≤ (x24 : Int) ∧ x24 < ((x22n : Nat) : Int) then
    ((ldA h p16.1 (p16.2 + Int.toNat x24 * 1)).bind fun v17 =>
    (asSl v17).bind fun s18 =>
    (s18.1).bind fun p19 =>
    if 0 ≤ (x25 : Int) ∧ x25 < ((s18.2.1 : Nat) : Int) then
    ((ldA h p19.1 (p19.2 + Int.toNat x25 * 1)).bind fun v20 =>
    (asI .u8 v20).bind fun n21 =>
    if (((bits .xor .u8 n9 n15) : Int) != n21) = true then
    (some ((.bool false), h, (nx + 31)))
    else
    (F8_L6' J J call Y lf n0 n1 x10 x12a x12n x12c x18a x18n x18c x20a x20n x20c x22a x22n x22c x24 (wrapA .i64 (x25 + 1)) h (nx + 33)))
    else none)
    else none)
    else none)
    else none)
    else none)
    else none)
    else
    (F8_L4' J J call Y lf n0 x10 x12a x12n x12c x18a x18n x18c x20a x20n x20c x22a x22n x22c (wrapA .i64 (x24 + 1)) h (nx + 10)))
    else none := by kernel_rfl

theorem F8_L6_eq (call : YldF → CallF) (Y : YldF) (lf : Nat) (n0 : Nat) (n1 : Nat) (x10 : Int) (x12a : Option (Nat × Nat)) (x12n : Nat) (x12c : Bool) (x18a : Option (Nat × Nat)) (x18n : Nat) (x18c : Bool) (x20a : Option (Nat × Nat)) (x20n : Nat) (x20c : Bool) (x22a : Option (Nat × Nat)) (x22n : Nat) (x22c : Bool) (x24 : Int) (x25 : Int) (h : AHeap) (nx : Nat) : F8_L6 call Y lf n0 (n1 + 1) x10 x12a x12n x12c x18a x18n x18c x20a x20n x20c x22a x22n x22c x24 x25 h nx =
    (x18a).bind fun p1 =>
    if 0 ≤ (x24 : Int) ∧ x24 < ((x18n : Nat) : Int) then
    ((ldA h p1.1 (p1.2 + Int.toNat x24 * 1)).bind fun v2 =>
    (asSl v2).bind fun s3 =>
    if (decide ((x25 : Int) < ((s3.2.1 : Nat) : Int))) = true then
    ((x18a).bind fun p4 =>
    if 0 ≤ (x24 : Int) ∧ x24 < ((x18n : Nat) : Int) then
    ((ldA h p4.1 (p4.2 + Int.toNat x24 * 1)).bind fun v5 =>
    (asSl v5).bind fun s6 =>
    (s6.1).bind fun p7 =>
    if 0 ≤ (x25 : Int) ∧ x25 < ((s6.2.1 : Nat) : Int) then
    ((ldA h p7.1 (p7.2 + Int.toNat x25 * 1)).bind fun v8 =>
    (asI .u8 v8).bind fun n9 =>
    (x20a).bind fun p10 =>
    if 0 ≤ (x24 : Int) ∧ x24 < ((x20n : Nat) : Int) then
    ((ldA h p10.1 (p10.2 + Int.toNat x24 * 1)).bind fun v11 =>
    (asSl v11).bind fun s12 =>
    (s12.1).bind fun p13 =>
    if 0 ≤ (x25 : Int) ∧ x25 < ((s12.2.1 : Nat) : Int) then
    ((ldA h p13.1 (p13.2 + Int.toNat x25 * 1)).bind fun v14 =>
    (asI .u8 v14).bind fun n15 =>
    (x22a).bind fun p16 =>
    if 0 ≤ (x24 : Int) ∧ x24 < ((x22n : Nat) : Int) then
    ((ldA h p16.1 (p16.2 + Int.toNat x24 * 1)).bind fun v17 =>
    (asSl v17).bind fun s18 =>
    (s18.1).bind fun p19 =>
    if 0 ≤ (x25 : Int) ∧ x25 < ((s18.2.1 : Nat) : Int) then
    ((ldA h p19.1 (p19.2 + Int.toNat x25 * 1)).bind fun v20 =>
    (asI .u8 v20).bind fun n21 =>
    if (((bits .xor .u8 n9 n15) : Int) != n21) = true then
    (some ((.bool false), h, (nx + 31)))
    else
    (F8_L6 call Y lf n0 n1 x10 x12a x12n x12c x18a x18n x18c x20a x20n x20c x22a x22n x22c x24 (wrapA .i64 (x25 + 1)) h (nx + 33)))
    else none)
    else none)
    else none)
    else none)
    else none)
    else none)
    else
    (F8_L4 call Y lf n0 x10 x12a x12n x12c x18a x18n x18c x20a x20n x20c x22a x22n x22c (wrapA .i64 (x24 + 1)) h (nx + 10)))
    else none := F8_L6_eq' go1 call Y lf n0 n1 x10 x12a x12n x12c x18a x18n x18c x20a x20n x20c x22a x22n x22c x24 x25 h nx

theorem F8_L6_zero (call : YldF → CallF) (Y : YldF) (lf : Nat) (n0 : Nat) (x10 : Int) (x12a : Option (Nat × Nat)) (x12n : Nat) (x12c : Bool) (x18a : Option (Nat × Nat)) (x18n : Nat) (x18c : Bool) (x20a : Option (Nat × Nat)) (x20n : Nat) (x20c : Bool) (x22a : Option (Nat × Nat)) (x22n : Nat) (x22c : Bool) (x24 : Int) (x25 : Int) (h : AHeap) (nx : Nat) : F8_L6 call Y lf n0 0 x10 x12a x12n x12c x18a x18n x18c x20a x20n x20c x22a x22n x22c x24 x25 h nx = none := by kernel_rfl

theorem F8_eq' (J : StepF (AV × AHeap × Nat) → StepF (AV × AHeap × Nat)) (n : Nat) (Y : YldF) (x0a : Option (Nat × Nat)) (x0n : Nat) (x0c : Bool) (x1a : Option (Nat × Nat)) (x1n : Nat) (x1c : Bool) (x2 : Int) (x3 : Int) (h : AHeap) (nx : Nat) : rootJ J Try.prog keepT (callP Try.prog keepT n) Y n 8 [(.slice x0a x0n x0c), (.slice x1a x1n x1c), (.int .i64 x2), (.int .i64 x3)] h nx =
    ((callP Try.prog keepT n) Y 15 [(.int .i64 x2), (.int .i64 12)] h (nx + 5)).bind fun r1 =>
    (asI .i64 r1.1).bind fun n2 =>
    ((callP Try.prog keepT n) Y 15 [(.int .i64 x3), (.int .i64 3)] r1.2.1 (r1.2.2 + 4)).bind fun r3 =>
    (asI .i64 r3.1).bind fun n4 =>
    (cutA r3.2.1 x0a x0n x0c 1 none (some (.int .i64 (if ((x1n : Nat) : Int) < ((x0n : Nat) : Int) then ((x1n : Nat) : Int) else ((x0n : Nat) : Int)))) none).bind fun s5 =>
    ((callP Try.prog keepT n) Y 29 [(.slice s5.1 s5.2.1 s5.2.2), (.int .i64 (wrapA .i64 (1 + n2)))] r3.2.1 (r3.2.2 + 12)).bind fun r6 =>
    (asSl r6.1).bind fun s7 =>
    (cutA r6.2.1 x1a x1n x1c 1 none (some (.int .i64 (if ((x1n : Nat) : Int) < ((x0n : Nat) : Int) then ((x1n : Nat) : Int) else ((x0n : Nat) : Int)))) none).bind fun s8 =>
    ((callP Try.prog keepT n) Y 29 [(.slice s8.1 s8.2.1 s8.2.2), (.int .i64 (wrapA .i64 (1 + n2)))] r6.2.1 (r6.2.2 + 6)).bind fun r9 =>
    (asSl r9.1).bind fun s10 =>
    F8_L1' J J (callP Try.prog keepT n) Y n n (wrapA .i64 (1 + n2)) (wrapA .i64 (1 + n4)) s7.1 s7.2.1 s7.2.2 s10.1 s10.2.1 s10.2.2 none 0 false 0 r9.2.1 (r9.2.2 + 2) := by kernel_rfl

/-- quickset/quicksetkeep.EncodeSums -/
theorem F8_eq (n : Nat) (Y : YldF) (x0a : Option (Nat × Nat)) (x0n : Nat) (x0c : Bool) (x1a : Option (Nat × Nat)) (x1n : Nat) (x1c : Bool) (x2 : Int) (x3 : Int) (h : AHeap) (nx : Nat) : callP Try.prog keepT (n + 1) Y 8 [(.slice x0a x0n x0c), (.slice x1a x1n x1c), (.int .i64 x2), (.int .i64 x3)] h nx =
    ((callP Try.prog keepT n) Y 15 [(.int .i64 x2), (.int .i64 12)] h (nx + 5)).bind fun r1 =>
    (asI .i64 r1.1).bind fun n2 =>
    ((callP Try.prog keepT n) Y 15 [(.int .i64 x3), (.int .i64 3)] r1.2.1 (r1.2.2 + 4)).bind fun r3 =>
    (asI .i64 r3.1).bind fun n4 =>
    (cutA r3.2.1 x0a x0n x0c 1 none (some (.int .i64 (if ((x1n : Nat) : Int) < ((x0n : Nat) : Int) then ((x1n : Nat) : Int) else ((x0n : Nat) : Int)))) none).bind fun s5 =>
    ((callP Try.prog keepT n) Y 29 [(.slice s5.1 s5.2.1 s5.2.2), (.int .i64 (wrapA .i64 (1 + n2)))] r3.2.1 (r3.2.2 + 12)).bind fun r6 =>
    (asSl r6.1).bind fun s7 =>
    (cutA r6.2.1 x1a x1n x1c 1 none (some (.int .i64 (if ((x1n : Nat) : Int) < ((x0n : Nat) : Int) then ((x1n : Nat) : Int) else ((x0n : Nat) : Int)))) none).bind fun s8 =>
    ((callP Try.prog keepT n) Y 29 [(.slice s8.1 s8.2.1 s8.2.2), (.int .i64 (wrapA .i64 (1 + n2)))] r6.2.1 (r6.2.2 + 6)).bind fun r9 =>
    (asSl r9.1).bind fun s10 =>
    F8_L1 (callP Try.prog keepT n) Y n n (wrapA .i64 (1 + n2)) (wrapA .i64 (1 + n4)) s7.1 s7.2.1 s7.2.2 s10.1 s10.2.1 s10.2.2 none 0 false 0 r9.2.1 (r9.2.2 + 2) := F8_eq' go1 n Y x0a x0n x0c x1a x1n x1c x2 x3 h nx

noncomputable def c9 : Code := (Try.f9.body).getD .skip

noncomputable def r9 : List ResultVar := Try.f9.results.toList

noncomputable def F9_J1' (W J : StepF (AV × AHeap × Nat) → StepF (AV × AHeap × Nat)) (call : YldF → CallF) (Y : YldF) (lf : Nat) (x5 : Int) (x14 : Int) (x15a : Option (Nat × Nat)) (x15n : Nat) (x15c : Bool) (x18 : Int) (x19a : Option (Nat × Nat)) (x19n : Nat) (x19c : Bool) (x21a : Option (Nat × Nat)) (x21n : Nat) (x21c : Bool) (h : AHeap) (nx : Nat) : Option (AV × AHeap × Nat) :=
  goK W J drawK (machOf Try.prog) call Y (keepT 9) lf c9 [1, 1, 1, 1, 1, 1, 1, 1, 1, 1, 1, 1] [] (retK (machOf Try.prog) ⟨c9, 152, r9, keepT 9⟩) ⟨152, mkL [(5, (.int .u8 x5)), (14, (.int .i64 x14)), (15, (.slice x15a x15n x15c)), (18, (.int .i64 x18)), (19, (.slice x19a x19n x19c)), (21, (.slice x21a x21n x21c))]⟩ h nx

noncomputable def F9_J1 (call : YldF → CallF) (Y : YldF) (lf : Nat) (x5 : Int) (x14 : Int) (x15a : Option (Nat × Nat)) (x15n : Nat) (x15c : Bool) (x18 : Int) (x19a : Option (Nat × Nat)) (x19n : Nat) (x19c : Bool) (x21a : Option (Nat × Nat)) (x21n : Nat) (x21c : Bool) (h : AHeap) (nx : Nat) : Option (AV × AHeap × Nat) := F9_J1' go1 go1 call Y lf x5 x14 x15a x15n x15c x18 x19a x19n x19c x21a x21n x21c h nx

noncomputable def F9_L2' (W J : StepF (AV × AHeap × Nat) → StepF (AV × AHeap × Nat)) (call : YldF → CallF) (Y : YldF) (lf : Nat) (n0 : Nat) (x5 : Int) (x14 : Int) (x15a : Option (Nat × Nat)) (x15n : Nat) (x15c : Bool) (x18 : Int) (x19a : Option (Nat × Nat)) (x19n : Nat) (x19c : Bool) (x21a : Option (Nat × Nat)) (x21n : Nat) (x21c : Bool) (x23 : Int) (h : AHeap) (nx : Nat) : Option (AV × AHeap × Nat) :=
  goK W J drawK (machOf Try.prog) call Y (keepT 9) lf c9 [1, 1, 1, 1, 1, 1, 1, 1, 1, 1, 1, 1, 0, 1, 0, 9] [n0] (retK (machOf Try.prog) ⟨c9, 152, r9, keepT 9⟩) ⟨152, mkL [(5, (.int .u8 x5)), (14, (.int .i64 x14)), (15, (.slice x15a x15n x15c)), (18, (.int .i64 x18)), (19, (.slice x19a x19n x19c)), (21, (.slice x21a x21n x21c)), (23, (.int .i64 x23))]⟩ h nx

noncomputable def F9_L2 (call : YldF → CallF) (Y : YldF) (lf : Nat) (n0 : Nat) (x5 : Int) (x14 : Int) (x15a : Option (Nat × Nat)) (x15n : Nat) (x15c : Bool) (x18 : Int) (x19a : Option (Nat × Nat)) (x19n : Nat) (x19c : Bool) (x21a : Option (Nat × Nat)) (x21n : Nat) (x21c : Bool) (x23 : Int) (h : AHeap) (nx : Nat) : Option (AV × AHeap × Nat) := F9_L2' go1 go1 call Y lf n0 x5 x14 x15a x15n x15c x18 x19a x19n x19c x21a x21n x21c x23 h nx

noncomputable def F9_J3' (W J : StepF (AV × AHeap × Nat) → StepF (AV × AHeap × Nat)) (call : YldF → CallF) (Y : YldF) (lf : Nat) (n0 : Nat) (x5 : Int) (x14 : Int) (x15a : Option (Nat × Nat)) (x15n : Nat) (x15c : Bool) (x18 : Int) (x19a : Option (Nat × Nat)) (x19n : Nat) (x19c : Bool) (x21a : Option (Nat × Nat)) (x21n : Nat) (x21c : Bool) (x23 : Int) (h : AHeap) (nx : Nat) : Option (AV × AHeap × Nat) :=
  goK W J drawK (machOf Try.prog) call Y (keepT 9) lf c9 [1, 1, 1, 1, 1, 1, 1, 1, 1, 1, 1, 1, 0, 1, 0, 0, 1, 0, 0, 1] [n0] (retK (machOf Try.prog) ⟨c9, 152, r9, keepT 9⟩) ⟨152, mkL [(5, (.int .u8 x5)), (14, (.int .i64 x14)), (15, (.slice x15a x15n x15c)), (18, (.int .i64 x18)), (19, (.slice x19a x19n x19c)), (21, (.slice x21a x21n x21c)), (23, (.int .i64 x23))]⟩ h nx

noncomputable def F9_J3 (call : YldF → CallF) (Y : YldF) (lf : Nat) (n0 : Nat) (x5 : Int) (x14 : Int) (x15a : Option (Nat × Nat)) (x15n : Nat) (x15c : Bool) (x18 : Int) (x19a : Option (Nat × Nat)) (x19n : Nat) (x19c : Bool) (x21a : Option (Nat × Nat)) (x21n : Nat) (x21c : Bool) (x23 : Int) (h : AHeap) (nx : Nat) : Option (AV × AHeap × Nat) := F9_J3' go1 go1 call Y lf n0 x5 x14 x15a x15n x15c x18 x19a x19n x19c x21a x21n x21c x23 h nx

noncomputable def F9_L4' (W J : StepF (AV × AHeap × Nat) → StepF (AV × AHeap × Nat)) (call : YldF → CallF) (Y : YldF) (lf : Nat) (n0 : Nat) (n1 : Nat) (x5 : Int) (x14 : Int) (x15a : Option (Nat × Nat)) (x15n : Nat) (x15c : Bool) (x18 : Int) (x19a : Option (Nat × Nat)) (x19n : Nat) (x19c : Bool) (x21a : Option (Nat × Nat)) (x21n : Nat) (x21c : Bool) (x23 : Int) (x24 : Int) (h : AHeap) (nx : Nat) : Option (AV × AHeap × Nat) :=
  goK W J drawK (machOf Try.prog) call Y (keepT 9) lf c9 [1, 1, 1, 1, 1, 1, 1, 1, 1, 1, 1, 1, 0, 1, 0, 0, 1, 0, 0, 1, 1, 0, 9] [n0, n1] (retK (machOf Try.prog) ⟨c9, 152, r9, keepT 9⟩) ⟨152, mkL [(5, (.int .u8 x5)), (14, (.int .i64 x14)), (15, (.slice x15a x15n x15c)), (18, (.int .i64 x18)), (19, (.slice x19a x19n x19c)), (21, (.slice x21a x21n x21c)), (23, (.int .i64 x23)), (24, (.int .i64 x24))]⟩ h nx

noncomputable def F9_L4 (call : YldF → CallF) (Y : YldF) (lf : Nat) (n0 : Nat) (n1 : Nat) (x5 : Int) (x14 : Int) (x15a : Option (Nat × Nat)) (x15n : Nat) (x15c : Bool) (x18 : Int) (x19a : Option (Nat × Nat)) (x19n : Nat) (x19c : Bool) (x21a : Option (Nat × Nat)) (x21n : Nat) (x21c : Bool) (x23 : Int) (x24 : Int) (h : AHeap) (nx : Nat) : Option (AV × AHeap × Nat) := F9_L4' go1 go1 call Y lf n0 n1 x5 x14 x15a x15n x15c x18 x19a x19n x19c x21a x21n x21c x23 x24 h nx

theorem F9_J1_eq' (J : StepF (AV × AHeap × Nat) → StepF (AV × AHeap × Nat)) (call : YldF → CallF) (Y : YldF) (lf : Nat) (x5 : Int) (x14 : Int) (x15a : Option (Nat × Nat)) (x15n : Nat) (x15c : Bool) (x18 : Int) (x19a : Option (Nat × Nat)) (x19n : Nat) (x19c : Bool) (x21a : Option (Nat × Nat)) (x21n : Nat) (x21c : Bool) (h : AHeap) (nx : Nat) : F9_J1' go1 J call Y lf x5 x14 x15a x15n x15c x18 x19a x19n x19c x21a x21n x21c h nx =
    F9_L2' J J call Y lf lf x5 x14 x15a x15n x15c x18 x19a x19n x19c x21a x21n x21c 0 h (nx + 1) := by kernel_rfl

theorem F9_J1_eq (call : YldF → CallF) (Y : YldF) (lf : Nat) (x5 : Int) (x14 : Int) (x15a : Option (Nat × Nat)) (x15n : Nat) (x15c : Bool) (x18 : Int) (x19a : Option (Nat × Nat)) (x19n : Nat) (x19c : Bool) (x21a : Option (Nat × Nat)) (x21n : Nat) (x21c : Bool) (h : AHeap) (nx : Nat) : F9_J1 call Y lf x5 x14 x15a x15n x15c x18 x19a x19n x19c x21a x21n x21c h nx =
    F9_L2 call Y lf lf x5 x14 x15a x15n x15c x18 x19a x19n x19c x21a x21n x21c 0 h (nx + 1) := F9_J1_eq' go1 call Y lf x5 x14 x15a x15n x15c x18 x19a x19n x19c x21a x21n x21c h nx

theorem F9_L2_eq' (J : StepF (AV × AHeap × Nat) → StepF (AV × AHeap × Nat)) (call : YldF → CallF) (Y : YldF) (lf : Nat) (n0 : Nat) (x5 : Int) (x14 : Int) (x15a : Option (Nat × Nat)) (x15n : Nat) (x15c : Bool) (x18 : Int) (x19a : Option (Nat × Nat)) (x19n : Nat) (x19c : Bool) (x21a : Option (Nat × Nat)) (x21n : Nat) (x21c : Bool) (x23 : Int) (h : AHeap) (nx : Nat) : F9_L2' go1 J call Y lf (n0 + 1) x5 x14 x15a x15n x15c x18 x19a x19n x19c x21a x21n x21c x23 h nx =
    if (decide ((x23 : Int) < x14)) = true then
    ((x19a).bind fun p1 =>
    if 0 ≤ (x23 : Int) ∧ x23 < ((x19n : Nat) : Int) then
    ((ldA h p1.1 (p1.2 + Int.toNat x23 * 1)).bind fun v2 =>
    (asSl v2).bind fun s3 =>
    (x15a).bind fun p4 =>
    if 0 ≤ (0 : Int) ∧ 0 < ((x15n : Nat) : Int) then
    ((ldA h p4.1 (p4.2 + Int.toNat 0 * 1)).bind fun v5 =>
    (asSl v5).bind fun s6 =>
    if ((((s3.2.1 : Nat) : Int) : Int) != ((s6.2.1 : Nat) : Int)) = true then
    (some ((.bool false), h, (nx + 26)))
    else
    ((x21a).bind fun p7 =>
    if 0 ≤ (x23 : Int) ∧ x23 < ((x21n : Nat) : Int) then
    ((ldA h p7.1 (p7.2 + Int.toNat x23 * 1)).bind fun v8 =>
    (asSl v8).bind fun s9 =>
    (x15a).bind fun p10 =>
    if 0 ≤ (0 : Int) ∧ 0 < ((x15n : Nat) : Int) then
    ((ldA h p10.1 (p10.2 + Int.toNat 0 * 1)).bind fun v11 =>
    (asSl v11).bind fun s12 =>
    if ((((s9.2.1 : Nat) : Int) : Int) != ((s12.2.1 : Nat) : Int)) = true then
    (some ((.bool false), h, (nx + 26)))
    else
    (F9_J3' J J call Y lf n0 x5 x14 x15a x15n x15c x18 x19a x19n x19c x21a x21n x21c x23 h (nx + 25)))
    else none)
    else none))
    else none)
    else none)
    else
    (some ((.bool true), h, (nx + 4))) := by kernel_rfl

theorem F9_L2_eq (call : YldF → CallF) (Y : YldF) (lf : Nat) (n0 : Nat) (x5 : Int) (x14 : Int) (x15a : Option (Nat × Nat)) (x15n : Nat) (x15c : Bool) (x18 : Int) (x19a : Option (Nat × Nat)) (x19n : Nat) (x19c : Bool) (x21a : Option (Nat × Nat)) (x21n : Nat) (x21c : Bool) (x23 : Int) (h : AHeap) (nx : Nat) : F9_L2 call Y lf (n0 + 1) x5 x14 x15a x15n x15c x18 x19a x19n x19c x21a x21n x21c x23 h nx =
    if (decide ((x23 : Int) < x14)) = true then
    ((x19a).bind fun p1 =>
    if 0 ≤ (x23 : Int) ∧ x23 < ((x19n : Nat) : Int) then
    ((ldA h p1.1 (p1.2 + Int.toNat x23 * 1)).bind fun v2 =>
    (asSl v2).bind fun s3 =>
    (x15a).bind fun p4 =>
    if 0 ≤ (0 : Int) ∧ 0 < ((x15n : Nat) : Int) then
    ((ldA h p4.1 (p4.2 + Int.toNat 0 * 1)).bind fun v5 =>
    (asSl v5).bind fun s6 =>
    if ((((s3.2.1 : Nat) : Int) : Int) != ((s6.2.1 : Nat) : Int)) = true then
    (some ((.bool false), h, (nx + 26)))
    else
    ((x21a).bind fun p7 =>
    if 0 ≤ (x23 : Int) ∧ x23 < ((x21n : Nat) : Int) then
    ((ldA h p7.1 (p7.2 + Int.toNat x23 * 1)).bind fun v8 =>
    (asSl v8).bind fun s9 =>
    (x15a).bind fun p10 =>
    if 0 ≤ (0 : Int) ∧ 0 < ((x15n : Nat) : Int) then
    ((ldA h p10.1 (p10.2 + Int.toNat 0 * 1)).bind fun v11 =>
    (asSl v11).bind fun s12 =>
    if ((((s9.2.1 : Nat) : Int) : Int) != ((s12.2.1 : Nat) : Int)) = true then
    (some ((.bool false), h, (nx + 26)))
    else
    (F9_J3 call Y lf n0 x5 x14 x15a x15n x15c x18 x19a x19n x19c x21a x21n x21c x23 h (nx + 25)))
    else none)
    else none))
    else none)
    else none)
    else
    (some ((.bool true), h, (nx + 4))) := F9_L2_eq' go1 call Y lf n0 x5 x14 x15a x15n x15c x18 x19a x19n x19c x21a x21n x21c x23 h nx

theorem F9_L2_zero (call : YldF → CallF) (Y : YldF) (lf : Nat) (x5 : Int) (x14 : Int) (x15a : Option (Nat × Nat)) (x15n : Nat) (x15c : Bool) (x18 : Int) (x19a : Option (Nat × Nat)) (x19n : Nat) (x19c : Bool) (x21a : Option (Nat × Nat)) (x21n : Nat) (x21c : Bool) (x23 : Int) (h : AHeap) (nx : Nat) : F9_L2 call Y lf 0 x5 x14 x15a x15n x15c x18 x19a x19n x19c x21a x21n x21c x23 h nx = none := by kernel_rfl

theorem F9_J3_eq' (J : StepF (AV × AHeap × Nat) → StepF (AV × AHeap × Nat)) (call : YldF → CallF) (Y : YldF) (lf : Nat) (n0 : Nat) (x5 : Int) (x14 : Int) (x15a : Option (Nat × Nat)) (x15n : Nat) (x15c : Bool) (x18 : Int) (x19a : Option (Nat × Nat)) (x19n : Nat) (x19c : Bool) (x21a : Option (Nat × Nat)) (x21n : Nat) (x21c : Bool) (x23 : Int) (h : AHeap) (nx : Nat) : F9_J3' go1 J call Y lf n0 x5 x14 x15a x15n x15c x18 x19a x19n x19c x21a x21n x21c x23 h nx =
    F9_L4' J J call Y lf n0 lf x5 x14 x15a x15n x15c x18 x19a x19n x19c x21a x21n x21c x23 0 h (nx + 1) := by kernel_rfl

theorem F9_J3_eq (call : YldF → CallF) (Y : YldF) (lf : Nat) (n0 : Nat) (x5 : Int) (x14 : Int) (x15a : Option (Nat × Nat)) (x15n : Nat) (x15c : Bool) (x18 : Int) (x19a : Option (Nat × Nat)) (x19n : Nat) (x19c : Bool) (x21a : Option (Nat × Nat)) (x21n : Nat) (x21c : Bool) (x23 : Int) (h : AHeap) (nx : Nat) : F9_J3 call Y lf n0 x5 x14 x15a x15n x15c x18 x19a x19n x19c x21a x21n x21c x23 h nx =
    F9_L4 call Y lf n0 lf x5 x14 x15a x15n x15c x18 x19a x19n x19c x21a x21n x21c x23 0 h (nx + 1) := F9_J3_eq' go1 call Y lf n0 x5 x14 x15a x15n x15c x18 x19a x19n x19c x21a x21n x21c x23 h nx

theorem F9_L4_eq' (J : StepF (AV × AHeap × Nat) → StepF (AV × AHeap × Nat)) (call : YldF → CallF) (Y : YldF) (lf : Nat) (n0 : Nat) (n1 : Nat) (x5 : Int) (x14 : Int) (x15a : Option (Nat × Nat)) (x15n : Nat) (x15c : Bool) (x18 : Int) (x19a : Option (Nat × Nat)) (x19n : Nat) (x19c : Bool) (x21a : Option (Nat × Nat)) (x21n : Nat) (x21c : Bool) (x23 : Int) (x24 : Int) (h : AHeap) (nx : Nat) : F9_L4' go1 J call Y lf n0 (n1 + 1) x5 x14 x15a x15n x15c x18 x19a x19n x19c x21a x21n x21c x23 x24 h nx =
    (x19a).bind fun p1 =>
    if 0 ≤ (x23 : Int) ∧ x23 < ((x19n : Nat) : Int) then
    ((ldA h p1.1 (p1.2 + Int.toNat x23 * 1)).bind fun v2 =>
    (asSl v2).bind fun s3 =>
    if (decide ((x24 : Int) < ((s3.2.1 : Nat) : Int))) = true then
    ((x19a).bind fun p4 =>
    if 0 ≤ (x23 : Int) ∧ x23 < ((x19n : Nat) : Int) then
    ((ldA h p4.1 (p4.2 + Int.toNat x23 * 1)).bind fun v5 =>
    (asSl v5).bind fun s6 =>
    (s6.1).bind fun p7 =>
    if 0 ≤ (x24 : Int) ∧ x24 < ((s6.2.1 : Nat) : Int) then
    ((ldA h p7.1 (p7.2 + Int.toNat x24 * 1)).bind fun v8 =>
    (asI .u8 v8).bind fun n9 =>
    (x21a).bind fun p10 =>
    if 0 ≤ (x23 : Int) ∧ x23 < ((x21n : Nat) : Int) then
    ((ldA h p10.1 (p10.2 + Int.toNat x23 * 1)).bind fun v11 =>
    (asSl v11).bind fun s12 =>
    (s12.1).bind fun p13 =>
    if 0 ≤ (x24 : Int) ∧ x24 < ((s12.2.1 : Nat) : Int) then
    ((ldA h p13.1 (p13.2 + Int.toNat x24 * 1)).bind fun v14 =>
    (asI .u8 v14).bind fun n15 =>
    if ((x24 : Int) == x18) = true then
    (if (!(((n9 : Int) != n15) == ((x5 : Int) != 0))) = true then
    (some ((.bool false), h, (nx + 31)))
    else
    (F9_L4' J J call Y lf n0 n1 x5 x14 x15a x15n x15c x18 x19a x19n x19c x21a x21n x21c x23 (wrapA .i64 (x24 + 1)) h (nx + 33)))
    else
    (if (!(((n9 : Int) != n15) == false)) = true then
    (some ((.bool false), h, (nx + 31)))
    else
    (F9_L4' J J call Y lf n0 n1 x5 x14 x15a x15n x15c x18 x19a x19n x19c x21a x21n x21c x23 (wrapA .i64 (x24 + 1)) h (nx + 33))))
    else none)
    else none)
    else none)
    else none)
    else
    (F9_L2' J J call Y lf n0 x5 x14 x15a x15n x15c x18 x19a x19n x19c x21a x21n x21c (wrapA .i64 (x23 + 1)) h (nx + 10)))
    else none := by kernel_rfl

theorem F9_L4_eq (call : YldF → CallF) (Y : YldF) (lf : Nat) (n0 : Nat) (n1 : Nat) (x5 : Int) (x14 : Int) (x15a : Option (Nat × Nat)) (x15n : Nat) (x15c : Bool) (x18 : Int) (x19a : Option (Nat × Nat)) (x19n : Nat) (x19c : Bool) (x21a : Option (Nat × Nat)) (x21n : Nat) (x21c : Bool) (x23 : Int) (x24 : Int) (h : AHeap) (nx : Nat) : F9_L4 call Y lf n0 (n1 + 1) x5 x14 x15a x15n x15c x18 x19a x19n x19c x21a x21n x21c x23 x24 h nx =
    (x19a).bind fun p1 =>
    if 0 ≤ (x23 : Int) ∧ x23 < ((x19n : Nat) : Int) then
    ((ldA h p1.1 (p1.2 + Int.toNat x23 * 1)).bind fun v2 =>
    (asSl v2).bind fun s3 =>
    if (decide ((x24 : Int) < ((s3.2.1 : Nat) : Int))) = true then
    ((x19a).bind fun p4 =>
    if 0 ≤ (x23 : Int) ∧ x23 < ((x19n : Nat) : Int) then
    ((ldA h p4.1 (p4.2 + Int.toNat x23 * 1)).bind fun v5 =>
    (asSl v5).bind fun s6 =>
    (s6.1).bind fun p7 =>
    if 0 ≤ (x24 : Int) ∧ x24 < ((s6.2.1 : Nat) : Int) then
    ((ldA h p7.1 (p7.2 + Int.toNat x24 * 1)).bind fun v8 =>
    (asI .u8 v8).bind fun n9 =>
    (x21a).bind fun p10 =>
    if 0 ≤ (x23 : Int) ∧ x23 < ((x21n : Nat) : Int) then
    ((ldA h p10.1 (p10.2 + Int.toNat x23 * 1)).bind fun v11 =>
    (asSl v11).bind fun s12 =>
    (s12.1).bind fun p13 =>
    if 0 ≤ (x24 : Int) ∧ x24 < ((s12.2.1 : Nat) : Int) then
    ((ldA h p13.1 (p13.2 + Int.toNat x24 * 1)).bind fun v14 =>
    (asI .u8 v14).bind fun n15 =>
    if ((x24 : Int) == x18) = true then
    (if (!(((n9 : Int) != n15) == ((x5 : Int) != 0))) = true then
    (some ((.bool false), h, (nx + 31)))
    else
    (F9_L4 call Y lf n0 n1 x5 x14 x15a x15n x15c x18 x19a x19n x19c x21a x21n x21c x23 (wrapA .i64 (x24 + 1)) h (nx + 33)))
    else
    (if (!(((n9 : Int) != n15) == false)) = true then
    (some ((.bool false), h, (nx + 31)))
    else
    (F9_L4 call Y lf n0 n1 x5 x14 x15a x15n x15c x18 x19a x19n x19c x21a x21n x21c x23 (wrapA .i64 (x24 + 1)) h (nx + 33))))
    else none)
    else none)
    else none)
    else none)
    else
    (F9_L2 call Y lf n0 x5 x14 x15a x15n x15c x18 x19a x19n x19c x21a x21n x21c (wrapA .i64 (x23 + 1)) h (nx + 10)))
    else none := F9_L4_eq' go1 call Y lf n0 n1 x5 x14 x15a x15n x15c x18 x19a x19n x19c x21a x21n x21c x23 x24 h nx

theorem F9_L4_zero (call : YldF → CallF) (Y : YldF) (lf : Nat) (n0 : Nat) (x5 : Int) (x14 : Int) (x15a : Option (Nat × Nat)) (x15n : Nat) (x15c : Bool) (x18 : Int) (x19a : Option (Nat × Nat)) (x19n : Nat) (x19c : Bool) (x21a : Option (Nat × Nat)) (x21n : Nat) (x21c : Bool) (x23 : Int) (x24 : Int) (h : AHeap) (nx : Nat) : F9_L4 call Y lf n0 0 x5 x14 x15a x15n x15c x18 x19a x19n x19c x21a x21n x21c x23 x24 h nx = none := by kernel_rfl

theorem F9_eq' (J : StepF (AV × AHeap × Nat) → StepF (AV × AHeap × Nat)) (n : Nat) (Y : YldF) (x0a : Option (Nat × Nat)) (x0n : Nat) (x0c : Bool) (x1 : Int) (x2 : Int) (x3 : Int) (x4 : Int) (x5 : Int) (h : AHeap) (nx : Nat) : rootJ J Try.prog keepT (callP Try.prog keepT n) Y n 9 [(.slice x0a x0n x0c), (.int .i64 x1), (.int .i64 x2), (.int .i64 x3), (.int .i64 x4), (.int .u8 x5)] h nx =
    ((callP Try.prog keepT n) Y 15 [(.int .i64 x1), (.int .i64 12)] h (nx + 5)).bind fun r1 =>
    (asI .i64 r1.1).bind fun n2 =>
    ((callP Try.prog keepT n) Y 15 [(.int .i64 x2), (.int .i64 3)] r1.2.1 (r1.2.2 + 4)).bind fun r3 =>
    (asI .i64 r3.1).bind fun n4 =>
    ((callP Try.prog keepT n) Y 29 [(.slice x0a x0n x0c), (.int .i64 (wrapA .i64 (1 + n2)))] r3.2.1 (r3.2.2 + 4)).bind fun r5 =>
    (asSl r5.1).bind fun s6 =>
    ((callP Try.prog keepT n) Y 29 [(.slice x0a x0n x0c), (.int .i64 (wrapA .i64 (1 + n2)))] r5.2.1 (r5.2.2 + 4)).bind fun r7 =>
    (asSl r7.1).bind fun s8 =>
    (s6.1).bind fun p9 =>
    if 0 ≤ (0 : Int) ∧ 0 < ((s6.2.1 : Nat) : Int) then
    ((ldA r7.2.1 p9.1 (p9.2 + Int.toNat 0 * 1)).bind fun v10 =>
    (asSl v10).bind fun s11 =>
    if ((((s11.2.1 : Nat) : Int) : Int) == 0) = true then
    (((callP Try.prog keepT n) Y 31 [(.slice s6.1 s6.2.1 s6.2.2)] r7.2.1 (r7.2.2 + 8)).bind fun r12 =>
    (asB r12.1).bind fun t13 =>
    some ((.bool t13), r12.2.1, r12.2.2))
    else
    (((callP Try.prog keepT n) Y 15 [(.int .i64 x3), (.int .i64 (wrapA .i64 (1 + n2)))] r7.2.1 (r7.2.2 + 9)).bind fun r14 =>
    (asI .i64 r14.1).bind fun n15 =>
    (s6.1).bind fun p16 =>
    if 0 ≤ (0 : Int) ∧ 0 < ((s6.2.1 : Nat) : Int) then
    ((ldA r14.2.1 p16.1 (p16.2 + Int.toNat 0 * 1)).bind fun v17 =>
    (asSl v17).bind fun s18 =>
    ((callP Try.prog keepT n) Y 15 [(.int .i64 x4), (.int .i64 ((s18.2.1 : Nat) : Int))] r14.2.1 (r14.2.2 + 7)).bind fun r19 =>
    (asI .i64 r19.1).bind fun n20 =>
    (s8.1).bind fun p21 =>
    if 0 ≤ (n15 : Int) ∧ n15 < ((s8.2.1 : Nat) : Int) then
    ((ldA r19.2.1 p21.1 (p21.2 + Int.toNat n15 * 1)).bind fun v22 =>
    (asSl v22).bind fun s23 =>
    (s23.1).bind fun p24 =>
    if 0 ≤ (n20 : Int) ∧ n20 < ((s23.2.1 : Nat) : Int) then
    ((ldA r19.2.1 p24.1 (p24.2 + Int.toNat n20 * 1)).bind fun v25 =>
    (asI .u8 v25).bind fun n26 =>
    (s23.1).bind fun p27 =>
    if 0 ≤ (n20 : Int) ∧ n20 < ((s23.2.1 : Nat) : Int) then
    ((stA r19.2.1 p27.1 (p27.2 + Int.toNat n20 * 1) (.int .u8 (bits .xor .u8 n26 x5)) 1).bind fun b28 =>
    let h29 := AHeap.put r19.2.1 p27.1 (some b28)
    ((callP Try.prog keepT n) Y 30 [(.slice s6.1 s6.2.1 s6.2.2), (.int .i64 (wrapA .i64 (1 + n4)))] h29 (r19.2.2 + 19)).bind fun r30 =>
    (asTup 2 r30.1).bind fun d31 =>
    (asSl (d31.getD 0 .bad)).bind fun s32 =>
    (asI .i64 (d31.getD 1 .bad)).bind fun n33 =>
    ((callP Try.prog keepT n) Y 30 [(.slice s8.1 s8.2.1 s8.2.2), (.int .i64 (wrapA .i64 (1 + n4)))] r30.2.1 (r30.2.2 + 8)).bind fun r34 =>
    (asTup 2 r34.1).bind fun d35 =>
    (asSl (d35.getD 0 .bad)).bind fun s36 =>
    (asI .i64 (d35.getD 1 .bad)).bind fun n37 =>
    if ((n33 : Int) != 0) = true then
    (some ((.bool false), r34.2.1, (r34.2.2 + 19)))
    else
    (if ((n37 : Int) != 0) = true then
    (some ((.bool false), r34.2.1, (r34.2.2 + 19)))
    else
    (if ((((s32.2.1 : Nat) : Int) : Int) != (wrapA .i64 (1 + n4))) = true then
    (some ((.bool false), r34.2.1, (r34.2.2 + 19)))
    else
    (if ((((s36.2.1 : Nat) : Int) : Int) != (wrapA .i64 (1 + n4))) = true then
    (some ((.bool false), r34.2.1, (r34.2.2 + 19)))
    else
    (F9_J1' J J (callP Try.prog keepT n) Y n x5 (wrapA .i64 (1 + n4)) s6.1 s6.2.1 s6.2.2 n20 s32.1 s32.2.1 s32.2.2 s36.1 s36.2.1 s36.2.2 r34.2.1 (r34.2.2 + 18))))))
    else none)
    else none)
    else none)
    else none))
    else none := by kernel_rfl

/-- quickset/quicksetkeep.EncodeTouches -/
theorem F9_eq (n : Nat) (Y : YldF) (x0a : Option (Nat × Nat)) (x0n : Nat) (x0c : Bool) (x1 : Int) (x2 : Int) (x3 : Int) (x4 : Int) (x5 : Int) (h : AHeap) (nx : Nat) : callP Try.prog keepT (n + 1) Y 9 [(.slice x0a x0n x0c), (.int .i64 x1), (.int .i64 x2), (.int .i64 x3), (.int .i64 x4), (.int .u8 x5)] h nx =
    ((callP Try.prog keepT n) Y 15 [(.int .i64 x1), (.int .i64 12)] h (nx + 5)).bind fun r1 =>
    (asI .i64 r1.1).bind fun n2 =>
    ((callP Try.prog keepT n) Y 15 [(.int .i64 x2), (.int .i64 3)] r1.2.1 (r1.2.2 + 4)).bind fun r3 =>
    (asI .i64 r3.1).bind fun n4 =>
    ((callP Try.prog keepT n) Y 29 [(.slice x0a x0n x0c), (.int .i64 (wrapA .i64 (1 + n2)))] r3.2.1 (r3.2.2 + 4)).bind fun r5 =>
    (asSl r5.1).bind fun s6 =>
    ((callP Try.prog keepT n) Y 29 [(.slice x0a x0n x0c), (.int .i64 (wrapA .i64 (1 + n2)))] r5.2.1 (r5.2.2 + 4)).bind fun r7 =>
    (asSl r7.1).bind fun s8 =>
    (s6.1).bind fun p9 =>
    if 0 ≤ (0 : Int) ∧ 0 < ((s6.2.1 : Nat) : Int) then
    ((ldA r7.2.1 p9.1 (p9.2 + Int.toNat 0 * 1)).bind fun v10 =>
    (asSl v10).bind fun s11 =>
    if ((((s11.2.1 : Nat) : Int) : Int) == 0) = true then
    (((callP Try.prog keepT n) Y 31 [(.slice s6.1 s6.2.1 s6.2.2)] r7.2.1 (r7.2.2 + 8)).bind fun r12 =>
    (asB r12.1).bind fun t13 =>
    some ((.bool t13), r12.2.1, r12.2.2))
    else
    (((callP Try.prog keepT n) Y 15 [(.int .i64 x3), (.int .i64 (wrapA .i64 (1 + n2)))] r7.2.1 (r7.2.2 + 9)).bind fun r14 =>
    (asI .i64 r14.1).bind fun n15 =>
    (s6.1).bind fun p16 =>
    if 0 ≤ (0 : Int) ∧ 0 < ((s6.2.1 : Nat) : Int) then
    ((ldA r14.2.1 p16.1 (p16.2 + Int.toNat 0 * 1)).bind fun v17 =>
    (asSl v17).bind fun s18 =>
    ((callP Try.prog keepT n) Y 15 [(.int .i64 x4), (.int .i64 ((s18.2.1 : Nat) : Int))] r14.2.1 (r14.2.2 + 7)).bind fun r19 =>
    (asI .i64 r19.1).bind fun n20 =>
    (s8.1).bind fun p21 =>
    if 0 ≤ (n15 : Int) ∧ n15 < ((s8.2.1 : Nat) : Int) then
    ((ldA r19.2.1 p21.1 (p21.2 + Int.toNat n15 * 1)).bind fun v22 =>
    (asSl v22).bind fun s23 =>
    (s23.1).bind fun p24 =>
    if 0 ≤ (n20 : Int) ∧ n20 < ((s23.2.1 : Nat) : Int) then
    ((ldA r19.2.1 p24.1 (p24.2 + Int.toNat n20 * 1)).bind fun v25 =>
    (asI .u8 v25).bind fun n26 =>
    (s23.1).bind fun p27 =>
    if 0 ≤ (n20 : Int) ∧ n20 < ((s23.2.1 : Nat) : Int) then
    ((stA r19.2.1 p27.1 (p27.2 + Int.toNat n20 * 1) (.int .u8 (bits .xor .u8 n26 x5)) 1).bind fun b28 =>
    let h29 := AHeap.put r19.2.1 p27.1 (some b28)
    ((callP Try.prog keepT n) Y 30 [(.slice s6.1 s6.2.1 s6.2.2), (.int .i64 (wrapA .i64 (1 + n4)))] h29 (r19.2.2 + 19)).bind fun r30 =>
    (asTup 2 r30.1).bind fun d31 =>
    (asSl (d31.getD 0 .bad)).bind fun s32 =>
    (asI .i64 (d31.getD 1 .bad)).bind fun n33 =>
    ((callP Try.prog keepT n) Y 30 [(.slice s8.1 s8.2.1 s8.2.2), (.int .i64 (wrapA .i64 (1 + n4)))] r30.2.1 (r30.2.2 + 8)).bind fun r34 =>
    (asTup 2 r34.1).bind fun d35 =>
    (asSl (d35.getD 0 .bad)).bind fun s36 =>
    (asI .i64 (d35.getD 1 .bad)).bind fun n37 =>
    if ((n33 : Int) != 0) = true then
    (some ((.bool false), r34.2.1, (r34.2.2 + 19)))
    else
    (if ((n37 : Int) != 0) = true then
    (some ((.bool false), r34.2.1, (r34.2.2 + 19)))
    else
    (if ((((s32.2.1 : Nat) : Int) : Int) != (wrapA .i64 (1 + n4))) = true then
    (some ((.bool false), r34.2.1, (r34.2.2 + 19)))
    else
    (if ((((s36.2.1 : Nat) : Int) : Int) != (wrapA .i64 (1 + n4))) = true then
    (some ((.bool false), r34.2.1, (r34.2.2 + 19)))
    else
    (F9_J1 (callP Try.prog keepT n) Y n x5 (wrapA .i64 (1 + n4)) s6.1 s6.2.1 s6.2.2 n20 s32.1 s32.2.1 s32.2.2 s36.1 s36.2.1 s36.2.2 r34.2.1 (r34.2.2 + 18))))))
    else none)
    else none)
    else none)
    else none))
    else none := F9_eq' go1 n Y x0a x0n x0c x1 x2 x3 x4 x5 h nx

noncomputable def c10 : Code := (Try.f10.body).getD .skip

noncomputable def r10 : List ResultVar := Try.f10.results.toList

noncomputable def F10_L1' (W J : StepF (AV × AHeap × Nat) → StepF (AV × AHeap × Nat)) (call : YldF → CallF) (Y : YldF) (lf : Nat) (n0 : Nat) (x0a : Option (Nat × Nat)) (x0n : Nat) (x0c : Bool) (x1 : Int) (x5a : Option (Nat × Nat)) (x5n : Nat) (x5c : Bool) (x6 : Int) (h : AHeap) (nx : Nat) : Option (AV × AHeap × Nat) :=
  goK W J drawK (machOf Try.prog) call Y (keepT 10) lf c10 [1, 1, 0, 1, 0, 9] [n0] (retK (machOf Try.prog) ⟨c10, 112, r10, keepT 10⟩) ⟨112, mkL [(0, (.slice x0a x0n x0c)), (1, (.int .i64 x1)), (5, (.slice x5a x5n x5c)), (6, (.int .i64 x6))]⟩ h nx

noncomputable def F10_L1 (call : YldF → CallF) (Y : YldF) (lf : Nat) (n0 : Nat) (x0a : Option (Nat × Nat)) (x0n : Nat) (x0c : Bool) (x1 : Int) (x5a : Option (Nat × Nat)) (x5n : Nat) (x5c : Bool) (x6 : Int) (h : AHeap) (nx : Nat) : Option (AV × AHeap × Nat) := F10_L1' go1 go1 call Y lf n0 x0a x0n x0c x1 x5a x5n x5c x6 h nx

noncomputable def F10_J2' (W J : StepF (AV × AHeap × Nat) → StepF (AV × AHeap × Nat)) (call : YldF → CallF) (Y : YldF) (lf : Nat) (n0 : Nat) (x0a : Option (Nat × Nat)) (x0n : Nat) (x0c : Bool) (x1 : Int) (x5a : Option (Nat × Nat)) (x5n : Nat) (x5c : Bool) (x6 : Int) (x7 : Int) (h : AHeap) (nx : Nat) : Option (AV × AHeap × Nat) :=
  goK W J drawK (machOf Try.prog) call Y (keepT 10) lf c10 [1, 1, 0, 1, 0, 0, 1, 0, 0, 1, 1] [n0] (retK (machOf Try.prog) ⟨c10, 112, r10, keepT 10⟩) ⟨112, mkL [(0, (.slice x0a x0n x0c)), (1, (.int .i64 x1)), (5, (.slice x5a x5n x5c)), (6, (.int .i64 x6)), (7, (.int .i64 x7))]⟩ h nx

noncomputable def F10_J2 (call : YldF → CallF) (Y : YldF) (lf : Nat) (n0 : Nat) (x0a : Option (Nat × Nat)) (x0n : Nat) (x0c : Bool) (x1 : Int) (x5a : Option (Nat × Nat)) (x5n : Nat) (x5c : Bool) (x6 : Int) (x7 : Int) (h : AHeap) (nx : Nat) : Option (AV × AHeap × Nat) := F10_J2' go1 go1 call Y lf n0 x0a x0n x0c x1 x5a x5n x5c x6 x7 h nx

noncomputable def F10_L3' (W J : StepF (AV × AHeap × Nat) → StepF (AV × AHeap × Nat)) (call : YldF → CallF) (Y : YldF) (lf : Nat) (n0 : Nat) (x5a : Option (Nat × Nat)) (x5n : Nat) (x5c : Bool) (x8 : Bool) (x9a : Option (Nat × Nat)) (x9n : Nat) (x9c : Bool) (x10 : Int) (h : AHeap) (nx : Nat) : Option (AV × AHeap × Nat) :=
  goK W J drawK (machOf Try.prog) call Y (keepT 10) lf c10 [1, 1, 1, 1, 1, 0, 1, 0, 9] [n0] (retK (machOf Try.prog) ⟨c10, 112, r10, keepT 10⟩) ⟨112, mkL [(5, (.slice x5a x5n x5c)), (8, (.bool x8)), (9, (.slice x9a x9n x9c)), (10, (.int .i64 x10))]⟩ h nx

noncomputable def F10_L3 (call : YldF → CallF) (Y : YldF) (lf : Nat) (n0 : Nat) (x5a : Option (Nat × Nat)) (x5n : Nat) (x5c : Bool) (x8 : Bool) (x9a : Option (Nat × Nat)) (x9n : Nat) (x9c : Bool) (x10 : Int) (h : AHeap) (nx : Nat) : Option (AV × AHeap × Nat) := F10_L3' go1 go1 call Y lf n0 x5a x5n x5c x8 x9a x9n x9c x10 h nx

noncomputable def F10_L4' (W J : StepF (AV × AHeap × Nat) → StepF (AV × AHeap × Nat)) (call : YldF → CallF) (Y : YldF) (lf : Nat) (n0 : Nat) (n1 : Nat) (x5a : Option (Nat × Nat)) (x5n : Nat) (x5c : Bool) (x8 : Bool) (x9a : Option (Nat × Nat)) (x9n : Nat) (x9c : Bool) (x10 : Int) (x11 : Int) (h : AHeap) (nx : Nat) : Option (AV × AHeap × Nat) :=
  goK W J drawK (machOf Try.prog) call Y (keepT 10) lf c10 [1, 1, 1, 1, 1, 0, 1, 0, 0, 1, 0, 0, 0, 1, 0, 9] [n0, n1] (retK (machOf Try.prog) ⟨c10, 112, r10, keepT 10⟩) ⟨112, mkL [(5, (.slice x5a x5n x5c)), (8, (.bool x8)), (9, (.slice x9a x9n x9c)), (10, (.int .i64 x10)), (11, (.int .i64 x11))]⟩ h nx

noncomputable def F10_L4 (call : YldF → CallF) (Y : YldF) (lf : Nat) (n0 : Nat) (n1 : Nat) (x5a : Option (Nat × Nat)) (x5n : Nat) (x5c : Bool) (x8 : Bool) (x9a : Option (Nat × Nat)) (x9n : Nat) (x9c : Bool) (x10 : Int) (x11 : Int) (h : AHeap) (nx : Nat) : Option (AV × AHeap × Nat) := F10_L4' go1 go1 call Y lf n0 n1 x5a x5n x5c x8 x9a x9n x9c x10 x11 h nx

noncomputable def F10_L5' (W J : StepF (AV × AHeap × Nat) → StepF (AV × AHeap × Nat)) (call : YldF → CallF) (Y : YldF) (lf : Nat) (n0 : Nat) (n1 : Nat) (x5a : Option (Nat × Nat)) (x5n : Nat) (x5c : Bool) (x8 : Bool) (x9a : Option (Nat × Nat)) (x9n : Nat) (x9c : Bool) (x10 : Int) (x12a : Option (Nat × Nat)) (x12n : Nat) (x12c : Bool) (x13 : Int) (h : AHeap) (nx : Nat) : Option (AV × AHeap × Nat) :=
  goK W J drawK (machOf Try.prog) call Y (keepT 10) lf c10 [1, 1, 1, 1, 1, 0, 1, 0, 0, 1, 0, 0, 1, 1, 0, 1, 0, 9] [n0, n1] (retK (machOf Try.prog) ⟨c10, 112, r10, keepT 10⟩) ⟨112, mkL [(5, (.slice x5a x5n x5c)), (8, (.bool x8)), (9, (.slice x9a x9n x9c)), (10, (.int .i64 x10)), (12, (.slice x12a x12n x12c)), (13, (.int .i64 x13))]⟩ h nx

noncomputable def F10_L5 (call : YldF → CallF) (Y : YldF) (lf : Nat) (n0 : Nat) (n1 : Nat) (x5a : Option (Nat × Nat)) (x5n : Nat) (x5c : Bool) (x8 : Bool) (x9a : Option (Nat × Nat)) (x9n : Nat) (x9c : Bool) (x10 : Int) (x12a : Option (Nat × Nat)) (x12n : Nat) (x12c : Bool) (x13 : Int) (h : AHeap) (nx : Nat) : Option (AV × AHeap × Nat) := F10_L5' go1 go1 call Y lf n0 n1 x5a x5n x5c x8 x9a x9n x9c x10 x12a x12n x12c x13 h nx

noncomputable def F10_J6' (W J : StepF (AV × AHeap × Nat) → StepF (AV × AHeap × Nat)) (call : YldF → CallF) (Y : YldF) (lf : Nat) (n0 : Nat) (n1 : Nat) (x5a : Option (Nat × Nat)) (x5n : Nat) (x5c : Bool) (x8 : Bool) (x9a : Option (Nat × Nat)) (x9n : Nat) (x9c : Bool) (x10 : Int) (x12a : Option (Nat × Nat)) (x12n : Nat) (x12c : Bool) (x13 : Int) (x14 : Int) (h : AHeap) (nx : Nat) : Option (AV × AHeap × Nat) :=
  goK W J drawK (machOf Try.prog) call Y (keepT 10) lf c10 [1, 1, 1, 1, 1, 0, 1, 0, 0, 1, 0, 0, 1, 1, 0, 1, 0, 0, 1, 0, 0, 1, 1] [n0, n1] (retK (machOf Try.prog) ⟨c10, 112, r10, keepT 10⟩) ⟨112, mkL [(5, (.slice x5a x5n x5c)), (8, (.bool x8)), (9, (.slice x9a x9n x9c)), (10, (.int .i64 x10)), (12, (.slice x12a x12n x12c)), (13, (.int .i64 x13)), (14, (.int .i64 x14))]⟩ h nx

noncomputable def F10_J6 (call : YldF → CallF) (Y : YldF) (lf : Nat) (n0 : Nat) (n1 : Nat) (x5a : Option (Nat × Nat)) (x5n : Nat) (x5c : Bool) (x8 : Bool) (x9a : Option (Nat × Nat)) (x9n : Nat) (x9c : Bool) (x10 : Int) (x12a : Option (Nat × Nat)) (x12n : Nat) (x12c : Bool) (x13 : Int) (x14 : Int) (h : AHeap) (nx : Nat) : Option (AV × AHeap × Nat) := F10_J6' go1 go1 call Y lf n0 n1 x5a x5n x5c x8 x9a x9n x9c x10 x12a x12n x12c x13 x14 h nx

theorem F10_L1_eq' (J : StepF (AV × AHeap × Nat) → StepF (AV × AHeap × Nat)) (call : YldF → CallF) (Y : YldF) (lf : Nat) (n0 : Nat) (x0a : Option (Nat × Nat)) (x0n : Nat) (x0c : Bool) (x1 : Int) (x5a : Option (Nat × Nat)) (x5n : Nat) (x5c : Bool) (x6 : Int) (h : AHeap) (nx : Nat) : F10_L1' go1 J call Y lf (n0 + 1) x0a x0n x0c x1 x5a x5n x5c x6 h nx =
    (call Y 24 [(.int .i64 x1)] h (nx + 4)).bind fun r1 =>
    (asI .i64 r1.1).bind fun n2 =>
    if (decide ((x6 : Int) < n2)) = true then
    (if (decide ((x6 : Int) < ((x0n : Nat) : Int))) = true then
    ((x0a).bind fun p3 =>
    if 0 ≤ (x6 : Int) ∧ x6 < ((x0n : Nat) : Int) then
    ((ldA r1.2.1 p3.1 (p3.2 + Int.toNat x6 * 1)).bind fun v4 =>
    (asI .i64 v4).bind fun n5 =>
    (call Y 15 [(.int .i64 n5), (.int .i64 256)] r1.2.1 (r1.2.2 + 12)).bind fun r6 =>
    (asI .i64 r6.1).bind fun n7 =>
    F10_J2' J J call Y lf n0 x0a x0n x0c x1 x5a x5n x5c x6 n7 r6.2.1 r6.2.2)
    else none)
    else
    (F10_J2' J J call Y lf n0 x0a x0n x0c x1 x5a x5n x5c x6 x6 r1.2.1 (r1.2.2 + 6)))
    else
    (F10_L3' J J call Y lf lf x5a x5n x5c true none 0 false 0 r1.2.1 (r1.2.2 + 3)) := by kernel_rfl

theorem F10_L1_eq (call : YldF → CallF) (Y : YldF) (lf : Nat) (n0 : Nat) (x0a : Option (Nat × Nat)) (x0n : Nat) (x0c : Bool) (x1 : Int) (x5a : Option (Nat × Nat)) (x5n : Nat) (x5c : Bool) (x6 : Int) (h : AHeap) (nx : Nat) : F10_L1 call Y lf (n0 + 1) x0a x0n x0c x1 x5a x5n x5c x6 h nx =
    (call Y 24 [(.int .i64 x1)] h (nx + 4)).bind fun r1 =>
    (asI .i64 r1.1).bind fun n2 =>
    if (decide ((x6 : Int) < n2)) = true then
    (if (decide ((x6 : Int) < ((x0n : Nat) : Int))) = true then
    ((x0a).bind fun p3 =>
    if 0 ≤ (x6 : Int) ∧ x6 < ((x0n : Nat) : Int) then
    ((ldA r1.2.1 p3.1 (p3.2 + Int.toNat x6 * 1)).bind fun v4 =>
    (asI .i64 v4).bind fun n5 =>
    (call Y 15 [(.int .i64 n5), (.int .i64 256)] r1.2.1 (r1.2.2 + 12)).bind fun r6 =>
    (asI .i64 r6.1).bind fun n7 =>
    F10_J2 call Y lf n0 x0a x0n x0c x1 x5a x5n x5c x6 n7 r6.2.1 r6.2.2)
    else none)
    else
    (F10_J2 call Y lf n0 x0a x0n x0c x1 x5a x5n x5c x6 x6 r1.2.1 (r1.2.2 + 6)))
    else
    (F10_L3 call Y lf lf x5a x5n x5c true none 0 false 0 r1.2.1 (r1.2.2 + 3)) := F10_L1_eq' go1 call Y lf n0 x0a x0n x0c x1 x5a x5n x5c x6 h nx

theorem F10_L1_zero (call : YldF → CallF) (Y : YldF) (lf : Nat) (x0a : Option (Nat × Nat)) (x0n : Nat) (x0c : Bool) (x1 : Int) (x5a : Option (Nat × Nat)) (x5n : Nat) (x5c : Bool) (x6 : Int) (h : AHeap) (nx : Nat) : F10_L1 call Y lf 0 x0a x0n x0c x1 x5a x5n x5c x6 h nx = none := by kernel_rfl

theorem F10_J2_eq' (J : StepF (AV × AHeap × Nat) → StepF (AV × AHeap × Nat)) (call : YldF → CallF) (Y : YldF) (lf : Nat) (n0 : Nat) (x0a : Option (Nat × Nat)) (x0n : Nat) (x0c : Bool) (x1 : Int) (x5a : Option (Nat × Nat)) (x5n : Nat) (x5c : Bool) (x6 : Int) (x7 : Int) (h : AHeap) (nx : Nat) : F10_J2' go1 J call Y lf n0 x0a x0n x0c x1 x5a x5n x5c x6 x7 h nx =
    let h1 := AHeap.put h (nx + 2) (some ⟨[(.int .i64 x7)], 1, true⟩)
    (srcS h1 (some ((nx + 2), 0)) 1 1).bind fun q2 =>
    (appD h1 x5a x5n x5c 1 8 (nx + 3) q2).bind fun e3 =>
    let h4 := AHeap.puts h1 e3.sets
    F10_L1' J J call Y lf n0 x0a x0n x0c x1 e3.a e3.n e3.c (wrapA .i64 (x6 + 1)) h4 (nx + 8) := by kernel_rfl

theorem F10_J2_eq (call : YldF → CallF) (Y : YldF) (lf : Nat) (n0 : Nat) (x0a : Option (Nat × Nat)) (x0n : Nat) (x0c : Bool) (x1 : Int) (x5a : Option (Nat × Nat)) (x5n : Nat) (x5c : Bool) (x6 : Int) (x7 : Int) (h : AHeap) (nx : Nat) : F10_J2 call Y lf n0 x0a x0n x0c x1 x5a x5n x5c x6 x7 h nx =
    let h1 := AHeap.put h (nx + 2) (some ⟨[(.int .i64 x7)], 1, true⟩)
    (srcS h1 (some ((nx + 2), 0)) 1 1).bind fun q2 =>
    (appD h1 x5a x5n x5c 1 8 (nx + 3) q2).bind fun e3 =>
    let h4 := AHeap.puts h1 e3.sets
    F10_L1 call Y lf n0 x0a x0n x0c x1 e3.a e3.n e3.c (wrapA .i64 (x6 + 1)) h4 (nx + 8) := F10_J2_eq' go1 call Y lf n0 x0a x0n x0c x1 x5a x5n x5c x6 x7 h nx

theorem F10_L3_eq' (J : StepF (AV × AHeap × Nat) → StepF (AV × AHeap × Nat)) (call : YldF → CallF) (Y : YldF) (lf : Nat) (n0 : Nat) (x5a : Option (Nat × Nat)) (x5n : Nat) (x5c : Bool) (x8 : Bool) (x9a : Option (Nat × Nat)) (x9n : Nat) (x9c : Bool) (x10 : Int) (h : AHeap) (nx : Nat) : F10_L3' go1 J call Y lf (n0 + 1) x5a x5n x5c x8 x9a x9n x9c x10 h nx =
    if (decide ((x10 : Int) < ((x5n : Nat) : Int))) = true then
    (F10_L4' J J call Y lf n0 lf x5a x5n x5c x8 x9a x9n x9c x10 0 h (nx + 5))
    else
    ((call Y 32 [(.slice x9a x9n x9c)] h (nx + 11)).bind fun r1 =>
    (asTup 2 r1.1).bind fun d2 =>
    (asSl (d2.getD 0 .bad)).bind fun s3 =>
    (asI .i64 (d2.getD 1 .bad)).bind fun n4 =>
    if (!x8) = true then
    (some ((.bool ((n4 : Int) == 10)), r1.2.1, (r1.2.2 + 5)))
    else
    (if ((n4 : Int) == 0) = true then
    (some ((.bool ((((s3.2.1 : Nat) : Int) : Int) == ((x9n : Nat) : Int))), r1.2.1, (r1.2.2 + 12)))
    else
    (some ((.bool false), r1.2.1, (r1.2.2 + 12))))) := by kernel_rfl

theorem F10_L3_eq (call : YldF → CallF) (Y : YldF) (lf : Nat) (n0 : Nat) (x5a : Option (Nat × Nat)) (x5n : Nat) (x5c : Bool) (x8 : Bool) (x9a : Option (Nat × Nat)) (x9n : Nat) (x9c : Bool) (x10 : Int) (h : AHeap) (nx : Nat) : F10_L3 call Y lf (n0 + 1) x5a x5n x5c x8 x9a x9n x9c x10 h nx =
    if (decide ((x10 : Int) < ((x5n : Nat) : Int))) = true then
    (F10_L4 call Y lf n0 lf x5a x5n x5c x8 x9a x9n x9c x10 0 h (nx + 5))
    else
    ((call Y 32 [(.slice x9a x9n x9c)] h (nx + 11)).bind fun r1 =>
    (asTup 2 r1.1).bind fun d2 =>
    (asSl (d2.getD 0 .bad)).bind fun s3 =>
    (asI .i64 (d2.getD 1 .bad)).bind fun n4 =>
    if (!x8) = true then
    (some ((.bool ((n4 : Int) == 10)), r1.2.1, (r1.2.2 + 5)))
    else
    (if ((n4 : Int) == 0) = true then
    (some ((.bool ((((s3.2.1 : Nat) : Int) : Int) == ((x9n : Nat) : Int))), r1.2.1, (r1.2.2 + 12)))
    else
    (some ((.bool false), r1.2.1, (r1.2.2 + 12))))) := F10_L3_eq' go1 call Y lf n0 x5a x5n x5c x8 x9a x9n x9c x10 h nx

theorem F10_L3_zero (call : YldF → CallF) (Y : YldF) (lf : Nat) (x5a : Option (Nat × Nat)) (x5n : Nat) (x5c : Bool) (x8 : Bool) (x9a : Option (Nat × Nat)) (x9n : Nat) (x9c : Bool) (x10 : Int) (h : AHeap) (nx : Nat) : F10_L3 call Y lf 0 x5a x5n x5c x8 x9a x9n x9c x10 h nx = none := by kernel_rfl

theorem F10_L4_eq' (J : StepF (AV × AHeap × Nat) → StepF (AV × AHeap × Nat)) (call : YldF → CallF) (Y : YldF) (lf : Nat) (n0 : Nat) (n1 : Nat) (x5a : Option (Nat × Nat)) (x5n : Nat) (x5c : Bool) (x8 : Bool) (x9a : Option (Nat × Nat)) (x9n : Nat) (x9c : Bool) (x10 : Int) (x11 : Int) (h : AHeap) (nx : Nat) : F10_L4' go1 J call Y lf n0 (n1 + 1) x5a x5n x5c x8 x9a x9n x9c x10 x11 h nx =
    if (decide ((x11 : Int) < x10)) = true then
    (if x8 = true then
    ((x5a).bind fun p1 =>
    if 0 ≤ (x10 : Int) ∧ x10 < ((x5n : Nat) : Int) then
    ((ldA h p1.1 (p1.2 + Int.toNat x10 * 1)).bind fun v2 =>
    (asI .i64 v2).bind fun n3 =>
    (x5a).bind fun p4 =>
    if 0 ≤ (x11 : Int) ∧ x11 < ((x5n : Nat) : Int) then
    ((ldA h p4.1 (p4.2 + Int.toNat x11 * 1)).bind fun v5 =>
    (asI .i64 v5).bind fun n6 =>
    F10_L4' J J call Y lf n0 n1 x5a x5n x5c ((n3 : Int) != n6) x9a x9n x9c x10 (wrapA .i64 (x11 + 1)) h (nx + 19))
    else none)
    else none)
    else
    (F10_L4' J J call Y lf n0 n1 x5a x5n x5c false x9a x9n x9c x10 (wrapA .i64 (x11 + 1)) h (nx + 19)))
    else
    (F10_L5' J J call Y lf n0 lf x5a x5n x5c x8 x9a x9n x9c x10 none 0 false 0 h (nx + 5)) := by kernel_rfl

theorem F10_L4_eq (call : YldF → CallF) (Y : YldF) (lf : Nat) (n0 : Nat) (n1 : Nat) (x5a : Option (Nat × Nat)) (x5n : Nat) (x5c : Bool) (x8 : Bool) (x9a : Option (Nat × Nat)) (x9n : Nat) (x9c : Bool) (x10 : Int) (x11 : Int) (h : AHeap) (nx : Nat) : F10_L4 call Y lf n0 (n1 + 1) x5a x5n x5c x8 x9a x9n x9c x10 x11 h nx =
    if (decide ((x11 : Int) < x10)) = true then
    (if x8 = true then
    ((x5a).bind fun p1 =>
    if 0 ≤ (x10 : Int) ∧ x10 < ((x5n : Nat) : Int) then
    ((ldA h p1.1 (p1.2 + Int.toNat x10 * 1)).bind fun v2 =>
    (asI .i64 v2).bind fun n3 =>
    (x5a).bind fun p4 =>
    if 0 ≤ (x11 : Int) ∧ x11 < ((x5n : Nat) : Int) then
    ((ldA h p4.1 (p4.2 + Int.toNat x11 * 1)).bind fun v5 =>
    (asI .i64 v5).bind fun n6 =>
    F10_L4 call Y lf n0 n1 x5a x5n x5c ((n3 : Int) != n6) x9a x9n x9c x10 (wrapA .i64 (x11 + 1)) h (nx + 19))
    else none)
    else none)
    else
    (F10_L4 call Y lf n0 n1 x5a x5n x5c false x9a x9n x9c x10 (wrapA .i64 (x11 + 1)) h (nx + 19)))
    else
    (F10_L5 call Y lf n0 lf x5a x5n x5c x8 x9a x9n x9c x10 none 0 false 0 h (nx + 5)) := F10_L4_eq' go1 call Y lf n0 n1 x5a x5n x5c x8 x9a x9n x9c x10 x11 h nx

theorem F10_L4_zero (call : YldF → CallF) (Y : YldF) (lf : Nat) (n0 : Nat) (x5a : Option (Nat × Nat)) (x5n : Nat) (x5c : Bool) (x8 : Bool) (x9a : Option (Nat × Nat)) (x9n : Nat) (x9c : Bool) (x10 : Int) (x11 : Int) (h : AHeap) (nx : Nat) : F10_L4 call Y lf n0 0 x5a x5n x5c x8 x9a x9n x9c x10 x11 h nx = none := by kernel_rfl

theorem F10_L5_eq' (J : StepF (AV × AHeap × Nat) → StepF (AV × AHeap × Nat)) (call : YldF → CallF) (Y : YldF) (lf : Nat) (n0 : Nat) (n1 : Nat) (x5a : Option (Nat × Nat)) (x5n : Nat) (x5c : Bool) (x8 : Bool) (x9a : Option (Nat × Nat)) (x9n : Nat) (x9c : Bool) (x10 : Int) (x12a : Option (Nat × Nat)) (x12n : Nat) (x12c : Bool) (x13 : Int) (h : AHeap) (nx : Nat) : F10_L5' go1 J call Y lf n0 (n1 + 1) x5a x5n x5c x8 x9a x9n x9c x10 x12a x12n x12c x13 h nx =
    if (decide ((x13 : Int) < ((x5n : Nat) : Int))) = true then
    ((x5a).bind fun p1 =>
    if 0 ≤ (x10 : Int) ∧ x10 < ((x5n : Nat) : Int) then
    ((ldA h p1.1 (p1.2 + Int.toNat x10 * 1)).bind fun v2 =>
    (asI .i64 v2).bind fun n3 =>
    (call Y 18 [(.int .i64 n3), (.int .i64 x13)] h (nx + 15)).bind fun r4 =>
    (asTup 2 r4.1).bind fun d5 =>
    (asI .i64 (d5.getD 0 .bad)).bind fun n6 =>
    (asI .i64 (d5.getD 1 .bad)).bind fun n7 =>
    if ((n7 : Int) != 0) = true then
    (some ((.bool false), r4.2.1, (r4.2.2 + 11)))
    else
    (if ((x13 : Int) == 0) = true then
    (if ((n6 : Int) != 1) = true then
    (some ((.bool false), r4.2.1, (r4.2.2 + 11)))
    else
    (F10_J6' J J call Y lf n0 n1 x5a x5n x5c x8 x9a x9n x9c x10 x12a x12n x12c x13 n6 r4.2.1 (r4.2.2 + 10)))
    else
    (F10_J6' J J call Y lf n0 n1 x5a x5n x5c x8 x9a x9n x9c x10 x12a x12n x12c x13 n6 r4.2.1 (r4.2.2 + 10))))
    else none)
    else
    (let h8 := AHeap.put h (nx + 6) (some ⟨[(.slice x12a x12n x12c)], 1, true⟩)
    (srcS h8 (some ((nx + 6), 0)) 1 1).bind fun q9 =>
    (appD h8 x9a x9n x9c 1 24 (nx + 7) q9).bind fun e10 =>
    let h11 := AHeap.puts h8 e10.sets
    F10_L3' J J call Y lf n0 x5a x5n x5c x8 e10.a e10.n e10.c (wrapA .i64 (x10 + 1)) h11 (nx + 12)) := by kernel_rfl

theorem F10_L5_eq (call : YldF → CallF) (Y : YldF) (lf : Nat) (n0 : Nat) (n1 : Nat) (x5a : Option (Nat × Nat)) (x5n : Nat) (x5c : Bool) (x8 : Bool) (x9a : Option (Nat × Nat)) (x9n : Nat) (x9c : Bool) (x10 : Int) (x12a : Option (Nat × Nat)) (x12n : Nat) (x12c : Bool) (x13 : Int) (h : AHeap) (nx : Nat) : F10_L5 call Y lf n0 (n1 + 1) x5a x5n x5c x8 x9a x9n x9c x10 x12a x12n x12c x13 h nx =
    if (decide ((x13 : Int) < ((x5n : Nat) : Int))) = true then
    ((x5a).bind fun p1 =>
    if 0 ≤ (x10 : Int) ∧ x10 < ((x5n : Nat) : Int) then
    ((ldA h p1.1 (p1.2 + Int.toNat x10 * 1)).bind fun v2 =>
    (asI .i64 v2).bind fun n3 =>
    (call Y 18 [(.int .i64 n3), (.int .i64 x13)] h (nx + 15)).bind fun r4 =>
    (asTup 2 r4.1).bind fun d5 =>
    (asI .i64 (d5.getD 0 .bad)).bind fun n6 =>
    (asI .i64 (d5.getD 1 .bad)).bind fun n7 =>
    if ((n7 : Int) != 0) = true then
    (some ((.bool false), r4.2.1, (r4.2.2 + 11)))
    else
    (if ((x13 : Int) == 0) = true then
    (if ((n6 : Int) != 1) = true then
    (some ((.bool false), r4.2.1, (r4.2.2 + 11)))
    else
    (F10_J6 call Y lf n0 n1 x5a x5n x5c x8 x9a x9n x9c x10 x12a x12n x12c x13 n6 r4.2.1 (r4.2.2 + 10)))
    else
    (F10_J6 call Y lf n0 n1 x5a x5n x5c x8 x9a x9n x9c x10 x12a x12n x12c x13 n6 r4.2.1 (r4.2.2 + 10))))
    else none)
    else
    (let h8 := AHeap.put h (nx + 6) (some ⟨[(.slice x12a x12n x12c)], 1, true⟩)
    (srcS h8 (some ((nx + 6), 0)) 1 1).bind fun q9 =>
    (appD h8 x9a x9n x9c 1 24 (nx + 7) q9).bind fun e10 =>
    let h11 := AHeap.puts h8 e10.sets
    F10_L3 call Y lf n0 x5a x5n x5c x8 e10.a e10.n e10.c (wrapA .i64 (x10 + 1)) h11 (nx + 12)) := F10_L5_eq' go1 call Y lf n0 n1 x5a x5n x5c x8 x9a x9n x9c x10 x12a x12n x12c x13 h nx

theorem F10_L5_zero (call : YldF → CallF) (Y : YldF) (lf : Nat) (n0 : Nat) (x5a : Option (Nat × Nat)) (x5n : Nat) (x5c : Bool) (x8 : Bool) (x9a : Option (Nat × Nat)) (x9n : Nat) (x9c : Bool) (x10 : Int) (x12a : Option (Nat × Nat)) (x12n : Nat) (x12c : Bool) (x13 : Int) (h : AHeap) (nx : Nat) : F10_L5 call Y lf n0 0 x5a x5n x5c x8 x9a x9n x9c x10 x12a x12n x12c x13 h nx = none := by kernel_rfl

theorem F10_J6_eq' (J : StepF (AV × AHeap × Nat) → StepF (AV × AHeap × Nat)) (call : YldF → CallF) (Y : YldF) (lf : Nat) (n0 : Nat) (n1 : Nat) (x5a : Option (Nat × Nat)) (x5n : Nat) (x5c : Bool) (x8 : Bool) (x9a : Option (Nat × Nat)) (x9n : Nat) (x9c : Bool) (x10 : Int) (x12a : Option (Nat × Nat)) (x12n : Nat) (x12c : Bool) (x13 : Int) (x14 : Int) (h : AHeap) (nx : Nat) : F10_J6' go1 J call Y lf n0 n1 x5a x5n x5c x8 x9a x9n x9c x10 x12a x12n x12c x13 x14 h nx =
    let h1 := AHeap.put h (nx + 2) (some ⟨[(.int .i64 x14)], 1, true⟩)
    (srcS h1 (some ((nx + 2), 0)) 1 1).bind fun q2 =>
    (appD h1 x12a x12n x12c 1 8 (nx + 3) q2).bind fun e3 =>
    let h4 := AHeap.puts h1 e3.sets
    F10_L5' J J call Y lf n0 n1 x5a x5n x5c x8 x9a x9n x9c x10 e3.a e3.n e3.c (wrapA .i64 (x13 + 1)) h4 (nx + 8) := by kernel_rfl

theorem F10_J6_eq (call : YldF → CallF) (Y : YldF) (lf : Nat) (n0 : Nat) (n1 : Nat) (x5a : Option (Nat × Nat)) (x5n : Nat) (x5c : Bool) (x8 : Bool) (x9a : Option (Nat × Nat)) (x9n : Nat) (x9c : Bool) (x10 : Int) (x12a : Option (Nat × Nat)) (x12n : Nat) (x12c : Bool) (x13 : Int) (x14 : Int) (h : AHeap) (nx : Nat) : F10_J6 call Y lf n0 n1 x5a x5n x5c x8 x9a x9n x9c x10 x12a x12n x12c x13 x14 h nx =
    let h1 := AHeap.put h (nx + 2) (some ⟨[(.int .i64 x14)], 1, true⟩)
    (srcS h1 (some ((nx + 2), 0)) 1 1).bind fun q2 =>
    (appD h1 x12a x12n x12c 1 8 (nx + 3) q2).bind fun e3 =>
    let h4 := AHeap.puts h1 e3.sets
    F10_L5 call Y lf n0 n1 x5a x5n x5c x8 x9a x9n x9c x10 e3.a e3.n e3.c (wrapA .i64 (x13 + 1)) h4 (nx + 8) := F10_J6_eq' go1 call Y lf n0 n1 x5a x5n x5c x8 x9a x9n x9c x10 x12a x12n x12c x13 x14 h nx

theorem F10_eq' (J : StepF (AV × AHeap × Nat) → StepF (AV × AHeap × Nat)) (n : Nat) (Y : YldF) (x0a : Option (Nat × Nat)) (x0n : Nat) (x0c : Bool) (x1 : Int) (h : AHeap) (nx : Nat) : rootJ J Try.prog keepT (callP Try.prog keepT n) Y n 10 [(.slice x0a x0n x0c), (.int .i64 x1)] h nx =
    F10_L1' J J (callP Try.prog keepT n) Y n n x0a x0n x0c x1 none 0 false 0 h (nx + 3) := by kernel_rfl

/-- quickset/quicksetkeep.MatPowers -/
theorem F10_eq (n : Nat) (Y : YldF) (x0a : Option (Nat × Nat)) (x0n : Nat) (x0c : Bool) (x1 : Int) (h : AHeap) (nx : Nat) : callP Try.prog keepT (n + 1) Y 10 [(.slice x0a x0n x0c), (.int .i64 x1)] h nx =
    F10_L1 (callP Try.prog keepT n) Y n n x0a x0n x0c x1 none 0 false 0 h (nx + 3) := F10_eq' go1 n Y x0a x0n x0c x1 h nx

noncomputable def c11 : Code := (Try.f11.body).getD .skip

noncomputable def r11 : List ResultVar := Try.f11.results.toList

noncomputable def F11_J1' (W J : StepF (AV × AHeap × Nat) → StepF (AV × AHeap × Nat)) (call : YldF → CallF) (Y : YldF) (lf : Nat) (x5a : Option (Nat × Nat)) (x5n : Nat) (x5c : Bool) (x6a : Option (Nat × Nat)) (x6n : Nat) (x6c : Bool) (x7 : Int) (h : AHeap) (nx : Nat) : Option (AV × AHeap × Nat) :=
  goK W J drawK (machOf Try.prog) call Y (keepT 11) lf c11 [1, 1, 1, 1, 1] [] (retK (machOf Try.prog) ⟨c11, 92, r11, keepT 11⟩) ⟨92, mkL [(5, (.slice x5a x5n x5c)), (6, (.slice x6a x6n x6c)), (7, (.int .i64 x7))]⟩ h nx

noncomputable def F11_J1 (call : YldF → CallF) (Y : YldF) (lf : Nat) (x5a : Option (Nat × Nat)) (x5n : Nat) (x5c : Bool) (x6a : Option (Nat × Nat)) (x6n : Nat) (x6c : Bool) (x7 : Int) (h : AHeap) (nx : Nat) : Option (AV × AHeap × Nat) := F11_J1' go1 go1 call Y lf x5a x5n x5c x6a x6n x6c x7 h nx

theorem F11_J1_eq' (J : StepF (AV × AHeap × Nat) → StepF (AV × AHeap × Nat)) (call : YldF → CallF) (Y : YldF) (lf : Nat) (x5a : Option (Nat × Nat)) (x5n : Nat) (x5c : Bool) (x6a : Option (Nat × Nat)) (x6n : Nat) (x6c : Bool) (x7 : Int) (h : AHeap) (nx : Nat) : F11_J1' go1 J call Y lf x5a x5n x5c x6a x6n x6c x7 h nx =
    if ((x7 : Int) != 0) = true then
    (if ((x7 : Int) == 10) = true then
    (some ((.bool ((((x6n : Nat) : Int) : Int) == 0)), h, (nx + 10)))
    else
    (some ((.bool false), h, (nx + 10))))
    else
    ((call Y 25 [(.slice x5a x5n x5c), (.slice x6a x6n x6c)] h (nx + 10)).bind fun r1 =>
    (asTup 2 r1.1).bind fun d2 =>
    (asSl (d2.getD 0 .bad)).bind fun s3 =>
    (asI .i64 (d2.getD 1 .bad)).bind fun n4 =>
    (call Y 25 [(.slice x6a x6n x6c), (.slice x5a x5n x5c)] r1.2.1 (r1.2.2 + 8)).bind fun r5 =>
    (asTup 2 r5.1).bind fun d6 =>
    (asSl (d6.getD 0 .bad)).bind fun s7 =>
    (asI .i64 (d6.getD 1 .bad)).bind fun n8 =>
    if ((n4 : Int) == 0) = true then
    (if ((n8 : Int) == 0) = true then
    ((call Y 34 [(.int .i64 ((x5n : Nat) : Int))] r5.2.1 (r5.2.2 + 21)).bind fun r9 =>
    (asSl r9.1).bind fun s10 =>
    (call Y 26 [(.slice s3.1 s3.2.1 s3.2.2), (.slice s10.1 s10.2.1 s10.2.2)] r9.2.1 r9.2.2).bind fun r11 =>
    (asB r11.1).bind fun t12 =>
    if t12 = true then
    ((call Y 34 [(.int .i64 ((x5n : Nat) : Int))] r11.2.1 r11.2.2).bind fun r13 =>
    (asSl r13.1).bind fun s14 =>
    (call Y 26 [(.slice s7.1 s7.2.1 s7.2.2), (.slice s14.1 s14.2.1 s14.2.2)] r13.2.1 r13.2.2).bind fun r15 =>
    (asB r15.1).bind fun t16 =>
    some ((.bool t16), r15.2.1, r15.2.2))
    else
    (some ((.bool false), r11.2.1, r11.2.2)))
    else
    (some ((.bool false), r5.2.1, (r5.2.2 + 21))))
    else
    (some ((.bool false), r5.2.1, (r5.2.2 + 21)))) := by kernel_rfl

theorem F11_J1_eq (call : YldF → CallF) (Y : YldF) (lf : Nat) (x5a : Option (Nat × Nat)) (x5n : Nat) (x5c : Bool) (x6a : Option (Nat × Nat)) (x6n : Nat) (x6c : Bool) (x7 : Int) (h : AHeap) (nx : Nat) : F11_J1 call Y lf x5a x5n x5c x6a x6n x6c x7 h nx =
    if ((x7 : Int) != 0) = true then
    (if ((x7 : Int) == 10) = true then
    (some ((.bool ((((x6n : Nat) : Int) : Int) == 0)), h, (nx + 10)))
    else
    (some ((.bool false), h, (nx + 10))))
    else
    ((call Y 25 [(.slice x5a x5n x5c), (.slice x6a x6n x6c)] h (nx + 10)).bind fun r1 =>
    (asTup 2 r1.1).bind fun d2 =>
    (asSl (d2.getD 0 .bad)).bind fun s3 =>
    (asI .i64 (d2.getD 1 .bad)).bind fun n4 =>
    (call Y 25 [(.slice x6a x6n x6c), (.slice x5a x5n x5c)] r1.2.1 (r1.2.2 + 8)).bind fun r5 =>
    (asTup 2 r5.1).bind fun d6 =>
    (asSl (d6.getD 0 .bad)).bind fun s7 =>
    (asI .i64 (d6.getD 1 .bad)).bind fun n8 =>
    if ((n4 : Int) == 0) = true then
    (if ((n8 : Int) == 0) = true then
    ((call Y 34 [(.int .i64 ((x5n : Nat) : Int))] r5.2.1 (r5.2.2 + 21)).bind fun r9 =>
    (asSl r9.1).bind fun s10 =>
    (call Y 26 [(.slice s3.1 s3.2.1 s3.2.2), (.slice s10.1 s10.2.1 s10.2.2)] r9.2.1 r9.2.2).bind fun r11 =>
    (asB r11.1).bind fun t12 =>
    if t12 = true then
    ((call Y 34 [(.int .i64 ((x5n : Nat) : Int))] r11.2.1 r11.2.2).bind fun r13 =>
    (asSl r13.1).bind fun s14 =>
    (call Y 26 [(.slice s7.1 s7.2.1 s7.2.2), (.slice s14.1 s14.2.1 s14.2.2)] r13.2.1 r13.2.2).bind fun r15 =>
    (asB r15.1).bind fun t16 =>
    some ((.bool t16), r15.2.1, r15.2.2))
    else
    (some ((.bool false), r11.2.1, r11.2.2)))
    else
    (some ((.bool false), r5.2.1, (r5.2.2 + 21))))
    else
    (some ((.bool false), r5.2.1, (r5.2.2 + 21)))) := F11_J1_eq' go1 call Y lf x5a x5n x5c x6a x6n x6c x7 h nx

theorem F11_eq' (J : StepF (AV × AHeap × Nat) → StepF (AV × AHeap × Nat)) (n : Nat) (Y : YldF) (x0a : Option (Nat × Nat)) (x0n : Nat) (x0c : Bool) (x1 : Int) (h : AHeap) (nx : Nat) : rootJ J Try.prog keepT (callP Try.prog keepT n) Y n 11 [(.slice x0a x0n x0c), (.int .i64 x1)] h nx =
    ((callP Try.prog keepT n) Y 24 [(.int .i64 x1)] h (nx + 8)).bind fun r1 =>
    (asI .i64 r1.1).bind fun n2 =>
    ((callP Try.prog keepT n) Y 24 [(.int .i64 x1)] r1.2.1 r1.2.2).bind fun r3 =>
    (asI .i64 r3.1).bind fun n4 =>
    ((callP Try.prog keepT n) Y 23 [(.slice x0a x0n x0c), (.int .i64 n2), (.int .i64 n4)] r3.2.1 r3.2.2).bind fun r5 =>
    (asSl r5.1).bind fun s6 =>
    ((callP Try.prog keepT n) Y 32 [(.slice s6.1 s6.2.1 s6.2.2)] r5.2.1 (r5.2.2 + 7)).bind fun r7 =>
    (asTup 2 r7.1).bind fun d8 =>
    (asSl (d8.getD 0 .bad)).bind fun s9 =>
    (asI .i64 (d8.getD 1 .bad)).bind fun n10 =>
    ((callP Try.prog keepT n) Y 33 [(.slice s6.1 s6.2.1 s6.2.2)] r7.2.1 (r7.2.2 + 7)).bind fun r11 =>
    (asTup 2 r11.1).bind fun d12 =>
    (asI .i64 (d12.getD 0 .bad)).bind fun n13 =>
    (asI .i64 (d12.getD 1 .bad)).bind fun n14 =>
    if ((n14 : Int) != 0) = true then
    (some ((.bool false), r11.2.1, (r11.2.2 + 22)))
    else
    (if (decide ((n13 : Int) < 0)) = true then
    (some ((.bool false), r11.2.1, (r11.2.2 + 22)))
    else
    (if (decide ((n13 : Int) > ((s6.2.1 : Nat) : Int))) = true then
    (some ((.bool false), r11.2.1, (r11.2.2 + 22)))
    else
    (if (!(((n13 : Int) == ((s6.2.1 : Nat) : Int)) == ((n10 : Int) == 0))) = true then
    (some ((.bool false), r11.2.1, (r11.2.2 + 22)))
    else
    (F11_J1' J J (callP Try.prog keepT n) Y n s6.1 s6.2.1 s6.2.2 s9.1 s9.2.1 s9.2.2 n10 r11.2.1 (r11.2.2 + 21))))) := by kernel_rfl

/-- quickset/quicksetkeep.MatBoth -/
theorem F11_eq (n : Nat) (Y : YldF) (x0a : Option (Nat × Nat)) (x0n : Nat) (x0c : Bool) (x1 : Int) (h : AHeap) (nx : Nat) : callP Try.prog keepT (n + 1) Y 11 [(.slice x0a x0n x0c), (.int .i64 x1)] h nx =
    ((callP Try.prog keepT n) Y 24 [(.int .i64 x1)] h (nx + 8)).bind fun r1 =>
    (asI .i64 r1.1).bind fun n2 =>
    ((callP Try.prog keepT n) Y 24 [(.int .i64 x1)] r1.2.1 r1.2.2).bind fun r3 =>
    (asI .i64 r3.1).bind fun n4 =>
    ((callP Try.prog keepT n) Y 23 [(.slice x0a x0n x0c), (.int .i64 n2), (.int .i64 n4)] r3.2.1 r3.2.2).bind fun r5 =>
    (asSl r5.1).bind fun s6 =>
    ((callP Try.prog keepT n) Y 32 [(.slice s6.1 s6.2.1 s6.2.2)] r5.2.1 (r5.2.2 + 7)).bind fun r7 =>
    (asTup 2 r7.1).bind fun d8 =>
    (asSl (d8.getD 0 .bad)).bind fun s9 =>
    (asI .i64 (d8.getD 1 .bad)).bind fun n10 =>
    ((callP Try.prog keepT n) Y 33 [(.slice s6.1 s6.2.1 s6.2.2)] r7.2.1 (r7.2.2 + 7)).bind fun r11 =>
    (asTup 2 r11.1).bind fun d12 =>
    (asI .i64 (d12.getD 0 .bad)).bind fun n13 =>
    (asI .i64 (d12.getD 1 .bad)).bind fun n14 =>
    if ((n14 : Int) != 0) = true then
    (some ((.bool false), r11.2.1, (r11.2.2 + 22)))
    else
    (if (decide ((n13 : Int) < 0)) = true then
    (some ((.bool false), r11.2.1, (r11.2.2 + 22)))
    else
    (if (decide ((n13 : Int) > ((s6.2.1 : Nat) : Int))) = true then
    (some ((.bool false), r11.2.1, (r11.2.2 + 22)))
    else
    (if (!(((n13 : Int) == ((s6.2.1 : Nat) : Int)) == ((n10 : Int) == 0))) = true then
    (some ((.bool false), r11.2.1, (r11.2.2 + 22)))
    else
    (F11_J1 (callP Try.prog keepT n) Y n s6.1 s6.2.1 s6.2.2 s9.1 s9.2.1 s9.2.2 n10 r11.2.1 (r11.2.2 + 21))))) := F11_eq' go1 n Y x0a x0n x0c x1 h nx

noncomputable def c12 : Code := (Try.f12.body).getD .skip

noncomputable def r12 : List ResultVar := Try.f12.results.toList

noncomputable def F12_J1' (W J : StepF (AV × AHeap × Nat) → StepF (AV × AHeap × Nat)) (call : YldF → CallF) (Y : YldF) (lf : Nat) (x7a : Option (Nat × Nat)) (x7n : Nat) (x7c : Bool) (x8a : Option (Nat × Nat)) (x8n : Nat) (x8c : Bool) (x9a : Option (Nat × Nat)) (x9n : Nat) (x9c : Bool) (h : AHeap) (nx : Nat) : Option (AV × AHeap × Nat) :=
  goK W J drawK (machOf Try.prog) call Y (keepT 12) lf c12 [1, 1, 1, 1, 1, 1, 1, 1] [] (retK (machOf Try.prog) ⟨c12, 126, r12, keepT 12⟩) ⟨126, mkL [(7, (.slice x7a x7n x7c)), (8, (.slice x8a x8n x8c)), (9, (.slice x9a x9n x9c))]⟩ h nx

noncomputable def F12_J1 (call : YldF → CallF) (Y : YldF) (lf : Nat) (x7a : Option (Nat × Nat)) (x7n : Nat) (x7c : Bool) (x8a : Option (Nat × Nat)) (x8n : Nat) (x8c : Bool) (x9a : Option (Nat × Nat)) (x9n : Nat) (x9c : Bool) (h : AHeap) (nx : Nat) : Option (AV × AHeap × Nat) := F12_J1' go1 go1 call Y lf x7a x7n x7c x8a x8n x8c x9a x9n x9c h nx

noncomputable def F12_J2' (W J : StepF (AV × AHeap × Nat) → StepF (AV × AHeap × Nat)) (call : YldF → CallF) (Y : YldF) (lf : Nat) (x17a : Option (Nat × Nat)) (x17n : Nat) (x17c : Bool) (x19a : Option (Nat × Nat)) (x19n : Nat) (x19c : Bool) (x21a : Option (Nat × Nat)) (x21n : Nat) (x21c : Bool) (x22 : Int) (h : AHeap) (nx : Nat) : Option (AV × AHeap × Nat) :=
  goK W J drawK (machOf Try.prog) call Y (keepT 12) lf c12 [1, 1, 1, 1, 1, 1, 1, 1, 1, 1, 1, 1] [] (retK (machOf Try.prog) ⟨c12, 126, r12, keepT 12⟩) ⟨126, mkL [(17, (.slice x17a x17n x17c)), (19, (.slice x19a x19n x19c)), (21, (.slice x21a x21n x21c)), (22, (.int .i64 x22))]⟩ h nx

noncomputable def F12_J2 (call : YldF → CallF) (Y : YldF) (lf : Nat) (x17a : Option (Nat × Nat)) (x17n : Nat) (x17c : Bool) (x19a : Option (Nat × Nat)) (x19n : Nat) (x19c : Bool) (x21a : Option (Nat × Nat)) (x21n : Nat) (x21c : Bool) (x22 : Int) (h : AHeap) (nx : Nat) : Option (AV × AHeap × Nat) := F12_J2' go1 go1 call Y lf x17a x17n x17c x19a x19n x19c x21a x21n x21c x22 h nx

theorem F12_J1_eq' (J : StepF (AV × AHeap × Nat) → StepF (AV × AHeap × Nat)) (call : YldF → CallF) (Y : YldF) (lf : Nat) (x7a : Option (Nat × Nat)) (x7n : Nat) (x7c : Bool) (x8a : Option (Nat × Nat)) (x8n : Nat) (x8c : Bool) (x9a : Option (Nat × Nat)) (x9n : Nat) (x9c : Bool) (h : AHeap) (nx : Nat) : F12_J1' go1 J call Y lf x7a x7n x7c x8a x8n x8c x9a x9n x9c h nx =
    (call Y 32 [(.slice x7a x7n x7c)] h (nx + 7)).bind fun r1 =>
    (asTup 2 r1.1).bind fun d2 =>
    (asSl (d2.getD 0 .bad)).bind fun s3 =>
    (asI .i64 (d2.getD 1 .bad)).bind fun n4 =>
    (call Y 32 [(.slice x8a x8n x8c)] r1.2.1 (r1.2.2 + 7)).bind fun r5 =>
    (asTup 2 r5.1).bind fun d6 =>
    (asSl (d6.getD 0 .bad)).bind fun s7 =>
    (asI .i64 (d6.getD 1 .bad)).bind fun n8 =>
    (call Y 32 [(.slice x9a x9n x9c)] r5.2.1 (r5.2.2 + 7)).bind fun r9 =>
    (asTup 2 r9.1).bind fun d10 =>
    (asSl (d10.getD 0 .bad)).bind fun s11 =>
    (asI .i64 (d10.getD 1 .bad)).bind fun n12 =>
    if ((n4 : Int) != 0) = true then
    (some ((.bool ((n12 : Int) == 10)), r9.2.1, (r9.2.2 + 9)))
    else
    (if ((n8 : Int) != 0) = true then
    (some ((.bool ((n12 : Int) == 10)), r9.2.1, (r9.2.2 + 9)))
    else
    (F12_J2' J J call Y lf s3.1 s3.2.1 s3.2.2 s7.1 s7.2.1 s7.2.2 s11.1 s11.2.1 s11.2.2 n12 r9.2.1 (r9.2.2 + 6))) := by kernel_rfl

theorem F12_J1_eq (call : YldF → CallF) (Y : YldF) (lf : Nat) (x7a : Option (Nat × Nat)) (x7n : Nat) (x7c : Bool) (x8a : Option (Nat × Nat)) (x8n : Nat) (x8c : Bool) (x9a : Option (Nat × Nat)) (x9n : Nat) (x9c : Bool) (h : AHeap) (nx : Nat) : F12_J1 call Y lf x7a x7n x7c x8a x8n x8c x9a x9n x9c h nx =
    (call Y 32 [(.slice x7a x7n x7c)] h (nx + 7)).bind fun r1 =>
    (asTup 2 r1.1).bind fun d2 =>
    (asSl (d2.getD 0 .bad)).bind fun s3 =>
    (asI .i64 (d2.getD 1 .bad)).bind fun n4 =>
    (call Y 32 [(.slice x8a x8n x8c)] r1.2.1 (r1.2.2 + 7)).bind fun r5 =>
    (asTup 2 r5.1).bind fun d6 =>
    (asSl (d6.getD 0 .bad)).bind fun s7 =>
    (asI .i64 (d6.getD 1 .bad)).bind fun n8 =>
    (call Y 32 [(.slice x9a x9n x9c)] r5.2.1 (r5.2.2 + 7)).bind fun r9 =>
    (asTup 2 r9.1).bind fun d10 =>
    (asSl (d10.getD 0 .bad)).bind fun s11 =>
    (asI .i64 (d10.getD 1 .bad)).bind fun n12 =>
    if ((n4 : Int) != 0) = true then
    (some ((.bool ((n12 : Int) == 10)), r9.2.1, (r9.2.2 + 9)))
    else
    (if ((n8 : Int) != 0) = true then
    (some ((.bool ((n12 : Int) == 10)), r9.2.1, (r9.2.2 + 9)))
    else
    (F12_J2 call Y lf s3.1 s3.2.1 s3.2.2 s7.1 s7.2.1 s7.2.2 s11.1 s11.2.1 s11.2.2 n12 r9.2.1 (r9.2.2 + 6))) := F12_J1_eq' go1 call Y lf x7a x7n x7c x8a x8n x8c x9a x9n x9c h nx

theorem F12_J2_eq' (J : StepF (AV × AHeap × Nat) → StepF (AV × AHeap × Nat)) (call : YldF → CallF) (Y : YldF) (lf : Nat) (x17a : Option (Nat × Nat)) (x17n : Nat) (x17c : Bool) (x19a : Option (Nat × Nat)) (x19n : Nat) (x19c : Bool) (x21a : Option (Nat × Nat)) (x21n : Nat) (x21c : Bool) (x22 : Int) (h : AHeap) (nx : Nat) : F12_J2' go1 J call Y lf x17a x17n x17c x19a x19n x19c x21a x21n x21c x22 h nx =
    (call Y 25 [(.slice x19a x19n x19c), (.slice x17a x17n x17c)] h (nx + 8)).bind fun r1 =>
    (asTup 2 r1.1).bind fun d2 =>
    (asSl (d2.getD 0 .bad)).bind fun s3 =>
    (asI .i64 (d2.getD 1 .bad)).bind fun n4 =>
    if ((x22 : Int) == 0) = true then
    (if ((n4 : Int) == 0) = true then
    ((call Y 26 [(.slice s3.1 s3.2.1 s3.2.2), (.slice x21a x21n x21c)] r1.2.1 (r1.2.2 + 12)).bind fun r5 =>
    (asB r5.1).bind fun t6 =>
    some ((.bool t6), r5.2.1, r5.2.2))
    else
    (some ((.bool false), r1.2.1, (r1.2.2 + 12))))
    else
    (some ((.bool false), r1.2.1, (r1.2.2 + 12))) := by kernel_rfl

theorem F12_J2_eq (call : YldF → CallF) (Y : YldF) (lf : Nat) (x17a : Option (Nat × Nat)) (x17n : Nat) (x17c : Bool) (x19a : Option (Nat × Nat)) (x19n : Nat) (x19c : Bool) (x21a : Option (Nat × Nat)) (x21n : Nat) (x21c : Bool) (x22 : Int) (h : AHeap) (nx : Nat) : F12_J2 call Y lf x17a x17n x17c x19a x19n x19c x21a x21n x21c x22 h nx =
    (call Y 25 [(.slice x19a x19n x19c), (.slice x17a x17n x17c)] h (nx + 8)).bind fun r1 =>
    (asTup 2 r1.1).bind fun d2 =>
    (asSl (d2.getD 0 .bad)).bind fun s3 =>
    (asI .i64 (d2.getD 1 .bad)).bind fun n4 =>
    if ((x22 : Int) == 0) = true then
    (if ((n4 : Int) == 0) = true then
    ((call Y 26 [(.slice s3.1 s3.2.1 s3.2.2), (.slice x21a x21n x21c)] r1.2.1 (r1.2.2 + 12)).bind fun r5 =>
    (asB r5.1).bind fun t6 =>
    some ((.bool t6), r5.2.1, r5.2.2))
    else
    (some ((.bool false), r1.2.1, (r1.2.2 + 12))))
    else
    (some ((.bool false), r1.2.1, (r1.2.2 + 12))) := F12_J2_eq' go1 call Y lf x17a x17n x17c x19a x19n x19c x21a x21n x21c x22 h nx

theorem F12_eq' (J : StepF (AV × AHeap × Nat) → StepF (AV × AHeap × Nat)) (n : Nat) (Y : YldF) (x0a : Option (Nat × Nat)) (x0n : Nat) (x0c : Bool) (x1a : Option (Nat × Nat)) (x1n : Nat) (x1c : Bool) (x2 : Int) (h : AHeap) (nx : Nat) : rootJ J Try.prog keepT (callP Try.prog keepT n) Y n 12 [(.slice x0a x0n x0c), (.slice x1a x1n x1c), (.int .i64 x2)] h nx =
    ((callP Try.prog keepT n) Y 24 [(.int .i64 x2)] h (nx + 8)).bind fun r1 =>
    (asI .i64 r1.1).bind fun n2 =>
    ((callP Try.prog keepT n) Y 24 [(.int .i64 x2)] r1.2.1 r1.2.2).bind fun r3 =>
    (asI .i64 r3.1).bind fun n4 =>
    ((callP Try.prog keepT n) Y 23 [(.slice x0a x0n x0c), (.int .i64 n2), (.int .i64 n4)] r3.2.1 r3.2.2).bind fun r5 =>
    (asSl r5.1).bind fun s6 =>
    ((callP Try.prog keepT n) Y 24 [(.int .i64 x2)] r5.2.1 (r5.2.2 + 7)).bind fun r7 =>
    (asI .i64 r7.1).bind fun n8 =>
    ((callP Try.prog keepT n) Y 24 [(.int .i64 x2)] r7.2.1 r7.2.2).bind fun r9 =>
    (asI .i64 r9.1).bind fun n10 =>
    ((callP Try.prog keepT n) Y 23 [(.slice x1a x1n x1c), (.int .i64 n8), (.int .i64 n10)] r9.2.1 r9.2.2).bind fun r11 =>
    (asSl r11.1).bind fun s12 =>
    ((callP Try.prog keepT n) Y 25 [(.slice s6.1 s6.2.1 s6.2.2), (.slice s12.1 s12.2.1 s12.2.2)] r11.2.1 (r11.2.2 + 8)).bind fun r13 =>
    (asTup 2 r13.1).bind fun d14 =>
    (asSl (d14.getD 0 .bad)).bind fun s15 =>
    (asI .i64 (d14.getD 1 .bad)).bind fun n16 =>
    ((callP Try.prog keepT n) Y 33 [(.slice s6.1 s6.2.1 s6.2.2)] r13.2.1 (r13.2.2 + 7)).bind fun r17 =>
    (asTup 2 r17.1).bind fun d18 =>
    (asI .i64 (d18.getD 0 .bad)).bind fun n19 =>
    (asI .i64 (d18.getD 1 .bad)).bind fun n20 =>
    ((callP Try.prog keepT n) Y 33 [(.slice s12.1 s12.2.1 s12.2.2)] r17.2.1 (r17.2.2 + 7)).bind fun r21 =>
    (asTup 2 r21.1).bind fun d22 =>
    (asI .i64 (d22.getD 0 .bad)).bind fun n23 =>
    (asI .i64 (d22.getD 1 .bad)).bind fun n24 =>
    ((callP Try.prog keepT n) Y 33 [(.slice s15.1 s15.2.1 s15.2.2)] r21.2.1 (r21.2.2 + 7)).bind fun r25 =>
    (asTup 2 r25.1).bind fun d26 =>
    (asI .i64 (d26.getD 0 .bad)).bind fun n27 =>
    (asI .i64 (d26.getD 1 .bad)).bind fun n28 =>
    if ((n16 : Int) != 0) = true then
    (some ((.bool false), r25.2.1, (r25.2.2 + 29)))
    else
    (if ((n20 : Int) != 0) = true then
    (some ((.bool false), r25.2.1, (r25.2.2 + 29)))
    else
    (if ((n24 : Int) != 0) = true then
    (some ((.bool false), r25.2.1, (r25.2.2 + 29)))
    else
    (if ((n28 : Int) != 0) = true then
    (some ((.bool false), r25.2.1, (r25.2.2 + 29)))
    else
    (if (decide ((n27 : Int) > (if n23 < n19 then n23 else n19))) = true then
    (some ((.bool false), r25.2.1, (r25.2.2 + 29)))
    else
    (if ((((s15.2.1 : Nat) : Int) : Int) != ((s6.2.1 : Nat) : Int)) = true then
    (some ((.bool false), r25.2.1, (r25.2.2 + 29)))
    else
    (F12_J1' J J (callP Try.prog keepT n) Y n s6.1 s6.2.1 s6.2.2 s12.1 s12.2.1 s12.2.2 s15.1 s15.2.1 s15.2.2 r25.2.1 (r25.2.2 + 28))))))) := by kernel_rfl

/-- quickset/quicksetkeep.MatProduct -/
theorem F12_eq (n : Nat) (Y : YldF) (x0a : Option (Nat × Nat)) (x0n : Nat) (x0c : Bool) (x1a : Option (Nat × Nat)) (x1n : Nat) (x1c : Bool) (x2 : Int) (h : AHeap) (nx : Nat) : callP Try.prog keepT (n + 1) Y 12 [(.slice x0a x0n x0c), (.slice x1a x1n x1c), (.int .i64 x2)] h nx =
    ((callP Try.prog keepT n) Y 24 [(.int .i64 x2)] h (nx + 8)).bind fun r1 =>
    (asI .i64 r1.1).bind fun n2 =>
    ((callP Try.prog keepT n) Y 24 [(.int .i64 x2)] r1.2.1 r1.2.2).bind fun r3 =>
    (asI .i64 r3.1).bind fun n4 =>
    ((callP Try.prog keepT n) Y 23 [(.slice x0a x0n x0c), (.int .i64 n2), (.int .i64 n4)] r3.2.1 r3.2.2).bind fun r5 =>
    (asSl r5.1).bind fun s6 =>
    ((callP Try.prog keepT n) Y 24 [(.int .i64 x2)] r5.2.1 (r5.2.2 + 7)).bind fun r7 =>
    (asI .i64 r7.1).bind fun n8 =>
    ((callP Try.prog keepT n) Y 24 [(.int .i64 x2)] r7.2.1 r7.2.2).bind fun r9 =>
    (asI .i64 r9.1).bind fun n10 =>
    ((callP Try.prog keepT n) Y 23 [(.slice x1a x1n x1c), (.int .i64 n8), (.int .i64 n10)] r9.2.1 r9.2.2).bind fun r11 =>
    (asSl r11.1).bind fun s12 =>
    ((callP Try.prog keepT n) Y 25 [(.slice s6.1 s6.2.1 s6.2.2), (.slice s12.1 s12.2.1 s12.2.2)] r11.2.1 (r11.2.2 + 8)).bind fun r13 =>
    (asTup 2 r13.1).bind fun d14 =>
    (asSl (d14.getD 0 .bad)).bind fun s15 =>
    (asI .i64 (d14.getD 1 .bad)).bind fun n16 =>
    ((callP Try.prog keepT n) Y 33 [(.slice s6.1 s6.2.1 s6.2.2)] r13.2.1 (r13.2.2 + 7)).bind fun r17 =>
    (asTup 2 r17.1).bind fun d18 =>
    (asI .i64 (d18.getD 0 .bad)).bind fun n19 =>
    (asI .i64 (d18.getD 1 .bad)).bind fun n20 =>
    ((callP Try.prog keepT n) Y 33 [(.slice s12.1 s12.2.1 s12.2.2)] r17.2.1 (r17.2.2 + 7)).bind fun r21 =>
    (asTup 2 r21.1).bind fun d22 =>
    (asI .i64 (d22.getD 0 .bad)).bind fun n23 =>
    (asI .i64 (d22.getD 1 .bad)).bind fun n24 =>
    ((callP Try.prog keepT n) Y 33 [(.slice s15.1 s15.2.1 s15.2.2)] r21.2.1 (r21.2.2 + 7)).bind fun r25 =>
    (asTup 2 r25.1).bind fun d26 =>
    (asI .i64 (d26.getD 0 .bad)).bind fun n27 =>
    (asI .i64 (d26.getD 1 .bad)).bind fun n28 =>
    if ((n16 : Int) != 0) = true then
    (some ((.bool false), r25.2.1, (r25.2.2 + 29)))
    else
    (if ((n20 : Int) != 0) = true then
    (some ((.bool false), r25.2.1, (r25.2.2 + 29)))
    else
    (if ((n24 : Int) != 0) = true then
    (some ((.bool false), r25.2.1, (r25.2.2 + 29)))
    else
    (if ((n28 : Int) != 0) = true then
    (some ((.bool false), r25.2.1, (r25.2.2 + 29)))
    else
    (if (decide ((n27 : Int) > (if n23 < n19 then n23 else n19))) = true then
    (some ((.bool false), r25.2.1, (r25.2.2 + 29)))
    else
    (if ((((s15.2.1 : Nat) : Int) : Int) != ((s6.2.1 : Nat) : Int)) = true then
    (some ((.bool false), r25.2.1, (r25.2.2 + 29)))
    else
    (F12_J1 (callP Try.prog keepT n) Y n s6.1 s6.2.1 s6.2.2 s12.1 s12.2.1 s12.2.2 s15.1 s15.2.1 s15.2.2 r25.2.1 (r25.2.2 + 28))))))) := F12_eq' go1 n Y x0a x0n x0c x1a x1n x1c x2 h nx

noncomputable def c13 : Code := (Try.f13.body).getD .skip

noncomputable def r13 : List ResultVar := Try.f13.results.toList

noncomputable def F13_J1' (W J : StepF (AV × AHeap × Nat) → StepF (AV × AHeap × Nat)) (call : YldF → CallF) (Y : YldF) (lf : Nat) (x3a : Option (Nat × Nat)) (x3n : Nat) (x3c : Bool) (x4a : Option (Nat × Nat)) (x4n : Nat) (x4c : Bool) (x12 : Int) (x13a : Option (Nat × Nat)) (x13n : Nat) (x13c : Bool) (x14a : Option (Nat × Nat)) (x14n : Nat) (x14c : Bool) (h : AHeap) (nx : Nat) : Option (AV × AHeap × Nat) :=
  goK W J drawK (machOf Try.prog) call Y (keepT 13) lf c13 [1, 1, 1, 1, 1, 1] [] (retK (machOf Try.prog) ⟨c13, 84, r13, keepT 13⟩) ⟨84, mkL [(3, (.slice x3a x3n x3c)), (4, (.slice x4a x4n x4c)), (12, (.int .i64 x12)), (13, (.slice x13a x13n x13c)), (14, (.slice x14a x14n x14c))]⟩ h nx

noncomputable def F13_J1 (call : YldF → CallF) (Y : YldF) (lf : Nat) (x3a : Option (Nat × Nat)) (x3n : Nat) (x3c : Bool) (x4a : Option (Nat × Nat)) (x4n : Nat) (x4c : Bool) (x12 : Int) (x13a : Option (Nat × Nat)) (x13n : Nat) (x13c : Bool) (x14a : Option (Nat × Nat)) (x14n : Nat) (x14c : Bool) (h : AHeap) (nx : Nat) : Option (AV × AHeap × Nat) := F13_J1' go1 go1 call Y lf x3a x3n x3c x4a x4n x4c x12 x13a x13n x13c x14a x14n x14c h nx

noncomputable def F13_L2' (W J : StepF (AV × AHeap × Nat) → StepF (AV × AHeap × Nat)) (call : YldF → CallF) (Y : YldF) (lf : Nat) (n0 : Nat) (x4a : Option (Nat × Nat)) (x4n : Nat) (x4c : Bool) (x12 : Int) (x16a : Option (Nat × Nat)) (x16n : Nat) (x16c : Bool) (x17a : Option (Nat × Nat)) (x17n : Nat) (x17c : Bool) (x18a : Option (Nat × Nat)) (x18n : Nat) (x18c : Bool) (x19 : Int) (h : AHeap) (nx : Nat) : Option (AV × AHeap × Nat) :=
  goK W J drawK (machOf Try.prog) call Y (keepT 13) lf c13 [1, 1, 1, 1, 1, 1, 1, 1, 1, 0, 1, 0, 9] [n0] (retK (machOf Try.prog) ⟨c13, 84, r13, keepT 13⟩) ⟨84, mkL [(4, (.slice x4a x4n x4c)), (12, (.int .i64 x12)), (16, (.slice x16a x16n x16c)), (17, (.slice x17a x17n x17c)), (18, (.slice x18a x18n x18c)), (19, (.int .i64 x19))]⟩ h nx

noncomputable def F13_L2 (call : YldF → CallF) (Y : YldF) (lf : Nat) (n0 : Nat) (x4a : Option (Nat × Nat)) (x4n : Nat) (x4c : Bool) (x12 : Int) (x16a : Option (Nat × Nat)) (x16n : Nat) (x16c : Bool) (x17a : Option (Nat × Nat)) (x17n : Nat) (x17c : Bool) (x18a : Option (Nat × Nat)) (x18n : Nat) (x18c : Bool) (x19 : Int) (h : AHeap) (nx : Nat) : Option (AV × AHeap × Nat) := F13_L2' go1 go1 call Y lf n0 x4a x4n x4c x12 x16a x16n x16c x17a x17n x17c x18a x18n x18c x19 h nx

theorem F13_J1_eq' (J : StepF (AV × AHeap × Nat) → StepF (AV × AHeap × Nat)) (call : YldF → CallF) (Y : YldF) (lf : Nat) (x3a : Option (Nat × Nat)) (x3n : Nat) (x3c : Bool) (x4a : Option (Nat × Nat)) (x4n : Nat) (x4c : Bool) (x12 : Int) (x13a : Option (Nat × Nat)) (x13n : Nat) (x13c : Bool) (x14a : Option (Nat × Nat)) (x14n : Nat) (x14c : Bool) (h : AHeap) (nx : Nat) : F13_J1' go1 J call Y lf x3a x3n x3c x4a x4n x4c x12 x13a x13n x13c x14a x14n x14c h nx =
    (srcS h x13a x13n 1).bind fun q1 =>
    (appD h none 0 false 1 24 (nx + 1) q1).bind fun e2 =>
    let h3 := AHeap.puts h e2.sets
    (srcS h3 x14a x14n 1).bind fun q4 =>
    (appD h3 e2.a e2.n e2.c 1 24 (nx + 3) q4).bind fun e5 =>
    let h6 := AHeap.puts h3 e5.sets
    (call Y 35 [(.slice x3a x3n x3c), (.int .i64 x12), (.int .i64 ((e5.n : Nat) : Int))] h6 (nx + 11)).bind fun r7 =>
    (asSl r7.1).bind fun s8 =>
    (srcS r7.2.1 e5.a e5.n 1).bind fun q9 =>
    (appD r7.2.1 none 0 false 1 24 (r7.2.2 + 1) q9).bind fun e10 =>
    let h11 := AHeap.puts r7.2.1 e10.sets
    F13_L2' J J call Y lf lf x4a x4n x4c x12 e5.a e5.n e5.c s8.1 s8.2.1 s8.2.2 e10.a e10.n e10.c 0 h11 (r7.2.2 + 4) := by kernel_rfl

theorem F13_J1_eq (call : YldF → CallF) (Y : YldF) (lf : Nat) (x3a : Option (Nat × Nat)) (x3n : Nat) (x3c : Bool) (x4a : Option (Nat × Nat)) (x4n : Nat) (x4c : Bool) (x12 : Int) (x13a : Option (Nat × Nat)) (x13n : Nat) (x13c : Bool) (x14a : Option (Nat × Nat)) (x14n : Nat) (x14c : Bool) (h : AHeap) (nx : Nat) : F13_J1 call Y lf x3a x3n x3c x4a x4n x4c x12 x13a x13n x13c x14a x14n x14c h nx =
    (srcS h x13a x13n 1).bind fun q1 =>
    (appD h none 0 false 1 24 (nx + 1) q1).bind fun e2 =>
    let h3 := AHeap.puts h e2.sets
    (srcS h3 x14a x14n 1).bind fun q4 =>
    (appD h3 e2.a e2.n e2.c 1 24 (nx + 3) q4).bind fun e5 =>
    let h6 := AHeap.puts h3 e5.sets
    (call Y 35 [(.slice x3a x3n x3c), (.int .i64 x12), (.int .i64 ((e5.n : Nat) : Int))] h6 (nx + 11)).bind fun r7 =>
    (asSl r7.1).bind fun s8 =>
    (srcS r7.2.1 e5.a e5.n 1).bind fun q9 =>
    (appD r7.2.1 none 0 false 1 24 (r7.2.2 + 1) q9).bind fun e10 =>
    let h11 := AHeap.puts r7.2.1 e10.sets
    F13_L2 call Y lf lf x4a x4n x4c x12 e5.a e5.n e5.c s8.1 s8.2.1 s8.2.2 e10.a e10.n e10.c 0 h11 (r7.2.2 + 4) := F13_J1_eq' go1 call Y lf x3a x3n x3c x4a x4n x4c x12 x13a x13n x13c x14a x14n x14c h nx

theorem F13_L2_eq' (J : StepF (AV × AHeap × Nat) → StepF (AV × AHeap × Nat)) (call : YldF → CallF) (Y : YldF) (lf : Nat) (n0 : Nat) (x4a : Option (Nat × Nat)) (x4n : Nat) (x4c : Bool) (x12 : Int) (x16a : Option (Nat × Nat)) (x16n : Nat) (x16c : Bool) (x17a : Option (Nat × Nat)) (x17n : Nat) (x17c : Bool) (x18a : Option (Nat × Nat)) (x18n : Nat) (x18c : Bool) (x19 : Int) (h : AHeap) (nx : Nat) : F13_L2' go1 J call Y lf (n0 + 1) x4a x4n x4c x12 x16a x16n x16c x17a x17n x17c x18a x18n x18c x19 h nx =
    if (decide ((x19 : Int) < ((x17n : Nat) : Int))) = true then
    ((x17a).bind fun p1 =>
    if 0 ≤ (x19 : Int) ∧ x19 < ((x17n : Nat) : Int) then
    ((ldA h p1.1 (p1.2 + Int.toNat x19 * 1)).bind fun v2 =>
    (asI .i64 v2).bind fun n3 =>
    (srcS h x4a x4n 1).bind fun q4 =>
    (appD h none 0 false 1 1 (nx + 10) q4).bind fun e5 =>
    let h6 := AHeap.puts h e5.sets
    (x18a).bind fun p7 =>
    if 0 ≤ (n3 : Int) ∧ n3 < ((x18n : Nat) : Int) then
    ((stA h6 p7.1 (p7.2 + Int.toNat n3 * 1) (.slice e5.a e5.n e5.c) 1).bind fun b8 =>
    let h9 := AHeap.put h6 p7.1 (some b8)
    ifApart [((idsOf e5.sets), [p1.1])]
    (F13_L2' J J call Y lf n0 x4a x4n x4c x12 x16a x16n x16c x17a x17n x17c x18a x18n x18c (wrapA .i64 (x19 + 1)) h9 (nx + 16)))
    else none)
    else none)
    else
    ((call Y 36 [(.slice x18a x18n x18c), (.int .i64 x12), (.slice x17a x17n x17c)] h (nx + 13)).bind fun r10 =>
    (asTup 2 r10.1).bind fun d11 =>
    (asSl (d11.getD 0 .bad)).bind fun s12 =>
    (asI .i64 (d11.getD 1 .bad)).bind fun n13 =>
    if ((n13 : Int) == 0) = true then
    ((call Y 37 [(.slice s12.1 s12.2.1 s12.2.2), (.slice x16a x16n x16c)] r10.2.1 (r10.2.2 + 8)).bind fun r14 =>
    (asB r14.1).bind fun t15 =>
    some ((.bool t15), r14.2.1, r14.2.2))
    else
    (some ((.bool false), r10.2.1, (r10.2.2 + 8)))) := by kernel_rfl

theorem F13_L2_eq (call : YldF → CallF) (Y : YldF) (lf : Nat) (n0 : Nat) (x4a : Option (Nat × Nat)) (x4n : Nat) (x4c : Bool) (x12 : Int) (x16a : Option (Nat × Nat)) (x16n : Nat) (x16c : Bool) (x17a : Option (Nat × Nat)) (x17n : Nat) (x17c : Bool) (x18a : Option (Nat × Nat)) (x18n : Nat) (x18c : Bool) (x19 : Int) (h : AHeap) (nx : Nat) : F13_L2 call Y lf (n0 + 1) x4a x4n x4c x12 x16a x16n x16c x17a x17n x17c x18a x18n x18c x19 h nx =
    if (decide ((x19 : Int) < ((x17n : Nat) : Int))) = true then
    ((x17a).bind fun p1 =>
    if 0 ≤ (x19 : Int) ∧ x19 < ((x17n : Nat) : Int) then
    ((ldA h p1.1 (p1.2 + Int.toNat x19 * 1)).bind fun v2 =>
    (asI .i64 v2).bind fun n3 =>
    (srcS h x4a x4n 1).bind fun q4 =>
    (appD h none 0 false 1 1 (nx + 10) q4).bind fun e5 =>
    let h6 := AHeap.puts h e5.sets
    (x18a).bind fun p7 =>
    if 0 ≤ (n3 : Int) ∧ n3 < ((x18n : Nat) : Int) then
    ((stA h6 p7.1 (p7.2 + Int.toNat n3 * 1) (.slice e5.a e5.n e5.c) 1).bind fun b8 =>
    let h9 := AHeap.put h6 p7.1 (some b8)
    ifApart [((idsOf e5.sets), [p1.1])]
    (F13_L2 call Y lf n0 x4a x4n x4c x12 x16a x16n x16c x17a x17n x17c x18a x18n x18c (wrapA .i64 (x19 + 1)) h9 (nx + 16)))
    else none)
    else none)
    else
    ((call Y 36 [(.slice x18a x18n x18c), (.int .i64 x12), (.slice x17a x17n x17c)] h (nx + 13)).bind fun r10 =>
    (asTup 2 r10.1).bind fun d11 =>
    (asSl (d11.getD 0 .bad)).bind fun s12 =>
    (asI .i64 (d11.getD 1 .bad)).bind fun n13 =>
    if ((n13 : Int) == 0) = true then
    ((call Y 37 [(.slice s12.1 s12.2.1 s12.2.2), (.slice x16a x16n x16c)] r10.2.1 (r10.2.2 + 8)).bind fun r14 =>
    (asB r14.1).bind fun t15 =>
    some ((.bool t15), r14.2.1, r14.2.2))
    else
    (some ((.bool false), r10.2.1, (r10.2.2 + 8)))) := F13_L2_eq' go1 call Y lf n0 x4a x4n x4c x12 x16a x16n x16c x17a x17n x17c x18a x18n x18c x19 h nx

theorem F13_L2_zero (call : YldF → CallF) (Y : YldF) (lf : Nat) (x4a : Option (Nat × Nat)) (x4n : Nat) (x4c : Bool) (x12 : Int) (x16a : Option (Nat × Nat)) (x16n : Nat) (x16c : Bool) (x17a : Option (Nat × Nat)) (x17n : Nat) (x17c : Bool) (x18a : Option (Nat × Nat)) (x18n : Nat) (x18c : Bool) (x19 : Int) (h : AHeap) (nx : Nat) : F13_L2 call Y lf 0 x4a x4n x4c x12 x16a x16n x16c x17a x17n x17c x18a x18n x18c x19 h nx = none := by kernel_rfl

theorem F13_eq' (J : StepF (AV × AHeap × Nat) → StepF (AV × AHeap × Nat)) (n : Nat) (Y : YldF) (x0a : Option (Nat × Nat)) (x0n : Nat) (x0c : Bool) (x1 : Int) (x2 : Int) (x3a : Option (Nat × Nat)) (x3n : Nat) (x3c : Bool) (x4a : Option (Nat × Nat)) (x4n : Nat) (x4c : Bool) (h : AHeap) (nx : Nat) : rootJ J Try.prog keepT (callP Try.prog keepT n) Y n 13 [(.slice x0a x0n x0c), (.int .i64 x1), (.int .i64 x2), (.slice x3a x3n x3c), (.slice x4a x4n x4c)] h nx =
    ((callP Try.prog keepT n) Y 15 [(.int .i64 x1), (.int .i64 12)] h (nx + 5)).bind fun r1 =>
    (asI .i64 r1.1).bind fun n2 =>
    ((callP Try.prog keepT n) Y 15 [(.int .i64 x2), (.int .i64 3)] r1.2.1 (r1.2.2 + 4)).bind fun r3 =>
    (asI .i64 r3.1).bind fun n4 =>
    ((callP Try.prog keepT n) Y 29 [(.slice x0a x0n x0c), (.int .i64 (wrapA .i64 (1 + n2)))] r3.2.1 (r3.2.2 + 4)).bind fun r5 =>
    (asSl r5.1).bind fun s6 =>
    ((callP Try.prog keepT n) Y 30 [(.slice s6.1 s6.2.1 s6.2.2), (.int .i64 (wrapA .i64 (1 + n4)))] r5.2.1 (r5.2.2 + 8)).bind fun r7 =>
    (asTup 2 r7.1).bind fun d8 =>
    (asSl (d8.getD 0 .bad)).bind fun s9 =>
    (asI .i64 (d8.getD 1 .bad)).bind fun n10 =>
    if ((n10 : Int) != 0) = true then
    (some ((.bool false), r7.2.1, (r7.2.2 + 9)))
    else
    (if ((((s9.2.1 : Nat) : Int) : Int) != (wrapA .i64 (1 + n4))) = true then
    (some ((.bool false), r7.2.1, (r7.2.2 + 9)))
    else
    (F13_J1' J J (callP Try.prog keepT n) Y n x3a x3n x3c x4a x4n x4c (wrapA .i64 (1 + n4)) s6.1 s6.2.1 s6.2.2 s9.1 s9.2.1 s9.2.2 r7.2.1 (r7.2.2 + 8))) := by kernel_rfl

/-- quickset/quicksetkeep.RebuildAll -/
theorem F13_eq (n : Nat) (Y : YldF) (x0a : Option (Nat × Nat)) (x0n : Nat) (x0c : Bool) (x1 : Int) (x2 : Int) (x3a : Option (Nat × Nat)) (x3n : Nat) (x3c : Bool) (x4a : Option (Nat × Nat)) (x4n : Nat) (x4c : Bool) (h : AHeap) (nx : Nat) : callP Try.prog keepT (n + 1) Y 13 [(.slice x0a x0n x0c), (.int .i64 x1), (.int .i64 x2), (.slice x3a x3n x3c), (.slice x4a x4n x4c)] h nx =
    ((callP Try.prog keepT n) Y 15 [(.int .i64 x1), (.int .i64 12)] h (nx + 5)).bind fun r1 =>
    (asI .i64 r1.1).bind fun n2 =>
    ((callP Try.prog keepT n) Y 15 [(.int .i64 x2), (.int .i64 3)] r1.2.1 (r1.2.2 + 4)).bind fun r3 =>
    (asI .i64 r3.1).bind fun n4 =>
    ((callP Try.prog keepT n) Y 29 [(.slice x0a x0n x0c), (.int .i64 (wrapA .i64 (1 + n2)))] r3.2.1 (r3.2.2 + 4)).bind fun r5 =>
    (asSl r5.1).bind fun s6 =>
    ((callP Try.prog keepT n) Y 30 [(.slice s6.1 s6.2.1 s6.2.2), (.int .i64 (wrapA .i64 (1 + n4)))] r5.2.1 (r5.2.2 + 8)).bind fun r7 =>
    (asTup 2 r7.1).bind fun d8 =>
    (asSl (d8.getD 0 .bad)).bind fun s9 =>
    (asI .i64 (d8.getD 1 .bad)).bind fun n10 =>
    if ((n10 : Int) != 0) = true then
    (some ((.bool false), r7.2.1, (r7.2.2 + 9)))
    else
    (if ((((s9.2.1 : Nat) : Int) : Int) != (wrapA .i64 (1 + n4))) = true then
    (some ((.bool false), r7.2.1, (r7.2.2 + 9)))
    else
    (F13_J1 (callP Try.prog keepT n) Y n x3a x3n x3c x4a x4n x4c (wrapA .i64 (1 + n4)) s6.1 s6.2.1 s6.2.2 s9.1 s9.2.1 s9.2.2 r7.2.1 (r7.2.2 + 8))) := F13_eq' go1 n Y x0a x0n x0c x1 x2 x3a x3n x3c x4a x4n x4c h nx

noncomputable def c14 : Code := (Try.f14.body).getD .skip

noncomputable def r14 : List ResultVar := Try.f14.results.toList

noncomputable def F14_J1' (W J : StepF (AV × AHeap × Nat) → StepF (AV × AHeap × Nat)) (call : YldF → CallF) (Y : YldF) (lf : Nat) (x3a : Option (Nat × Nat)) (x3n : Nat) (x3c : Bool) (x10 : Int) (x11a : Option (Nat × Nat)) (x11n : Nat) (x11c : Bool) (x12a : Option (Nat × Nat)) (x12n : Nat) (x12c : Bool) (h : AHeap) (nx : Nat) : Option (AV × AHeap × Nat) :=
  goK W J drawK (machOf Try.prog) call Y (keepT 14) lf c14 [1, 1, 1, 1, 1, 1] [] (retK (machOf Try.prog) ⟨c14, 75, r14, keepT 14⟩) ⟨75, mkL [(3, (.slice x3a x3n x3c)), (10, (.int .i64 x10)), (11, (.slice x11a x11n x11c)), (12, (.slice x12a x12n x12c))]⟩ h nx

noncomputable def F14_J1 (call : YldF → CallF) (Y : YldF) (lf : Nat) (x3a : Option (Nat × Nat)) (x3n : Nat) (x3c : Bool) (x10 : Int) (x11a : Option (Nat × Nat)) (x11n : Nat) (x11c : Bool) (x12a : Option (Nat × Nat)) (x12n : Nat) (x12c : Bool) (h : AHeap) (nx : Nat) : Option (AV × AHeap × Nat) := F14_J1' go1 go1 call Y lf x3a x3n x3c x10 x11a x11n x11c x12a x12n x12c h nx

theorem F14_J1_eq' (J : StepF (AV × AHeap × Nat) → StepF (AV × AHeap × Nat)) (call : YldF → CallF) (Y : YldF) (lf : Nat) (x3a : Option (Nat × Nat)) (x3n : Nat) (x3c : Bool) (x10 : Int) (x11a : Option (Nat × Nat)) (x11n : Nat) (x11c : Bool) (x12a : Option (Nat × Nat)) (x12n : Nat) (x12c : Bool) (h : AHeap) (nx : Nat) : F14_J1' go1 J call Y lf x3a x3n x3c x10 x11a x11n x11c x12a x12n x12c h nx =
    (srcS h x11a x11n 1).bind fun q1 =>
    (appD h none 0 false 1 24 (nx + 1) q1).bind fun e2 =>
    let h3 := AHeap.puts h e2.sets
    (srcS h3 x12a x12n 1).bind fun q4 =>
    (appD h3 e2.a e2.n e2.c 1 24 (nx + 3) q4).bind fun e5 =>
    let h6 := AHeap.puts h3 e5.sets
    (srcS h6 x3a x3n 1).bind fun q7 =>
    (appD h6 none 0 false 1 8 (nx + 6) q7).bind fun e8 =>
    let h9 := AHeap.puts h6 e8.sets
    let h10 := AHeap.put h9 (nx + 7) (some ⟨[(.int .i64 0), (.int .i64 1), (.int .i64 2), (.int .i64 3), (.int .i64 4)], 1, true⟩)
    (srcS h10 (some ((nx + 7), 0)) 5 1).bind fun q11 =>
    (appD h10 e8.a e8.n e8.c 1 8 (nx + 8) q11).bind fun e12 =>
    let h13 := AHeap.puts h10 e12.sets
    (call Y 35 [(.slice e12.a e12.n e12.c), (.int .i64 (wrapA .i64 (x10 + 1))), (.int .i64 ((e5.n : Nat) : Int))] h13 (nx + 15)).bind fun r14 =>
    (asSl r14.1).bind fun s15 =>
    (call Y 36 [(.slice e5.a e5.n e5.c), (.int .i64 x10), (.slice s15.1 s15.2.1 s15.2.2)] r14.2.1 (r14.2.2 + 9)).bind fun r16 =>
    (asTup 2 r16.1).bind fun d17 =>
    (asSl (d17.getD 0 .bad)).bind fun s18 =>
    (asI .i64 (d17.getD 1 .bad)).bind fun n19 =>
    if ((((s15.2.1 : Nat) : Int) : Int) == (wrapA .i64 (x10 + 1))) = true then
    (if ((n19 : Int) == 12) = true then
    (some ((.bool ((((s18.2.1 : Nat) : Int) : Int) == 0)), r16.2.1, (r16.2.2 + 15)))
    else
    (some ((.bool false), r16.2.1, (r16.2.2 + 15))))
    else
    (some ((.bool false), r16.2.1, (r16.2.2 + 15))) := by kernel_rfl

theorem F14_J1_eq (call : YldF → CallF) (Y : YldF) (lf : Nat) (x3a : Option (Nat × Nat)) (x3n : Nat) (x3c : Bool) (x10 : Int) (x11a : Option (Nat × Nat)) (x11n : Nat) (x11c : Bool) (x12a : Option (Nat × Nat)) (x12n : Nat) (x12c : Bool) (h : AHeap) (nx : Nat) : F14_J1 call Y lf x3a x3n x3c x10 x11a x11n x11c x12a x12n x12c h nx =
    (srcS h x11a x11n 1).bind fun q1 =>
    (appD h none 0 false 1 24 (nx + 1) q1).bind fun e2 =>
    let h3 := AHeap.puts h e2.sets
    (srcS h3 x12a x12n 1).bind fun q4 =>
    (appD h3 e2.a e2.n e2.c 1 24 (nx + 3) q4).bind fun e5 =>
    let h6 := AHeap.puts h3 e5.sets
    (srcS h6 x3a x3n 1).bind fun q7 =>
    (appD h6 none 0 false 1 8 (nx + 6) q7).bind fun e8 =>
    let h9 := AHeap.puts h6 e8.sets
    let h10 := AHeap.put h9 (nx + 7) (some ⟨[(.int .i64 0), (.int .i64 1), (.int .i64 2), (.int .i64 3), (.int .i64 4)], 1, true⟩)
    (srcS h10 (some ((nx + 7), 0)) 5 1).bind fun q11 =>
    (appD h10 e8.a e8.n e8.c 1 8 (nx + 8) q11).bind fun e12 =>
    let h13 := AHeap.puts h10 e12.sets
    (call Y 35 [(.slice e12.a e12.n e12.c), (.int .i64 (wrapA .i64 (x10 + 1))), (.int .i64 ((e5.n : Nat) : Int))] h13 (nx + 15)).bind fun r14 =>
    (asSl r14.1).bind fun s15 =>
    (call Y 36 [(.slice e5.a e5.n e5.c), (.int .i64 x10), (.slice s15.1 s15.2.1 s15.2.2)] r14.2.1 (r14.2.2 + 9)).bind fun r16 =>
    (asTup 2 r16.1).bind fun d17 =>
    (asSl (d17.getD 0 .bad)).bind fun s18 =>
    (asI .i64 (d17.getD 1 .bad)).bind fun n19 =>
    if ((((s15.2.1 : Nat) : Int) : Int) == (wrapA .i64 (x10 + 1))) = true then
    (if ((n19 : Int) == 12) = true then
    (some ((.bool ((((s18.2.1 : Nat) : Int) : Int) == 0)), r16.2.1, (r16.2.2 + 15)))
    else
    (some ((.bool false), r16.2.1, (r16.2.2 + 15))))
    else
    (some ((.bool false), r16.2.1, (r16.2.2 + 15))) := F14_J1_eq' go1 call Y lf x3a x3n x3c x10 x11a x11n x11c x12a x12n x12c h nx

theorem F14_eq' (J : StepF (AV × AHeap × Nat) → StepF (AV × AHeap × Nat)) (n : Nat) (Y : YldF) (x0a : Option (Nat × Nat)) (x0n : Nat) (x0c : Bool) (x1 : Int) (x2 : Int) (x3a : Option (Nat × Nat)) (x3n : Nat) (x3c : Bool) (h : AHeap) (nx : Nat) : rootJ J Try.prog keepT (callP Try.prog keepT n) Y n 14 [(.slice x0a x0n x0c), (.int .i64 x1), (.int .i64 x2), (.slice x3a x3n x3c)] h nx =
    ((callP Try.prog keepT n) Y 15 [(.int .i64 x1), (.int .i64 10)] h (nx + 5)).bind fun r1 =>
    (asI .i64 r1.1).bind fun n2 =>
    ((callP Try.prog keepT n) Y 15 [(.int .i64 x2), (.int .i64 3)] r1.2.1 (r1.2.2 + 4)).bind fun r3 =>
    (asI .i64 r3.1).bind fun n4 =>
    ((callP Try.prog keepT n) Y 29 [(.slice x0a x0n x0c), (.int .i64 (wrapA .i64 (3 + n2)))] r3.2.1 (r3.2.2 + 4)).bind fun r5 =>
    (asSl r5.1).bind fun s6 =>
    ((callP Try.prog keepT n) Y 30 [(.slice s6.1 s6.2.1 s6.2.2), (.int .i64 (wrapA .i64 (1 + n4)))] r5.2.1 (r5.2.2 + 8)).bind fun r7 =>
    (asTup 2 r7.1).bind fun d8 =>
    (asSl (d8.getD 0 .bad)).bind fun s9 =>
    (asI .i64 (d8.getD 1 .bad)).bind fun n10 =>
    if ((n10 : Int) != 0) = true then
    (some ((.bool false), r7.2.1, (r7.2.2 + 9)))
    else
    (if ((((s9.2.1 : Nat) : Int) : Int) != (wrapA .i64 (1 + n4))) = true then
    (some ((.bool false), r7.2.1, (r7.2.2 + 9)))
    else
    (F14_J1' J J (callP Try.prog keepT n) Y n x3a x3n x3c (wrapA .i64 (1 + n4)) s6.1 s6.2.1 s6.2.2 s9.1 s9.2.1 s9.2.2 r7.2.1 (r7.2.2 + 8))) := by kernel_rfl

/-- quickset/quicksetkeep.RebuildMany -/
theorem F14_eq (n : Nat) (Y : YldF) (x0a : Option (Nat × Nat)) (x0n : Nat) (x0c : Bool) (x1 : Int) (x2 : Int) (x3a : Option (Nat × Nat)) (x3n : Nat) (x3c : Bool) (h : AHeap) (nx : Nat) : callP Try.prog keepT (n + 1) Y 14 [(.slice x0a x0n x0c), (.int .i64 x1), (.int .i64 x2), (.slice x3a x3n x3c)] h nx =
    ((callP Try.prog keepT n) Y 15 [(.int .i64 x1), (.int .i64 10)] h (nx + 5)).bind fun r1 =>
    (asI .i64 r1.1).bind fun n2 =>
    ((callP Try.prog keepT n) Y 15 [(.int .i64 x2), (.int .i64 3)] r1.2.1 (r1.2.2 + 4)).bind fun r3 =>
    (asI .i64 r3.1).bind fun n4 =>
    ((callP Try.prog keepT n) Y 29 [(.slice x0a x0n x0c), (.int .i64 (wrapA .i64 (3 + n2)))] r3.2.1 (r3.2.2 + 4)).bind fun r5 =>
    (asSl r5.1).bind fun s6 =>
    ((callP Try.prog keepT n) Y 30 [(.slice s6.1 s6.2.1 s6.2.2), (.int .i64 (wrapA .i64 (1 + n4)))] r5.2.1 (r5.2.2 + 8)).bind fun r7 =>
    (asTup 2 r7.1).bind fun d8 =>
    (asSl (d8.getD 0 .bad)).bind fun s9 =>
    (asI .i64 (d8.getD 1 .bad)).bind fun n10 =>
    if ((n10 : Int) != 0) = true then
    (some ((.bool false), r7.2.1, (r7.2.2 + 9)))
    else
    (if ((((s9.2.1 : Nat) : Int) : Int) != (wrapA .i64 (1 + n4))) = true then
    (some ((.bool false), r7.2.1, (r7.2.2 + 9)))
    else
    (F14_J1 (callP Try.prog keepT n) Y n x3a x3n x3c (wrapA .i64 (1 + n4)) s6.1 s6.2.1 s6.2.2 s9.1 s9.2.1 s9.2.2 r7.2.1 (r7.2.2 + 8))) := F14_eq' go1 n Y x0a x0n x0c x1 x2 x3a x3n x3c h nx

noncomputable def c15 : Code := (Try.f15.body).getD .skip

noncomputable def r15 : List ResultVar := Try.f15.results.toList

theorem F15_eq' (J : StepF (AV × AHeap × Nat) → StepF (AV × AHeap × Nat)) (n : Nat) (Y : YldF) (x0 : Int) (x1 : Int) (h : AHeap) (nx : Nat) : rootJ J Try.prog keepT (callP Try.prog keepT n) Y n 15 [(.int .i64 x0), (.int .i64 x1)] h nx =
    if (x1 : Int) = 0 then none else
    (if (decide (((Int.tmod x0 x1) : Int) < 0)) = true then
    (some ((.int .i64 (wrapA .i64 ((Int.tmod x0 x1) + x1))), h, (nx + 11)))
    else
    (some ((.int .i64 (Int.tmod x0 x1)), h, (nx + 9)))) := by kernel_rfl

/-- quickset/quicksetkeep.Picked -/
theorem F15_eq (n : Nat) (Y : YldF) (x0 : Int) (x1 : Int) (h : AHeap) (nx : Nat) : callP Try.prog keepT (n + 1) Y 15 [(.int .i64 x0), (.int .i64 x1)] h nx =
    if (x1 : Int) = 0 then none else
    (if (decide (((Int.tmod x0 x1) : Int) < 0)) = true then
    (some ((.int .i64 (wrapA .i64 ((Int.tmod x0 x1) + x1))), h, (nx + 11)))
    else
    (some ((.int .i64 (Int.tmod x0 x1)), h, (nx + 9)))) := F15_eq' go1 n Y x0 x1 h nx

noncomputable def c16 : Code := (Try.f16.body).getD .skip

noncomputable def r16 : List ResultVar := Try.f16.results.toList

theorem F16_eq' (J : StepF (AV × AHeap × Nat) → StepF (AV × AHeap × Nat)) (n : Nat) (Y : YldF) (x0 : Int) (x1 : Int) (h : AHeap) (nx : Nat) : rootJ J Try.prog keepT (callP Try.prog keepT n) Y n 16 [(.int .i64 x0), (.int .i64 x1)] h nx =
    ((callP Try.prog keepT n) Y 38 [(.int .i64 x0), (.int .i64 x1)] h (nx + 9)).bind fun r1 =>
    (asTup 2 r1.1).bind fun d2 =>
    (asI .i64 (d2.getD 0 .bad)).bind fun n3 =>
    (asI .i64 (d2.getD 1 .bad)).bind fun n4 =>
    if ((n4 : Int) != 0) = true then
    (some ((.int .i64 (-1)), r1.2.1, (r1.2.2 + 3)))
    else
    (some ((.int .i64 n3), r1.2.1, (r1.2.2 + 4))) := by kernel_rfl

/-- quickset/quicksetkeep.mul -/
theorem F16_eq (n : Nat) (Y : YldF) (x0 : Int) (x1 : Int) (h : AHeap) (nx : Nat) : callP Try.prog keepT (n + 1) Y 16 [(.int .i64 x0), (.int .i64 x1)] h nx =
    ((callP Try.prog keepT n) Y 38 [(.int .i64 x0), (.int .i64 x1)] h (nx + 9)).bind fun r1 =>
    (asTup 2 r1.1).bind fun d2 =>
    (asI .i64 (d2.getD 0 .bad)).bind fun n3 =>
    (asI .i64 (d2.getD 1 .bad)).bind fun n4 =>
    if ((n4 : Int) != 0) = true then
    (some ((.int .i64 (-1)), r1.2.1, (r1.2.2 + 3)))
    else
    (some ((.int .i64 n3), r1.2.1, (r1.2.2 + 4))) := F16_eq' go1 n Y x0 x1 h nx

noncomputable def c17 : Code := (Try.f17.body).getD .skip

noncomputable def r17 : List ResultVar := Try.f17.results.toList

theorem F17_eq' (J : StepF (AV × AHeap × Nat) → StepF (AV × AHeap × Nat)) (n : Nat) (Y : YldF) (x0 : Int) (x1 : Int) (h : AHeap) (nx : Nat) : rootJ J Try.prog keepT (callP Try.prog keepT n) Y n 17 [(.int .i64 x0), (.int .i64 x1)] h nx =
    ((callP Try.prog keepT n) Y 39 [(.int .i64 x0), (.int .i64 x1)] h (nx + 9)).bind fun r1 =>
    (asTup 2 r1.1).bind fun d2 =>
    (asI .i64 (d2.getD 0 .bad)).bind fun n3 =>
    (asI .i64 (d2.getD 1 .bad)).bind fun n4 =>
    if ((n4 : Int) != 0) = true then
    (some ((.int .i64 (-1)), r1.2.1, (r1.2.2 + 3)))
    else
    (some ((.int .i64 n3), r1.2.1, (r1.2.2 + 4))) := by kernel_rfl

/-- quickset/quicksetkeep.add -/
theorem F17_eq (n : Nat) (Y : YldF) (x0 : Int) (x1 : Int) (h : AHeap) (nx : Nat) : callP Try.prog keepT (n + 1) Y 17 [(.int .i64 x0), (.int .i64 x1)] h nx =
    ((callP Try.prog keepT n) Y 39 [(.int .i64 x0), (.int .i64 x1)] h (nx + 9)).bind fun r1 =>
    (asTup 2 r1.1).bind fun d2 =>
    (asI .i64 (d2.getD 0 .bad)).bind fun n3 =>
    (asI .i64 (d2.getD 1 .bad)).bind fun n4 =>
    if ((n4 : Int) != 0) = true then
    (some ((.int .i64 (-1)), r1.2.1, (r1.2.2 + 3)))
    else
    (some ((.int .i64 n3), r1.2.1, (r1.2.2 + 4))) := F17_eq' go1 n Y x0 x1 h nx

noncomputable def c18 : Code := (Try.f18.body).getD .skip

noncomputable def r18 : List ResultVar := Try.f18.results.toList

noncomputable def F18_J1' (W J : StepF (AV × AHeap × Nat) → StepF (AV × AHeap × Nat)) (call : YldF → CallF) (Y : YldF) (lf : Nat) (x0 : Int) (x1 : Int) (h : AHeap) (nx : Nat) : Option (AV × AHeap × Nat) :=
  goK W J drawK (machOf Try.prog) call Y (keepT 18) lf c18 [1, 1] [] (retK (machOf Try.prog) ⟨c18, 16, r18, keepT 18⟩) ⟨16, mkL [(0, (.int .i64 x0)), (1, (.int .i64 x1))]⟩ h nx

noncomputable def F18_J1 (call : YldF → CallF) (Y : YldF) (lf : Nat) (x0 : Int) (x1 : Int) (h : AHeap) (nx : Nat) : Option (AV × AHeap × Nat) := F18_J1' go1 go1 call Y lf x0 x1 h nx

theorem F18_J1_eq' (J : StepF (AV × AHeap × Nat) → StepF (AV × AHeap × Nat)) (call : YldF → CallF) (Y : YldF) (lf : Nat) (x0 : Int) (x1 : Int) (h : AHeap) (nx : Nat) : F18_J1' go1 J call Y lf x0 x1 h nx =
    (call Y 41 [(.int .i64 x0), (.int .i64 x1)] h (nx + 5)).bind fun r1 =>
    (asI .i64 r1.1).bind fun n2 =>
    some ((.tuple [(.int .i64 n2), (.int .i64 0)]), r1.2.1, r1.2.2) := by kernel_rfl

theorem F18_J1_eq (call : YldF → CallF) (Y : YldF) (lf : Nat) (x0 : Int) (x1 : Int) (h : AHeap) (nx : Nat) : F18_J1 call Y lf x0 x1 h nx =
    (call Y 41 [(.int .i64 x0), (.int .i64 x1)] h (nx + 5)).bind fun r1 =>
    (asI .i64 r1.1).bind fun n2 =>
    some ((.tuple [(.int .i64 n2), (.int .i64 0)]), r1.2.1, r1.2.2) := F18_J1_eq' go1 call Y lf x0 x1 h nx

theorem F18_eq' (J : StepF (AV × AHeap × Nat) → StepF (AV × AHeap × Nat)) (n : Nat) (Y : YldF) (x0 : Int) (x1 : Int) (h : AHeap) (nx : Nat) : rootJ J Try.prog keepT (callP Try.prog keepT n) Y n 18 [(.int .i64 x0), (.int .i64 x1)] h nx =
    let h1 := AHeap.put h (nx + 3) (some ⟨[(.int .i64 x0)], 1, true⟩)
    ((callP Try.prog keepT n) Y 40 [(.slice (some ((nx + 3), 0)) 1 true)] h1 (nx + 9)).bind fun r2 =>
    (asB r2.1).bind fun t3 =>
    if t3 = true then
    (some ((.tuple [(.int .i64 0), (.int .i64 2)]), r2.2.1, (r2.2.2 + 2)))
    else
    (if (decide ((x1 : Int) < 0)) = true then
    (some ((.tuple [(.int .i64 0), (.int .i64 2)]), r2.2.1, (r2.2.2 + 2)))
    else
    (F18_J1' J J (callP Try.prog keepT n) Y n x0 x1 r2.2.1 r2.2.2)) := by kernel_rfl

/-- quickset/gf.Pow -/
theorem F18_eq (n : Nat) (Y : YldF) (x0 : Int) (x1 : Int) (h : AHeap) (nx : Nat) : callP Try.prog keepT (n + 1) Y 18 [(.int .i64 x0), (.int .i64 x1)] h nx =
    let h1 := AHeap.put h (nx + 3) (some ⟨[(.int .i64 x0)], 1, true⟩)
    ((callP Try.prog keepT n) Y 40 [(.slice (some ((nx + 3), 0)) 1 true)] h1 (nx + 9)).bind fun r2 =>
    (asB r2.1).bind fun t3 =>
    if t3 = true then
    (some ((.tuple [(.int .i64 0), (.int .i64 2)]), r2.2.1, (r2.2.2 + 2)))
    else
    (if (decide ((x1 : Int) < 0)) = true then
    (some ((.tuple [(.int .i64 0), (.int .i64 2)]), r2.2.1, (r2.2.2 + 2)))
    else
    (F18_J1 (callP Try.prog keepT n) Y n x0 x1 r2.2.1 r2.2.2)) := F18_eq' go1 n Y x0 x1 h nx

noncomputable def c19 : Code := (Try.f19.body).getD .skip

noncomputable def r19 : List ResultVar := Try.f19.results.toList

theorem F19_eq' (J : StepF (AV × AHeap × Nat) → StepF (AV × AHeap × Nat)) (n : Nat) (Y : YldF) (x0 : Int) (h : AHeap) (nx : Nat) : rootJ J Try.prog keepT (callP Try.prog keepT n) Y n 19 [(.int .i64 x0)] h nx =
    ((callP Try.prog keepT n) Y 18 [(.int .i64 2), (.int .i64 x0)] h (nx + 8)).bind fun r1 =>
    (asTup 2 r1.1).bind fun d2 =>
    (asI .i64 (d2.getD 0 .bad)).bind fun n3 =>
    (asI .i64 (d2.getD 1 .bad)).bind fun n4 =>
    some ((.tuple [(.int .i64 n3), (.int .i64 n4)]), r1.2.1, r1.2.2) := by kernel_rfl

/-- quickset/gf.Exp -/
theorem F19_eq (n : Nat) (Y : YldF) (x0 : Int) (h : AHeap) (nx : Nat) : callP Try.prog keepT (n + 1) Y 19 [(.int .i64 x0)] h nx =
    ((callP Try.prog keepT n) Y 18 [(.int .i64 2), (.int .i64 x0)] h (nx + 8)).bind fun r1 =>
    (asTup 2 r1.1).bind fun d2 =>
    (asI .i64 (d2.getD 0 .bad)).bind fun n3 =>
    (asI .i64 (d2.getD 1 .bad)).bind fun n4 =>
    some ((.tuple [(.int .i64 n3), (.int .i64 n4)]), r1.2.1, r1.2.2) := F19_eq' go1 n Y x0 h nx

noncomputable def c20 : Code := (Try.f20.body).getD .skip

noncomputable def r20 : List ResultVar := Try.f20.results.toList

theorem F20_eq' (J : StepF (AV × AHeap × Nat) → StepF (AV × AHeap × Nat)) (n : Nat) (Y : YldF) (x0 : Int) (x1 : Int) (h : AHeap) (nx : Nat) : rootJ J Try.prog keepT (callP Try.prog keepT n) Y n 20 [(.int .i64 x0), (.int .i64 x1)] h nx =
    let h1 := AHeap.put h (nx + 4) (some ⟨[(.int .i64 x0), (.int .i64 x1)], 1, true⟩)
    ((callP Try.prog keepT n) Y 40 [(.slice (some ((nx + 4), 0)) 2 true)] h1 (nx + 7)).bind fun r2 =>
    (asB r2.1).bind fun t3 =>
    if t3 = true then
    (some ((.tuple [(.int .i64 0), (.int .i64 2)]), r2.2.1, (r2.2.2 + 2)))
    else
    (if ((x1 : Int) == 0) = true then
    (some ((.tuple [(.int .i64 0), (.int .i64 10)]), r2.2.1, (r2.2.2 + 5)))
    else
    (((callP Try.prog keepT n) Y 41 [(.int .i64 x1), (.int .i64 254)] r2.2.1 (r2.2.2 + 9)).bind fun r4 =>
    (asI .i64 r4.1).bind fun n5 =>
    ((callP Try.prog keepT n) Y 42 [(.int .i64 x0), (.int .i64 n5)] r4.2.1 r4.2.2).bind fun r6 =>
    (asI .i64 r6.1).bind fun n7 =>
    some ((.tuple [(.int .i64 n7), (.int .i64 0)]), r6.2.1, r6.2.2))) := by kernel_rfl

/-- quickset/gf.Div -/
theorem F20_eq (n : Nat) (Y : YldF) (x0 : Int) (x1 : Int) (h : AHeap) (nx : Nat) : callP Try.prog keepT (n + 1) Y 20 [(.int .i64 x0), (.int .i64 x1)] h nx =
    let h1 := AHeap.put h (nx + 4) (some ⟨[(.int .i64 x0), (.int .i64 x1)], 1, true⟩)
    ((callP Try.prog keepT n) Y 40 [(.slice (some ((nx + 4), 0)) 2 true)] h1 (nx + 7)).bind fun r2 =>
    (asB r2.1).bind fun t3 =>
    if t3 = true then
    (some ((.tuple [(.int .i64 0), (.int .i64 2)]), r2.2.1, (r2.2.2 + 2)))
    else
    (if ((x1 : Int) == 0) = true then
    (some ((.tuple [(.int .i64 0), (.int .i64 10)]), r2.2.1, (r2.2.2 + 5)))
    else
    (((callP Try.prog keepT n) Y 41 [(.int .i64 x1), (.int .i64 254)] r2.2.1 (r2.2.2 + 9)).bind fun r4 =>
    (asI .i64 r4.1).bind fun n5 =>
    ((callP Try.prog keepT n) Y 42 [(.int .i64 x0), (.int .i64 n5)] r4.2.1 r4.2.2).bind fun r6 =>
    (asI .i64 r6.1).bind fun n7 =>
    some ((.tuple [(.int .i64 n7), (.int .i64 0)]), r6.2.1, r6.2.2))) := F20_eq' go1 n Y x0 x1 h nx

noncomputable def c21 : Code := (Try.f21.body).getD .skip

noncomputable def r21 : List ResultVar := Try.f21.results.toList

theorem F21_eq' (J : StepF (AV × AHeap × Nat) → StepF (AV × AHeap × Nat)) (n : Nat) (Y : YldF) (x0 : Int) (h : AHeap) (nx : Nat) : rootJ J Try.prog keepT (callP Try.prog keepT n) Y n 21 [(.int .i64 x0)] h nx =
    ((callP Try.prog keepT n) Y 20 [(.int .i64 1), (.int .i64 x0)] h (nx + 8)).bind fun r1 =>
    (asTup 2 r1.1).bind fun d2 =>
    (asI .i64 (d2.getD 0 .bad)).bind fun n3 =>
    (asI .i64 (d2.getD 1 .bad)).bind fun n4 =>
    some ((.tuple [(.int .i64 n3), (.int .i64 n4)]), r1.2.1, r1.2.2) := by kernel_rfl

/-- quickset/gf.Inv -/
theorem F21_eq (n : Nat) (Y : YldF) (x0 : Int) (h : AHeap) (nx : Nat) : callP Try.prog keepT (n + 1) Y 21 [(.int .i64 x0)] h nx =
    ((callP Try.prog keepT n) Y 20 [(.int .i64 1), (.int .i64 x0)] h (nx + 8)).bind fun r1 =>
    (asTup 2 r1.1).bind fun d2 =>
    (asI .i64 (d2.getD 0 .bad)).bind fun n3 =>
    (asI .i64 (d2.getD 1 .bad)).bind fun n4 =>
    some ((.tuple [(.int .i64 n3), (.int .i64 n4)]), r1.2.1, r1.2.2) := F21_eq' go1 n Y x0 h nx

noncomputable def c22 : Code := (Try.f22.body).getD .skip

noncomputable def r22 : List ResultVar := Try.f22.results.toList

noncomputable def F22_L1' (W J : StepF (AV × AHeap × Nat) → StepF (AV × AHeap × Nat)) (call : YldF → CallF) (Y : YldF) (lf : Nat) (n0 : Nat) (x0 : Int) (x4 : Int) (x5 : Int) (h : AHeap) (nx : Nat) : Option (AV × AHeap × Nat) :=
  goK W J drawK (machOf Try.prog) call Y (keepT 22) lf c22 [1, 1, 1, 0, 1, 0, 9] [n0] (retK (machOf Try.prog) ⟨c22, 21, r22, keepT 22⟩) ⟨21, mkL [(0, (.int .i64 x0)), (4, (.int .i64 x4)), (5, (.int .i64 x5))]⟩ h nx

noncomputable def F22_L1 (call : YldF → CallF) (Y : YldF) (lf : Nat) (n0 : Nat) (x0 : Int) (x4 : Int) (x5 : Int) (h : AHeap) (nx : Nat) : Option (AV × AHeap × Nat) := F22_L1' go1 go1 call Y lf n0 x0 x4 x5 h nx

theorem F22_L1_eq' (J : StepF (AV × AHeap × Nat) → StepF (AV × AHeap × Nat)) (call : YldF → CallF) (Y : YldF) (lf : Nat) (n0 : Nat) (x0 : Int) (x4 : Int) (x5 : Int) (h : AHeap) (nx : Nat) : F22_L1' go1 J call Y lf (n0 + 1) x0 x4 x5 h nx =
    if ((x5 : Int) != x0) = true then
    ((call Y 42 [(.int .i64 x5), (.int .i64 2)] h (nx + 9)).bind fun r1 =>
    (asI .i64 r1.1).bind fun n2 =>
    F22_L1' J J call Y lf n0 x0 (wrapA .i64 (x4 + 1)) n2 r1.2.1 r1.2.2)
    else
    (some ((.tuple [(.int .i64 x4), (.int .i64 0)]), h, (nx + 6))) := by kernel_rfl

theorem F22_L1_eq (call : YldF → CallF) (Y : YldF) (lf : Nat) (n0 : Nat) (x0 : Int) (x4 : Int) (x5 : Int) (h : AHeap) (nx : Nat) : F22_L1 call Y lf (n0 + 1) x0 x4 x5 h nx =
    if ((x5 : Int) != x0) = true then
    ((call Y 42 [(.int .i64 x5), (.int .i64 2)] h (nx + 9)).bind fun r1 =>
    (asI .i64 r1.1).bind fun n2 =>
    F22_L1 call Y lf n0 x0 (wrapA .i64 (x4 + 1)) n2 r1.2.1 r1.2.2)
    else
    (some ((.tuple [(.int .i64 x4), (.int .i64 0)]), h, (nx + 6))) := F22_L1_eq' go1 call Y lf n0 x0 x4 x5 h nx

theorem F22_L1_zero (call : YldF → CallF) (Y : YldF) (lf : Nat) (x0 : Int) (x4 : Int) (x5 : Int) (h : AHeap) (nx : Nat) : F22_L1 call Y lf 0 x0 x4 x5 h nx = none := by kernel_rfl

theorem F22_eq' (J : StepF (AV × AHeap × Nat) → StepF (AV × AHeap × Nat)) (n : Nat) (Y : YldF) (x0 : Int) (h : AHeap) (nx : Nat) : rootJ J Try.prog keepT (callP Try.prog keepT n) Y n 22 [(.int .i64 x0)] h nx =
    let h1 := AHeap.put h (nx + 3) (some ⟨[(.int .i64 x0)], 1, true⟩)
    ((callP Try.prog keepT n) Y 40 [(.slice (some ((nx + 3), 0)) 1 true)] h1 (nx + 6)).bind fun r2 =>
    (asB r2.1).bind fun t3 =>
    if t3 = true then
    (some ((.tuple [(.int .i64 0), (.int .i64 2)]), r2.2.1, (r2.2.2 + 2)))
    else
    (if ((x0 : Int) == 0) = true then
    (some ((.tuple [(.int .i64 0), (.int .i64 10)]), r2.2.1, (r2.2.2 + 5)))
    else
    (F22_L1' J J (callP Try.prog keepT n) Y n n x0 0 1 r2.2.1 (r2.2.2 + 5))) := by kernel_rfl

/-- quickset/gf.Log -/
theorem F22_eq (n : Nat) (Y : YldF) (x0 : Int) (h : AHeap) (nx : Nat) : callP Try.prog keepT (n + 1) Y 22 [(.int .i64 x0)] h nx =
    let h1 := AHeap.put h (nx + 3) (some ⟨[(.int .i64 x0)], 1, true⟩)
    ((callP Try.prog keepT n) Y 40 [(.slice (some ((nx + 3), 0)) 1 true)] h1 (nx + 6)).bind fun r2 =>
    (asB r2.1).bind fun t3 =>
    if t3 = true then
    (some ((.tuple [(.int .i64 0), (.int .i64 2)]), r2.2.1, (r2.2.2 + 2)))
    else
    (if ((x0 : Int) == 0) = true then
    (some ((.tuple [(.int .i64 0), (.int .i64 10)]), r2.2.1, (r2.2.2 + 5)))
    else
    (F22_L1 (callP Try.prog keepT n) Y n n x0 0 1 r2.2.1 (r2.2.2 + 5))) := F22_eq' go1 n Y x0 h nx

noncomputable def c23 : Code := (Try.f23.body).getD .skip

noncomputable def r23 : List ResultVar := Try.f23.results.toList

noncomputable def F23_L1' (W J : StepF (AV × AHeap × Nat) → StepF (AV × AHeap × Nat)) (call : YldF → CallF) (Y : YldF) (lf : Nat) (n0 : Nat) (x0a : Option (Nat × Nat)) (x0n : Nat) (x0c : Bool) (x1 : Int) (x2 : Int) (x7a : Option (Nat × Nat)) (x7n : Nat) (x7c : Bool) (x8 : Int) (h : AHeap) (nx : Nat) : Option (AV × AHeap × Nat) :=
  goK W J drawK (machOf Try.prog) call Y (keepT 23) lf c23 [1, 1, 0, 1, 0, 9] [n0] (retK (machOf Try.prog) ⟨c23, 56, r23, keepT 23⟩) ⟨56, mkL [(0, (.slice x0a x0n x0c)), (1, (.int .i64 x1)), (2, (.int .i64 x2)), (7, (.slice x7a x7n x7c)), (8, (.int .i64 x8))]⟩ h nx

noncomputable def F23_L1 (call : YldF → CallF) (Y : YldF) (lf : Nat) (n0 : Nat) (x0a : Option (Nat × Nat)) (x0n : Nat) (x0c : Bool) (x1 : Int) (x2 : Int) (x7a : Option (Nat × Nat)) (x7n : Nat) (x7c : Bool) (x8 : Int) (h : AHeap) (nx : Nat) : Option (AV × AHeap × Nat) := F23_L1' go1 go1 call Y lf n0 x0a x0n x0c x1 x2 x7a x7n x7c x8 h nx

noncomputable def F23_L2' (W J : StepF (AV × AHeap × Nat) → StepF (AV × AHeap × Nat)) (call : YldF → CallF) (Y : YldF) (lf : Nat) (n0 : Nat) (n1 : Nat) (x0a : Option (Nat × Nat)) (x0n : Nat) (x0c : Bool) (x1 : Int) (x2 : Int) (x7a : Option (Nat × Nat)) (x7n : Nat) (x7c : Bool) (x8 : Int) (x9a : Option (Nat × Nat)) (x9n : Nat) (x9c : Bool) (x10 : Int) (h : AHeap) (nx : Nat) : Option (AV × AHeap × Nat) :=
  goK W J drawK (machOf Try.prog) call Y (keepT 23) lf c23 [1, 1, 0, 1, 0, 0, 1, 0, 0, 1, 0, 1, 0, 9] [n0, n1] (retK (machOf Try.prog) ⟨c23, 56, r23, keepT 23⟩) ⟨56, mkL [(0, (.slice x0a x0n x0c)), (1, (.int .i64 x1)), (2, (.int .i64 x2)), (7, (.slice x7a x7n x7c)), (8, (.int .i64 x8)), (9, (.slice x9a x9n x9c)), (10, (.int .i64 x10))]⟩ h nx

noncomputable def F23_L2 (call : YldF → CallF) (Y : YldF) (lf : Nat) (n0 : Nat) (n1 : Nat) (x0a : Option (Nat × Nat)) (x0n : Nat) (x0c : Bool) (x1 : Int) (x2 : Int) (x7a : Option (Nat × Nat)) (x7n : Nat) (x7c : Bool) (x8 : Int) (x9a : Option (Nat × Nat)) (x9n : Nat) (x9c : Bool) (x10 : Int) (h : AHeap) (nx : Nat) : Option (AV × AHeap × Nat) := F23_L2' go1 go1 call Y lf n0 n1 x0a x0n x0c x1 x2 x7a x7n x7c x8 x9a x9n x9c x10 h nx

noncomputable def F23_J3' (W J : StepF (AV × AHeap × Nat) → StepF (AV × AHeap × Nat)) (call : YldF → CallF) (Y : YldF) (lf : Nat) (n0 : Nat) (n1 : Nat) (x0a : Option (Nat × Nat)) (x0n : Nat) (x0c : Bool) (x1 : Int) (x2 : Int) (x7a : Option (Nat × Nat)) (x7n : Nat) (x7c : Bool) (x8 : Int) (x9a : Option (Nat × Nat)) (x9n : Nat) (x9c : Bool) (x10 : Int) (x11 : Int) (h : AHeap) (nx : Nat) : Option (AV × AHeap × Nat) :=
  goK W J drawK (machOf Try.prog) call Y (keepT 23) lf c23 [1, 1, 0, 1, 0, 0, 1, 0, 0, 1, 0, 1, 0, 0, 1, 0, 0, 1, 1] [n0, n1] (retK (machOf Try.prog) ⟨c23, 56, r23, keepT 23⟩) ⟨56, mkL [(0, (.slice x0a x0n x0c)), (1, (.int .i64 x1)), (2, (.int .i64 x2)), (7, (.slice x7a x7n x7c)), (8, (.int .i64 x8)), (9, (.slice x9a x9n x9c)), (10, (.int .i64 x10)), (11, (.int .i64 x11))]⟩ h nx

noncomputable def F23_J3 (call : YldF → CallF) (Y : YldF) (lf : Nat) (n0 : Nat) (n1 : Nat) (x0a : Option (Nat × Nat)) (x0n : Nat) (x0c : Bool) (x1 : Int) (x2 : Int) (x7a : Option (Nat × Nat)) (x7n : Nat) (x7c : Bool) (x8 : Int) (x9a : Option (Nat × Nat)) (x9n : Nat) (x9c : Bool) (x10 : Int) (x11 : Int) (h : AHeap) (nx : Nat) : Option (AV × AHeap × Nat) := F23_J3' go1 go1 call Y lf n0 n1 x0a x0n x0c x1 x2 x7a x7n x7c x8 x9a x9n x9c x10 x11 h nx

theorem F23_L1_eq' (J : StepF (AV × AHeap × Nat) → StepF (AV × AHeap × Nat)) (call : YldF → CallF) (Y : YldF) (lf : Nat) (n0 : Nat) (x0a : Option (Nat × Nat)) (x0n : Nat) (x0c : Bool) (x1 : Int) (x2 : Int) (x7a : Option (Nat × Nat)) (x7n : Nat) (x7c : Bool) (x8 : Int) (h : AHeap) (nx : Nat) : F23_L1' go1 J call Y lf (n0 + 1) x0a x0n x0c x1 x2 x7a x7n x7c x8 h nx =
    if (decide ((x8 : Int) < x1)) = true then
    (F23_L2' J J call Y lf n0 lf x0a x0n x0c x1 x2 x7a x7n x7c x8 none 0 false 0 h (nx + 5))
    else
    (some ((.slice x7a x7n x7c), h, (nx + 5))) := by kernel_rfl

theorem F23_L1_eq (call : YldF → CallF) (Y : YldF) (lf : Nat) (n0 : Nat) (x0a : Option (Nat × Nat)) (x0n : Nat) (x0c : Bool) (x1 : Int) (x2 : Int) (x7a : Option (Nat × Nat)) (x7n : Nat) (x7c : Bool) (x8 : Int) (h : AHeap) (nx : Nat) : F23_L1 call Y lf (n0 + 1) x0a x0n x0c x1 x2 x7a x7n x7c x8 h nx =
    if (decide ((x8 : Int) < x1)) = true then
    (F23_L2 call Y lf n0 lf x0a x0n x0c x1 x2 x7a x7n x7c x8 none 0 false 0 h (nx + 5))
    else
    (some ((.slice x7a x7n x7c), h, (nx + 5))) := F23_L1_eq' go1 call Y lf n0 x0a x0n x0c x1 x2 x7a x7n x7c x8 h nx

theorem F23_L1_zero (call : YldF → CallF) (Y : YldF) (lf : Nat) (x0a : Option (Nat × Nat)) (x0n : Nat) (x0c : Bool) (x1 : Int) (x2 : Int) (x7a : Option (Nat × Nat)) (x7n : Nat) (x7c : Bool) (x8 : Int) (h : AHeap) (nx : Nat) : F23_L1 call Y lf 0 x0a x0n x0c x1 x2 x7a x7n x7c x8 h nx = none := by kernel_rfl

theorem F23_L2_eq' (J : StepF (AV × AHeap × Nat) → StepF (AV × AHeap × Nat)) (call : YldF → CallF) (Y : YldF) (lf : Nat) (n0 : Nat) (n1 : Nat) (x0a : Option (Nat × Nat)) (x0n : Nat) (x0c : Bool) (x1 : Int) (x2 : Int) (x7a : Option (Nat × Nat)) (x7n : Nat) (x7c : Bool) (x8 : Int) (x9a : Option (Nat × Nat)) (x9n : Nat) (x9c : Bool) (x10 : Int) (h : AHeap) (nx : Nat) : F23_L2' go1 J call Y lf n0 (n1 + 1) x0a x0n x0c x1 x2 x7a x7n x7c x8 x9a x9n x9c x10 h nx =
    if (decide ((x10 : Int) < x2)) = true then
    (if (decide ((((x0n : Nat) : Int) : Int) > 0)) = true then
    (if (((x0n : Nat) : Int) : Int) = 0 then none else
    ((x0a).bind fun p1 =>
    if 0 ≤ ((Int.tmod (wrapA .i64 ((wrapA .i64 (x8 * x2)) + x10)) ((x0n : Nat) : Int)) : Int) ∧ (Int.tmod (wrapA .i64 ((wrapA .i64 (x8 * x2)) + x10)) ((x0n : Nat) : Int)) < ((x0n : Nat) : Int) then
    ((ldA h p1.1 (p1.2 + Int.toNat (Int.tmod (wrapA .i64 ((wrapA .i64 (x8 * x2)) + x10)) ((x0n : Nat) : Int)) * 1)).bind fun v2 =>
    (asI .i64 v2).bind fun n3 =>
    if (((x0n : Nat) : Int) : Int) = 0 then none else
    (if ((wrapA .i64 (1 + (wrapA .i64 (Int.tdiv (wrapA .i64 ((wrapA .i64 (x8 * x2)) + x10)) ((x0n : Nat) : Int))))) : Int) = 0 then none else
    ((call Y 15 [(.int .i64 (wrapA .i64 (Int.tdiv n3 (wrapA .i64 (1 + (wrapA .i64 (Int.tdiv (wrapA .i64 ((wrapA .i64 (x8 * x2)) + x10)) ((x0n : Nat) : Int)))))))), (.int .i64 256)] h (nx + 30)).bind fun r4 =>
    (asI .i64 r4.1).bind fun n5 =>
    F23_J3' J J call Y lf n0 n1 x0a x0n x0c x1 x2 x7a x7n x7c x8 x9a x9n x9c x10 n5 r4.2.1 r4.2.2)))
    else none))
    else
    (F23_J3' J J call Y lf n0 n1 x0a x0n x0c x1 x2 x7a x7n x7c x8 x9a x9n x9c x10 0 h (nx + 7)))
    else
    (let h6 := AHeap.put h (nx + 5) (some ⟨[(.slice x9a x9n x9c)], 1, true⟩)
    (srcS h6 (some ((nx + 5), 0)) 1 1).bind fun q7 =>
    (appD h6 x7a x7n x7c 1 24 (nx + 6) q7).bind fun e8 =>
    let h9 := AHeap.puts h6 e8.sets
    F23_L1' J J call Y lf n0 x0a x0n x0c x1 x2 e8.a e8.n e8.c (wrapA .i64 (x8 + 1)) h9 (nx + 11)) := by kernel_rfl

theorem F23_L2_eq (call : YldF → CallF) (Y : YldF) (lf : Nat) (n0 : Nat) (n1 : Nat) (x0a : Option (Nat × Nat)) (x0n : Nat) (x0c : Bool) (x1 : Int) (x2 : Int) (x7a : Option (Nat × Nat)) (x7n : Nat) (x7c : Bool) (x8 : Int) (x9a : Option (Nat × Nat)) (x9n : Nat) (x9c : Bool) (x10 : Int) (h : AHeap) (nx : Nat) : F23_L2 call Y lf n0 (n1 + 1) x0a x0n x0c x1 x2 x7a x7n x7c x8 x9a x9n x9c x10 h nx =
    if (decide ((x10 : Int) < x2)) = true then
    (if (decide ((((x0n : Nat) : Int) : Int) > 0)) = true then
    (if (((x0n : Nat) : Int) : Int) = 0 then none else
    ((x0a).bind fun p1 =>
    if 0 ≤ ((Int.tmod (wrapA .i64 ((wrapA .i64 (x8 * x2)) + x10)) ((x0n : Nat) : Int)) : Int) ∧ (Int.tmod (wrapA .i64 ((wrapA .i64 (x8 * x2)) + x10)) ((x0n : Nat) : Int)) < ((x0n : Nat) : Int) then
    ((ldA h p1.1 (p1.2 + Int.toNat (Int.tmod (wrapA .i64 ((wrapA .i64 (x8 * x2)) + x10)) ((x0n : Nat) : Int)) * 1)).bind fun v2 =>
    (asI .i64 v2).bind fun n3 =>
    if (((x0n : Nat) : Int) : Int) = 0 then none else
    (if ((wrapA .i64 (1 + (wrapA .i64 (Int.tdiv (wrapA .i64 ((wrapA .i64 (x8 * x2)) + x10)) ((x0n : Nat) : Int))))) : Int) = 0 then none else
    ((call Y 15 [(.int .i64 (wrapA .i64 (Int.tdiv n3 (wrapA .i64 (1 + (wrapA .i64 (Int.tdiv (wrapA .i64 ((wrapA .i64 (x8 * x2)) + x10)) ((x0n : Nat) : Int)))))))), (.int .i64 256)] h (nx + 30)).bind fun r4 =>
    (asI .i64 r4.1).bind fun n5 =>
    F23_J3 call Y lf n0 n1 x0a x0n x0c x1 x2 x7a x7n x7c x8 x9a x9n x9c x10 n5 r4.2.1 r4.2.2)))
    else none))
    else
    (F23_J3 call Y lf n0 n1 x0a x0n x0c x1 x2 x7a x7n x7c x8 x9a x9n x9c x10 0 h (nx + 7)))
    else
    (let h6 := AHeap.put h (nx + 5) (some ⟨[(.slice x9a x9n x9c)], 1, true⟩)
    (srcS h6 (some ((nx + 5), 0)) 1 1).bind fun q7 =>
    (appD h6 x7a x7n x7c 1 24 (nx + 6) q7).bind fun e8 =>
    let h9 := AHeap.puts h6 e8.sets
    F23_L1 call Y lf n0 x0a x0n x0c x1 x2 e8.a e8.n e8.c (wrapA .i64 (x8 + 1)) h9 (nx + 11)) := F23_L2_eq' go1 call Y lf n0 n1 x0a x0n x0c x1 x2 x7a x7n x7c x8 x9a x9n x9c x10 h nx

theorem F23_L2_zero (call : YldF → CallF) (Y : YldF) (lf : Nat) (n0 : Nat) (x0a : Option (Nat × Nat)) (x0n : Nat) (x0c : Bool) (x1 : Int) (x2 : Int) (x7a : Option (Nat × Nat)) (x7n : Nat) (x7c : Bool) (x8 : Int) (x9a : Option (Nat × Nat)) (x9n : Nat) (x9c : Bool) (x10 : Int) (h : AHeap) (nx : Nat) : F23_L2 call Y lf n0 0 x0a x0n x0c x1 x2 x7a x7n x7c x8 x9a x9n x9c x10 h nx = none := by kernel_rfl

theorem F23_J3_eq' (J : StepF (AV × AHeap × Nat) → StepF (AV × AHeap × Nat)) (call : YldF → CallF) (Y : YldF) (lf : Nat) (n0 : Nat) (n1 : Nat) (x0a : Option (Nat × Nat)) (x0n : Nat) (x0c : Bool) (x1 : Int) (x2 : Int) (x7a : Option (Nat × Nat)) (x7n : Nat) (x7c : Bool) (x8 : Int) (x9a : Option (Nat × Nat)) (x9n : Nat) (x9c : Bool) (x10 : Int) (x11 : Int) (h : AHeap) (nx : Nat) : F23_J3' go1 J call Y lf n0 n1 x0a x0n x0c x1 x2 x7a x7n x7c x8 x9a x9n x9c x10 x11 h nx =
    let h1 := AHeap.put h (nx + 2) (some ⟨[(.int .i64 x11)], 1, true⟩)
    (srcS h1 (some ((nx + 2), 0)) 1 1).bind fun q2 =>
    (appD h1 x9a x9n x9c 1 8 (nx + 3) q2).bind fun e3 =>
    let h4 := AHeap.puts h1 e3.sets
    F23_L2' J J call Y lf n0 n1 x0a x0n x0c x1 x2 x7a x7n x7c x8 e3.a e3.n e3.c (wrapA .i64 (x10 + 1)) h4 (nx + 8) := by kernel_rfl

theorem F23_J3_eq (call : YldF → CallF) (Y : YldF) (lf : Nat) (n0 : Nat) (n1 : Nat) (x0a : Option (Nat × Nat)) (x0n : Nat) (x0c : Bool) (x1 : Int) (x2 : Int) (x7a : Option (Nat × Nat)) (x7n : Nat) (x7c : Bool) (x8 : Int) (x9a : Option (Nat × Nat)) (x9n : Nat) (x9c : Bool) (x10 : Int) (x11 : Int) (h : AHeap) (nx : Nat) : F23_J3 call Y lf n0 n1 x0a x0n x0c x1 x2 x7a x7n x7c x8 x9a x9n x9c x10 x11 h nx =
    let h1 := AHeap.put h (nx + 2) (some ⟨[(.int .i64 x11)], 1, true⟩)
    (srcS h1 (some ((nx + 2), 0)) 1 1).bind fun q2 =>
    (appD h1 x9a x9n x9c 1 8 (nx + 3) q2).bind fun e3 =>
    let h4 := AHeap.puts h1 e3.sets
    F23_L2 call Y lf n0 n1 x0a x0n x0c x1 x2 x7a x7n x7c x8 e3.a e3.n e3.c (wrapA .i64 (x10 + 1)) h4 (nx + 8) := F23_J3_eq' go1 call Y lf n0 n1 x0a x0n x0c x1 x2 x7a x7n x7c x8 x9a x9n x9c x10 x11 h nx

theorem F23_eq' (J : StepF (AV × AHeap × Nat) → StepF (AV × AHeap × Nat)) (n : Nat) (Y : YldF) (x0a : Option (Nat × Nat)) (x0n : Nat) (x0c : Bool) (x1 : Int) (x2 : Int) (h : AHeap) (nx : Nat) : rootJ J Try.prog keepT (callP Try.prog keepT n) Y n 23 [(.slice x0a x0n x0c), (.int .i64 x1), (.int .i64 x2)] h nx =
    F23_L1' J J (callP Try.prog keepT n) Y n n x0a x0n x0c x1 x2 none 0 false 0 h (nx + 3) := by kernel_rfl

/-- quickset/quicksetkeep.MatrixOf -/
theorem F23_eq (n : Nat) (Y : YldF) (x0a : Option (Nat × Nat)) (x0n : Nat) (x0c : Bool) (x1 : Int) (x2 : Int) (h : AHeap) (nx : Nat) : callP Try.prog keepT (n + 1) Y 23 [(.slice x0a x0n x0c), (.int .i64 x1), (.int .i64 x2)] h nx =
    F23_L1 (callP Try.prog keepT n) Y n n x0a x0n x0c x1 x2 none 0 false 0 h (nx + 3) := F23_eq' go1 n Y x0a x0n x0c x1 x2 h nx

noncomputable def c24 : Code := (Try.f24.body).getD .skip

noncomputable def r24 : List ResultVar := Try.f24.results.toList

theorem F24_eq' (J : StepF (AV × AHeap × Nat) → StepF (AV × AHeap × Nat)) (n : Nat) (Y : YldF) (x0 : Int) (h : AHeap) (nx : Nat) : rootJ J Try.prog keepT (callP Try.prog keepT n) Y n 24 [(.int .i64 x0)] h nx =
    ((callP Try.prog keepT n) Y 15 [(.int .i64 x0), (.int .i64 8)] h (nx + 5)).bind fun r1 =>
    (asI .i64 r1.1).bind fun n2 =>
    some ((.int .i64 (wrapA .i64 (1 + n2))), r1.2.1, r1.2.2) := by kernel_rfl

/-- quickset/quicksetkeep.side -/
theorem F24_eq (n : Nat) (Y : YldF) (x0 : Int) (h : AHeap) (nx : Nat) : callP Try.prog keepT (n + 1) Y 24 [(.int .i64 x0)] h nx =
    ((callP Try.prog keepT n) Y 15 [(.int .i64 x0), (.int .i64 8)] h (nx + 5)).bind fun r1 =>
    (asI .i64 r1.1).bind fun n2 =>
    some ((.int .i64 (wrapA .i64 (1 + n2))), r1.2.1, r1.2.2) := F24_eq' go1 n Y x0 h nx

noncomputable def c25 : Code := (Try.f25.body).getD .skip

noncomputable def r25 : List ResultVar := Try.f25.results.toList

noncomputable def F25_J1' (W J : StepF (AV × AHeap × Nat) → StepF (AV × AHeap × Nat)) (call : YldF → CallF) (Y : YldF) (lf : Nat) (x0a : Option (Nat × Nat)) (x0n : Nat) (x0c : Bool) (x3 : Option (Nat × Nat)) (h : AHeap) (nx : Nat) : Option (AV × AHeap × Nat) :=
  goK W J drawK (machOf Try.prog) call Y (keepT 25) lf c25 [1, 1] [] (retK (machOf Try.prog) ⟨c25, 56, r25, keepT 25⟩) ⟨56, mkL [(0, (.slice x0a x0n x0c)), (3, (.ptr x3))]⟩ h nx

noncomputable def F25_J1 (call : YldF → CallF) (Y : YldF) (lf : Nat) (x0a : Option (Nat × Nat)) (x0n : Nat) (x0c : Bool) (x3 : Option (Nat × Nat)) (h : AHeap) (nx : Nat) : Option (AV × AHeap × Nat) := F25_J1' go1 go1 call Y lf x0a x0n x0c x3 h nx

noncomputable def F25_L2' (W J : StepF (AV × AHeap × Nat) → StepF (AV × AHeap × Nat)) (call : YldF → CallF) (Y : YldF) (lf : Nat) (n0 : Nat) (x3 : Option (Nat × Nat)) (x6a : Option (Nat × Nat)) (x6n : Nat) (x6c : Bool) (x26a : Option (Nat × Nat)) (x26n : Nat) (x26c : Bool) (x27 : Int) (x28 : Int) (h : AHeap) (nx : Nat) : Option (AV × AHeap × Nat) :=
  goK W J drawK (machOf Try.prog) call Y (keepT 25) lf c25 [1, 1, 1, 1, 0, 1, 0, 9] [n0] (retK (machOf Try.prog) ⟨c25, 56, r25, keepT 25⟩) ⟨56, mkL [(3, (.ptr x3)), (6, (.slice x6a x6n x6c)), (26, (.slice x26a x26n x26c)), (27, (.int .i64 x27)), (28, (.int .i64 x28))]⟩ h nx

noncomputable def F25_L2 (call : YldF → CallF) (Y : YldF) (lf : Nat) (n0 : Nat) (x3 : Option (Nat × Nat)) (x6a : Option (Nat × Nat)) (x6n : Nat) (x6c : Bool) (x26a : Option (Nat × Nat)) (x26n : Nat) (x26c : Bool) (x27 : Int) (x28 : Int) (h : AHeap) (nx : Nat) : Option (AV × AHeap × Nat) := F25_L2' go1 go1 call Y lf n0 x3 x6a x6n x6c x26a x26n x26c x27 x28 h nx

noncomputable def F25_L3' (W J : StepF (AV × AHeap × Nat) → StepF (AV × AHeap × Nat)) (call : YldF → CallF) (Y : YldF) (lf : Nat) (n0 : Nat) (n1 : Nat) (x3 : Option (Nat × Nat)) (x6a : Option (Nat × Nat)) (x6n : Nat) (x6c : Bool) (x8 : Option (Nat × Nat)) (x9a : Option (Nat × Nat)) (x9n : Nat) (x9c : Bool) (x26a : Option (Nat × Nat)) (x26n : Nat) (x26c : Bool) (x27 : Int) (x28 : Int) (x38 : Int) (x39 : Int) (h : AHeap) (nx : Nat) : Option (AV × AHeap × Nat) :=
  goK W J drawK (machOf Try.prog) call Y (keepT 25) lf c25 [1, 1, 1, 1, 0, 1, 0, 0, 1, 1, 0, 0, 1, 1, 0, 1, 0, 9] [n0, n1] (retK (machOf Try.prog) ⟨c25, 56, r25, keepT 25⟩) ⟨56, mkL [(3, (.ptr x3)), (6, (.slice x6a x6n x6c)), (8, (.ptr x8)), (9, (.slice x9a x9n x9c)), (26, (.slice x26a x26n x26c)), (27, (.int .i64 x27)), (28, (.int .i64 x28)), (38, (.int .i64 x38)), (39, (.int .i64 x39))]⟩ h nx

noncomputable def F25_L3 (call : YldF → CallF) (Y : YldF) (lf : Nat) (n0 : Nat) (n1 : Nat) (x3 : Option (Nat × Nat)) (x6a : Option (Nat × Nat)) (x6n : Nat) (x6c : Bool) (x8 : Option (Nat × Nat)) (x9a : Option (Nat × Nat)) (x9n : Nat) (x9c : Bool) (x26a : Option (Nat × Nat)) (x26n : Nat) (x26c : Bool) (x27 : Int) (x28 : Int) (x38 : Int) (x39 : Int) (h : AHeap) (nx : Nat) : Option (AV × AHeap × Nat) := F25_L3' go1 go1 call Y lf n0 n1 x3 x6a x6n x6c x8 x9a x9n x9c x26a x26n x26c x27 x28 x38 x39 h nx

theorem F25_J1_eq' (J : StepF (AV × AHeap × Nat) → StepF (AV × AHeap × Nat)) (call : YldF → CallF) (Y : YldF) (lf : Nat) (x0a : Option (Nat × Nat)) (x0n : Nat) (x0c : Bool) (x3 : Option (Nat × Nat)) (h : AHeap) (nx : Nat) : F25_J1' go1 J call Y lf x0a x0n x0c x3 h nx =
    (x0a).bind fun p1 =>
    if 0 ≤ (0 : Int) ∧ 0 < ((x0n : Nat) : Int) then
    ((ldA h p1.1 (p1.2 + Int.toNat 0 * 1)).bind fun v2 =>
    (asSl v2).bind fun s3 =>
    (x3).bind fun p4 =>
    (ldA h p4.1 p4.2).bind fun v5 =>
    (asSl v5).bind fun s6 =>
    if ((((s3.2.1 : Nat) : Int) : Int) != ((s6.2.1 : Nat) : Int)) = true then
    (some ((.tuple [(.slice none 0 false), (.int .i64 1)]), h, (nx + 9)))
    else
    (F25_L2' J J call Y lf lf x3 none 0 false x0a x0n x0c ((x0n : Nat) : Int) 0 h (nx + 11)))
    else none := by kernel_rfl

theorem F25_J1_eq (call : YldF → CallF) (Y : YldF) (lf : Nat) (x0a : Option (Nat × Nat)) (x0n : Nat) (x0c : Bool) (x3 : Option (Nat × Nat)) (h : AHeap) (nx : Nat) : F25_J1 call Y lf x0a x0n x0c x3 h nx =
    (x0a).bind fun p1 =>
    if 0 ≤ (0 : Int) ∧ 0 < ((x0n : Nat) : Int) then
    ((ldA h p1.1 (p1.2 + Int.toNat 0 * 1)).bind fun v2 =>
    (asSl v2).bind fun s3 =>
    (x3).bind fun p4 =>
    (ldA h p4.1 p4.2).bind fun v5 =>
    (asSl v5).bind fun s6 =>
    if ((((s3.2.1 : Nat) : Int) : Int) != ((s6.2.1 : Nat) : Int)) = true then
    (some ((.tuple [(.slice none 0 false), (.int .i64 1)]), h, (nx + 9)))
    else
    (F25_L2 call Y lf lf x3 none 0 false x0a x0n x0c ((x0n : Nat) : Int) 0 h (nx + 11)))
    else none := F25_J1_eq' go1 call Y lf x0a x0n x0c x3 h nx

theorem F25_L2_eq' (J : StepF (AV × AHeap × Nat) → StepF (AV × AHeap × Nat)) (call : YldF → CallF) (Y : YldF) (lf : Nat) (n0 : Nat) (x3 : Option (Nat × Nat)) (x6a : Option (Nat × Nat)) (x6n : Nat) (x6c : Bool) (x26a : Option (Nat × Nat)) (x26n : Nat) (x26c : Bool) (x27 : Int) (x28 : Int) (h : AHeap) (nx : Nat) : F25_L2' go1 J call Y lf (n0 + 1) x3 x6a x6n x6c x26a x26n x26c x27 x28 h nx =
    if (decide ((x28 : Int) < x27)) = true then
    ((x26a).bind fun p1 =>
    if 0 ≤ (x28 : Int) ∧ x28 < ((x26n : Nat) : Int) then
    ((ldA h p1.1 (p1.2 + Int.toNat x28 * 1)).bind fun v2 =>
    (asSl v2).bind fun s3 =>
    let h4 := AHeap.put h (nx + 3) (some ⟨[(.slice none 0 false)], 1, true⟩)
    (stA h4 (nx + 3) 0 (.slice s3.1 s3.2.1 s3.2.2) 1).bind fun b5 =>
    let h6 := AHeap.put h4 (nx + 3) (some b5)
    (x3).bind fun p7 =>
    (ldA h6 p7.1 p7.2).bind fun v8 =>
    (asSl v8).bind fun s9 =>
    (s9.1).bind fun p10 =>
    if 0 ≤ (0 : Int) ∧ 0 < ((s9.2.1 : Nat) : Int) then
    ((ldA h6 p10.1 (p10.2 + Int.toNat 0 * 1)).bind fun v11 =>
    (asSl v11).bind fun s12 =>
    if (decide (0 ≤ (((s12.2.1 : Nat) : Int) : Int)) && decide ((((s12.2.1 : Nat) : Int) : Int) ≤ ((s12.2.1 : Nat) : Int)) && decide (((8 : Nat) : Int) * ((s12.2.1 : Nat) : Int) ≤ 281474976710656) && decide ((((s12.2.1 : Nat) : Int) : Int) ≤ 9223372036854775807) && 1 != 0) = true then
    (let h13 := AHeap.put h6 (nx + 9) (some ⟨(madeA [(.int .i64 0)] (Int.toNat ((s12.2.1 : Nat) : Int) * 1)), 1, true⟩)
    F25_L3' J J call Y lf n0 lf x3 x6a x6n x6c (some ((nx + 3), 0)) (some ((nx + 9), 0)) (Int.toNat ((s12.2.1 : Nat) : Int)) (((s12.2.1 : Nat) : Int) == ((s12.2.1 : Nat) : Int)) x26a x26n x26c x27 x28 (((Int.toNat ((s12.2.1 : Nat) : Int)) : Nat) : Int) 0 h13 (nx + 14))
    else none)
    else none)
    else none)
    else
    (some ((.tuple [(.slice x6a x6n x6c), (.int .i64 0)]), h, (nx + 4))) := by kernel_rfl

theorem F25_L2_eq (call : YldF → CallF) (Y : YldF) (lf : Nat) (n0 : Nat) (x3 : Option (Nat × Nat)) (x6a : Option (Nat × Nat)) (x6n : Nat) (x6c : Bool) (x26a : Option (Nat × Nat)) (x26n : Nat) (x26c : Bool) (x27 : Int) (x28 : Int) (h : AHeap) (nx : Nat) : F25_L2 call Y lf (n0 + 1) x3 x6a x6n x6c x26a x26n x26c x27 x28 h nx =
    if (decide ((x28 : Int) < x27)) = true then
    ((x26a).bind fun p1 =>
    if 0 ≤ (x28 : Int) ∧ x28 < ((x26n : Nat) : Int) then
    ((ldA h p1.1 (p1.2 + Int.toNat x28 * 1)).bind fun v2 =>
    (asSl v2).bind fun s3 =>
    let h4 := AHeap.put h (nx + 3) (some ⟨[(.slice none 0 false)], 1, true⟩)
    (stA h4 (nx + 3) 0 (.slice s3.1 s3.2.1 s3.2.2) 1).bind fun b5 =>
    let h6 := AHeap.put h4 (nx + 3) (some b5)
    (x3).bind fun p7 =>
    (ldA h6 p7.1 p7.2).bind fun v8 =>
    (asSl v8).bind fun s9 =>
    (s9.1).bind fun p10 =>
    if 0 ≤ (0 : Int) ∧ 0 < ((s9.2.1 : Nat) : Int) then
    ((ldA h6 p10.1 (p10.2 + Int.toNat 0 * 1)).bind fun v11 =>
    (asSl v11).bind fun s12 =>
    if (decide (0 ≤ (((s12.2.1 : Nat) : Int) : Int)) && decide ((((s12.2.1 : Nat) : Int) : Int) ≤ ((s12.2.1 : Nat) : Int)) && decide (((8 : Nat) : Int) * ((s12.2.1 : Nat) : Int) ≤ 281474976710656) && decide ((((s12.2.1 : Nat) : Int) : Int) ≤ 9223372036854775807) && 1 != 0) = true then
    (let h13 := AHeap.put h6 (nx + 9) (some ⟨(madeA [(.int .i64 0)] (Int.toNat ((s12.2.1 : Nat) : Int) * 1)), 1, true⟩)
    F25_L3 call Y lf n0 lf x3 x6a x6n x6c (some ((nx + 3), 0)) (some ((nx + 9), 0)) (Int.toNat ((s12.2.1 : Nat) : Int)) (((s12.2.1 : Nat) : Int) == ((s12.2.1 : Nat) : Int)) x26a x26n x26c x27 x28 (((Int.toNat ((s12.2.1 : Nat) : Int)) : Nat) : Int) 0 h13 (nx + 14))
    else none)
    else none)
    else none)
    else
    (some ((.tuple [(.slice x6a x6n x6c), (.int .i64 0)]), h, (nx + 4))) := F25_L2_eq' go1 call Y lf n0 x3 x6a x6n x6c x26a x26n x26c x27 x28 h nx

theorem F25_L2_zero (call : YldF → CallF) (Y : YldF) (lf : Nat) (x3 : Option (Nat × Nat)) (x6a : Option (Nat × Nat)) (x6n : Nat) (x6c : Bool) (x26a : Option (Nat × Nat)) (x26n : Nat) (x26c : Bool) (x27 : Int) (x28 : Int) (h : AHeap) (nx : Nat) : F25_L2 call Y lf 0 x3 x6a x6n x6c x26a x26n x26c x27 x28 h nx = none := by kernel_rfl

theorem F25_L3_eq' (J : StepF (AV × AHeap × Nat) → StepF (AV × AHeap × Nat)) (call : YldF → CallF) (Y : YldF) (lf : Nat) (n0 : Nat) (n1 : Nat) (x3 : Option (Nat × Nat)) (x6a : Option (Nat × Nat)) (x6n : Nat) (x6c : Bool) (x8 : Option (Nat × Nat)) (x9a : Option (Nat × Nat)) (x9n : Nat) (x9c : Bool) (x26a : Option (Nat × Nat)) (x26n : Nat) (x26c : Bool) (x27 : Int) (x28 : Int) (x38 : Int) (x39 : Int) (h : AHeap) (nx : Nat) : F25_L3' go1 J call Y lf n0 (n1 + 1) x3 x6a x6n x6c x8 x9a x9n x9c x26a x26n x26c x27 x28 x38 x39 h nx =
    if (decide ((x39 : Int) < x38)) = true then
    (let h1 := AHeap.put h (nx + 2) (some ⟨[(.int .i64 0)], 1, true⟩)
    (stA h1 (nx + 2) 0 (.int .i64 x39) 1).bind fun b2 =>
    let h3 := AHeap.put h1 (nx + 2) (some b2)
    (ldA h3 (nx + 2) 0).bind fun v4 =>
    (asI .i64 v4).bind fun n5 =>
    (x3).bind fun p6 =>
    (ldA h3 p6.1 p6.2).bind fun v7 =>
    (asSl v7).bind fun s8 =>
    (call Y 44 [(.int .i64 ((s8.2.1 : Nat) : Int)), (.fn 45 [] [(.ptr x8), (.ptr x3), (.ptr (some ((nx + 2), 0)))])] h3 (nx + 12)).bind fun r9 =>
    (asI .i64 r9.1).bind fun n10 =>
    (x9a).bind fun p11 =>
    if 0 ≤ (n5 : Int) ∧ n5 < ((x9n : Nat) : Int) then
    ((stA r9.2.1 p11.1 (p11.2 + Int.toNat n5 * 1) (.int .i64 n10) 1).bind fun b12 =>
    let h13 := AHeap.put r9.2.1 p11.1 (some b12)
    ifKept [(h3, r9.2.1, [(nx + 2)])]
    (F25_L3' J J call Y lf n0 n1 x3 x6a x6n x6c x8 x9a x9n x9c x26a x26n x26c x27 x28 x38 (wrapA .i64 (x39 + 1)) h13 (r9.2.2 + 2)))
    else none)
    else
    (let h14 := AHeap.put h (nx + 3) (some ⟨[(.slice x9a x9n x9c)], 1, true⟩)
    (srcS h14 (some ((nx + 3), 0)) 1 1).bind fun q15 =>
    (appD h14 x6a x6n x6c 1 24 (nx + 4) q15).bind fun e16 =>
    let h17 := AHeap.puts h14 e16.sets
    F25_L2' J J call Y lf n0 x3 e16.a e16.n e16.c x26a x26n x26c x27 (wrapA .i64 (x28 + 1)) h17 (nx + 8)) := by kernel_rfl

theorem F25_L3_eq (call : YldF → CallF) (Y : YldF) (lf : Nat) (n0 : Nat) (n1 : Nat) (x3 : Option (Nat × Nat)) (x6a : Option (Nat × Nat)) (x6n : Nat) (x6c : Bool) (x8 : Option (Nat × Nat)) (x9a : Option (Nat × Nat)) (x9n : Nat) (x9c : Bool) (x26a : Option (Nat × Nat)) (x26n : Nat) (x26c : Bool) (x27 : Int) (x28 : Int) (x38 : Int) (x39 : Int) (h : AHeap) (nx : Nat) : F25_L3 call Y lf n0 (n1 + 1) x3 x6a x6n x6c x8 x9a x9n x9c x26a x26n x26c x27 x28 x38 x39 h nx =
    if (decide ((x39 : Int) < x38)) = true then
    (let h1 := AHeap.put h (nx + 2) (some ⟨[(.int .i64 0)], 1, true⟩)
    (stA h1 (nx + 2) 0 (.int .i64 x39) 1).bind fun b2 =>
    let h3 := AHeap.put h1 (nx + 2) (some b2)
    (ldA h3 (nx + 2) 0).bind fun v4 =>
    (asI .i64 v4).bind fun n5 =>
    (x3).bind fun p6 =>
    (ldA h3 p6.1 p6.2).bind fun v7 =>
    (asSl v7).bind fun s8 =>
    (call Y 44 [(.int .i64 ((s8.2.1 : Nat) : Int)), (.fn 45 [] [(.ptr x8), (.ptr x3), (.ptr (some ((nx + 2), 0)))])] h3 (nx + 12)).bind fun r9 =>
    (asI .i64 r9.1).bind fun n10 =>
    (x9a).bind fun p11 =>
    if 0 ≤ (n5 : Int) ∧ n5 < ((x9n : Nat) : Int) then
    ((stA r9.2.1 p11.1 (p11.2 + Int.toNat n5 * 1) (.int .i64 n10) 1).bind fun b12 =>
    let h13 := AHeap.put r9.2.1 p11.1 (some b12)
    ifKept [(h3, r9.2.1, [(nx + 2)])]
    (F25_L3 call Y lf n0 n1 x3 x6a x6n x6c x8 x9a x9n x9c x26a x26n x26c x27 x28 x38 (wrapA .i64 (x39 + 1)) h13 (r9.2.2 + 2)))
    else none)
    else
    (let h14 := AHeap.put h (nx + 3) (some ⟨[(.slice x9a x9n x9c)], 1, true⟩)
    (srcS h14 (some ((nx + 3), 0)) 1 1).bind fun q15 =>
    (appD h14 x6a x6n x6c 1 24 (nx + 4) q15).bind fun e16 =>
    let h17 := AHeap.puts h14 e16.sets
    F25_L2 call Y lf n0 x3 e16.a e16.n e16.c x26a x26n x26c x27 (wrapA .i64 (x28 + 1)) h17 (nx + 8)) := F25_L3_eq' go1 call Y lf n0 n1 x3 x6a x6n x6c x8 x9a x9n x9c x26a x26n x26c x27 x28 x38 x39 h nx

theorem F25_L3_zero (call : YldF → CallF) (Y : YldF) (lf : Nat) (n0 : Nat) (x3 : Option (Nat × Nat)) (x6a : Option (Nat × Nat)) (x6n : Nat) (x6c : Bool) (x8 : Option (Nat × Nat)) (x9a : Option (Nat × Nat)) (x9n : Nat) (x9c : Bool) (x26a : Option (Nat × Nat)) (x26n : Nat) (x26c : Bool) (x27 : Int) (x28 : Int) (x38 : Int) (x39 : Int) (h : AHeap) (nx : Nat) : F25_L3 call Y lf n0 0 x3 x6a x6n x6c x8 x9a x9n x9c x26a x26n x26c x27 x28 x38 x39 h nx = none := by kernel_rfl

theorem F25_eq' (J : StepF (AV × AHeap × Nat) → StepF (AV × AHeap × Nat)) (n : Nat) (Y : YldF) (x0a : Option (Nat × Nat)) (x0n : Nat) (x0c : Bool) (x1a : Option (Nat × Nat)) (x1n : Nat) (x1c : Bool) (h : AHeap) (nx : Nat) : rootJ J Try.prog keepT (callP Try.prog keepT n) Y n 25 [(.slice x0a x0n x0c), (.slice x1a x1n x1c)] h nx =
    let h1 := AHeap.put h nx (some ⟨[(.slice x1a x1n x1c)], 1, true⟩)
    ((callP Try.prog keepT n) Y 43 [(.slice x0a x0n x0c)] h1 (nx + 11)).bind fun r2 =>
    (asB r2.1).bind fun t3 =>
    if (!t3) = true then
    (some ((.tuple [(.slice none 0 false), (.int .i64 4)]), r2.2.1, (r2.2.2 + 2)))
    else
    ((ldA r2.2.1 nx 0).bind fun v4 =>
    (asSl v4).bind fun s5 =>
    ((callP Try.prog keepT n) Y 43 [(.slice s5.1 s5.2.1 s5.2.2)] r2.2.1 r2.2.2).bind fun r6 =>
    (asB r6.1).bind fun t7 =>
    if (!t7) = true then
    (some ((.tuple [(.slice none 0 false), (.int .i64 4)]), r6.2.1, (r6.2.2 + 2)))
    else
    (F25_J1' J J (callP Try.prog keepT n) Y n x0a x0n x0c (some (nx, 0)) r6.2.1 r6.2.2)) := by kernel_rfl

/-- quickset/mat.Mul -/
theorem F25_eq (n : Nat) (Y : YldF) (x0a : Option (Nat × Nat)) (x0n : Nat) (x0c : Bool) (x1a : Option (Nat × Nat)) (x1n : Nat) (x1c : Bool) (h : AHeap) (nx : Nat) : callP Try.prog keepT (n + 1) Y 25 [(.slice x0a x0n x0c), (.slice x1a x1n x1c)] h nx =
    let h1 := AHeap.put h nx (some ⟨[(.slice x1a x1n x1c)], 1, true⟩)
    ((callP Try.prog keepT n) Y 43 [(.slice x0a x0n x0c)] h1 (nx + 11)).bind fun r2 =>
    (asB r2.1).bind fun t3 =>
    if (!t3) = true then
    (some ((.tuple [(.slice none 0 false), (.int .i64 4)]), r2.2.1, (r2.2.2 + 2)))
    else
    ((ldA r2.2.1 nx 0).bind fun v4 =>
    (asSl v4).bind fun s5 =>
    ((callP Try.prog keepT n) Y 43 [(.slice s5.1 s5.2.1 s5.2.2)] r2.2.1 r2.2.2).bind fun r6 =>
    (asB r6.1).bind fun t7 =>
    if (!t7) = true then
    (some ((.tuple [(.slice none 0 false), (.int .i64 4)]), r6.2.1, (r6.2.2 + 2)))
    else
    (F25_J1 (callP Try.prog keepT n) Y n x0a x0n x0c (some (nx, 0)) r6.2.1 r6.2.2)) := F25_eq' go1 n Y x0a x0n x0c x1a x1n x1c h nx

noncomputable def c26 : Code := (Try.f26.body).getD .skip

noncomputable def r26 : List ResultVar := Try.f26.results.toList

noncomputable def F26_L1' (W J : StepF (AV × AHeap × Nat) → StepF (AV × AHeap × Nat)) (call : YldF → CallF) (Y : YldF) (lf : Nat) (n0 : Nat) (x0a : Option (Nat × Nat)) (x0n : Nat) (x0c : Bool) (x1a : Option (Nat × Nat)) (x1n : Nat) (x1c : Bool) (x5 : Int) (h : AHeap) (nx : Nat) : Option (AV × AHeap × Nat) :=
  goK W J drawK (machOf Try.prog) call Y (keepT 26) lf c26 [1, 1, 0, 1, 0, 9] [n0] (retK (machOf Try.prog) ⟨c26, 27, r26, keepT 26⟩) ⟨27, mkL [(0, (.slice x0a x0n x0c)), (1, (.slice x1a x1n x1c)), (5, (.int .i64 x5))]⟩ h nx

noncomputable def F26_L1 (call : YldF → CallF) (Y : YldF) (lf : Nat) (n0 : Nat) (x0a : Option (Nat × Nat)) (x0n : Nat) (x0c : Bool) (x1a : Option (Nat × Nat)) (x1n : Nat) (x1c : Bool) (x5 : Int) (h : AHeap) (nx : Nat) : Option (AV × AHeap × Nat) := F26_L1' go1 go1 call Y lf n0 x0a x0n x0c x1a x1n x1c x5 h nx

theorem F26_L1_eq' (J : StepF (AV × AHeap × Nat) → StepF (AV × AHeap × Nat)) (call : YldF → CallF) (Y : YldF) (lf : Nat) (n0 : Nat) (x0a : Option (Nat × Nat)) (x0n : Nat) (x0c : Bool) (x1a : Option (Nat × Nat)) (x1n : Nat) (x1c : Bool) (x5 : Int) (h : AHeap) (nx : Nat) : F26_L1' go1 J call Y lf (n0 + 1) x0a x0n x0c x1a x1n x1c x5 h nx =
    if (decide ((x5 : Int) < ((x0n : Nat) : Int))) = true then
    ((x0a).bind fun p1 =>
    if 0 ≤ (x5 : Int) ∧ x5 < ((x0n : Nat) : Int) then
    ((ldA h p1.1 (p1.2 + Int.toNat x5 * 1)).bind fun v2 =>
    (asSl v2).bind fun s3 =>
    (x1a).bind fun p4 =>
    if 0 ≤ (x5 : Int) ∧ x5 < ((x1n : Nat) : Int) then
    ((ldA h p4.1 (p4.2 + Int.toNat x5 * 1)).bind fun v5 =>
    (asSl v5).bind fun s6 =>
    (call Y 28 [(.slice s3.1 s3.2.1 s3.2.2), (.slice s6.1 s6.2.1 s6.2.2)] h (nx + 14)).bind fun r7 =>
    (asB r7.1).bind fun t8 =>
    if (!t8) = true then
    (some ((.bool false), r7.2.1, (r7.2.2 + 1)))
    else
    (F26_L1' J J call Y lf n0 x0a x0n x0c x1a x1n x1c (wrapA .i64 (x5 + 1)) r7.2.1 (r7.2.2 + 3)))
    else none)
    else none)
    else
    (some ((.bool true), h, (nx + 5))) := by kernel_rfl

theorem F26_L1_eq (call : YldF → CallF) (Y : YldF) (lf : Nat) (n0 : Nat) (x0a : Option (Nat × Nat)) (x0n : Nat) (x0c : Bool) (x1a : Option (Nat × Nat)) (x1n : Nat) (x1c : Bool) (x5 : Int) (h : AHeap) (nx : Nat) : F26_L1 call Y lf (n0 + 1) x0a x0n x0c x1a x1n x1c x5 h nx =
    if (decide ((x5 : Int) < ((x0n : Nat) : Int))) = true then
    ((x0a).bind fun p1 =>
    if 0 ≤ (x5 : Int) ∧ x5 < ((x0n : Nat) : Int) then
    ((ldA h p1.1 (p1.2 + Int.toNat x5 * 1)).bind fun v2 =>
    (asSl v2).bind fun s3 =>
    (x1a).bind fun p4 =>
    if 0 ≤ (x5 : Int) ∧ x5 < ((x1n : Nat) : Int) then
    ((ldA h p4.1 (p4.2 + Int.toNat x5 * 1)).bind fun v5 =>
    (asSl v5).bind fun s6 =>
    (call Y 28 [(.slice s3.1 s3.2.1 s3.2.2), (.slice s6.1 s6.2.1 s6.2.2)] h (nx + 14)).bind fun r7 =>
    (asB r7.1).bind fun t8 =>
    if (!t8) = true then
    (some ((.bool false), r7.2.1, (r7.2.2 + 1)))
    else
    (F26_L1 call Y lf n0 x0a x0n x0c x1a x1n x1c (wrapA .i64 (x5 + 1)) r7.2.1 (r7.2.2 + 3)))
    else none)
    else none)
    else
    (some ((.bool true), h, (nx + 5))) := F26_L1_eq' go1 call Y lf n0 x0a x0n x0c x1a x1n x1c x5 h nx

theorem F26_L1_zero (call : YldF → CallF) (Y : YldF) (lf : Nat) (x0a : Option (Nat × Nat)) (x0n : Nat) (x0c : Bool) (x1a : Option (Nat × Nat)) (x1n : Nat) (x1c : Bool) (x5 : Int) (h : AHeap) (nx : Nat) : F26_L1 call Y lf 0 x0a x0n x0c x1a x1n x1c x5 h nx = none := by kernel_rfl

theorem F26_eq' (J : StepF (AV × AHeap × Nat) → StepF (AV × AHeap × Nat)) (n : Nat) (Y : YldF) (x0a : Option (Nat × Nat)) (x0n : Nat) (x0c : Bool) (x1a : Option (Nat × Nat)) (x1n : Nat) (x1c : Bool) (h : AHeap) (nx : Nat) : rootJ J Try.prog keepT (callP Try.prog keepT n) Y n 26 [(.slice x0a x0n x0c), (.slice x1a x1n x1c)] h nx =
    if ((((x0n : Nat) : Int) : Int) != ((x1n : Nat) : Int)) = true then
    (some ((.bool false), h, (nx + 7)))
    else
    (F26_L1' J J (callP Try.prog keepT n) Y n n x0a x0n x0c x1a x1n x1c 0 h (nx + 7)) := by kernel_rfl

/-- quickset/quicksetkeep.sameMatrix -/
theorem F26_eq (n : Nat) (Y : YldF) (x0a : Option (Nat × Nat)) (x0n : Nat) (x0c : Bool) (x1a : Option (Nat × Nat)) (x1n : Nat) (x1c : Bool) (h : AHeap) (nx : Nat) : callP Try.prog keepT (n + 1) Y 26 [(.slice x0a x0n x0c), (.slice x1a x1n x1c)] h nx =
    if ((((x0n : Nat) : Int) : Int) != ((x1n : Nat) : Int)) = true then
    (some ((.bool false), h, (nx + 7)))
    else
    (F26_L1 (callP Try.prog keepT n) Y n n x0a x0n x0c x1a x1n x1c 0 h (nx + 7)) := F26_eq' go1 n Y x0a x0n x0c x1a x1n x1c h nx

noncomputable def c27 : Code := (Try.f27.body).getD .skip

noncomputable def r27 : List ResultVar := Try.f27.results.toList

noncomputable def F27_J1' (W J : StepF (AV × AHeap × Nat) → StepF (AV × AHeap × Nat)) (call : YldF → CallF) (Y : YldF) (lf : Nat) (x0a : Option (Nat × Nat)) (x0n : Nat) (x0c : Bool) (x3 : Option (Nat × Nat)) (h : AHeap) (nx : Nat) : Option (AV × AHeap × Nat) :=
  goK W J drawK (machOf Try.prog) call Y (keepT 27) lf c27 [1, 1] [] (retK (machOf Try.prog) ⟨c27, 39, r27, keepT 27⟩) ⟨39, mkL [(0, (.slice x0a x0n x0c)), (3, (.ptr x3))]⟩ h nx

noncomputable def F27_J1 (call : YldF → CallF) (Y : YldF) (lf : Nat) (x0a : Option (Nat × Nat)) (x0n : Nat) (x0c : Bool) (x3 : Option (Nat × Nat)) (h : AHeap) (nx : Nat) : Option (AV × AHeap × Nat) := F27_J1' go1 go1 call Y lf x0a x0n x0c x3 h nx

noncomputable def F27_L2' (W J : StepF (AV × AHeap × Nat) → StepF (AV × AHeap × Nat)) (call : YldF → CallF) (Y : YldF) (lf : Nat) (n0 : Nat) (x3 : Option (Nat × Nat)) (x6a : Option (Nat × Nat)) (x6n : Nat) (x6c : Bool) (x24a : Option (Nat × Nat)) (x24n : Nat) (x24c : Bool) (x25 : Int) (x26 : Int) (h : AHeap) (nx : Nat) : Option (AV × AHeap × Nat) :=
  goK W J drawK (machOf Try.prog) call Y (keepT 27) lf c27 [1, 1, 1, 1, 0, 1, 0, 9] [n0] (retK (machOf Try.prog) ⟨c27, 39, r27, keepT 27⟩) ⟨39, mkL [(3, (.ptr x3)), (6, (.slice x6a x6n x6c)), (24, (.slice x24a x24n x24c)), (25, (.int .i64 x25)), (26, (.int .i64 x26))]⟩ h nx

noncomputable def F27_L2 (call : YldF → CallF) (Y : YldF) (lf : Nat) (n0 : Nat) (x3 : Option (Nat × Nat)) (x6a : Option (Nat × Nat)) (x6n : Nat) (x6c : Bool) (x24a : Option (Nat × Nat)) (x24n : Nat) (x24c : Bool) (x25 : Int) (x26 : Int) (h : AHeap) (nx : Nat) : Option (AV × AHeap × Nat) := F27_L2' go1 go1 call Y lf n0 x3 x6a x6n x6c x24a x24n x24c x25 x26 h nx

theorem F27_J1_eq' (J : StepF (AV × AHeap × Nat) → StepF (AV × AHeap × Nat)) (call : YldF → CallF) (Y : YldF) (lf : Nat) (x0a : Option (Nat × Nat)) (x0n : Nat) (x0c : Bool) (x3 : Option (Nat × Nat)) (h : AHeap) (nx : Nat) : F27_J1' go1 J call Y lf x0a x0n x0c x3 h nx =
    (x0a).bind fun p1 =>
    if 0 ≤ (0 : Int) ∧ 0 < ((x0n : Nat) : Int) then
    ((ldA h p1.1 (p1.2 + Int.toNat 0 * 1)).bind fun v2 =>
    (asSl v2).bind fun s3 =>
    (x3).bind fun p4 =>
    (ldA h p4.1 p4.2).bind fun v5 =>
    (asSl v5).bind fun s6 =>
    if ((((s3.2.1 : Nat) : Int) : Int) != ((s6.2.1 : Nat) : Int)) = true then
    (some ((.tuple [(.slice none 0 false), (.int .i64 1)]), h, (nx + 9)))
    else
    (F27_L2' J J call Y lf lf x3 none 0 false x0a x0n x0c ((x0n : Nat) : Int) 0 h (nx + 11)))
    else none := by kernel_rfl

theorem F27_J1_eq (call : YldF → CallF) (Y : YldF) (lf : Nat) (x0a : Option (Nat × Nat)) (x0n : Nat) (x0c : Bool) (x3 : Option (Nat × Nat)) (h : AHeap) (nx : Nat) : F27_J1 call Y lf x0a x0n x0c x3 h nx =
    (x0a).bind fun p1 =>
    if 0 ≤ (0 : Int) ∧ 0 < ((x0n : Nat) : Int) then
    ((ldA h p1.1 (p1.2 + Int.toNat 0 * 1)).bind fun v2 =>
    (asSl v2).bind fun s3 =>
    (x3).bind fun p4 =>
    (ldA h p4.1 p4.2).bind fun v5 =>
    (asSl v5).bind fun s6 =>
    if ((((s3.2.1 : Nat) : Int) : Int) != ((s6.2.1 : Nat) : Int)) = true then
    (some ((.tuple [(.slice none 0 false), (.int .i64 1)]), h, (nx + 9)))
    else
    (F27_L2 call Y lf lf x3 none 0 false x0a x0n x0c ((x0n : Nat) : Int) 0 h (nx + 11)))
    else none := F27_J1_eq' go1 call Y lf x0a x0n x0c x3 h nx

theorem F27_L2_eq' (J : StepF (AV × AHeap × Nat) → StepF (AV × AHeap × Nat)) (call : YldF → CallF) (Y : YldF) (lf : Nat) (n0 : Nat) (x3 : Option (Nat × Nat)) (x6a : Option (Nat × Nat)) (x6n : Nat) (x6c : Bool) (x24a : Option (Nat × Nat)) (x24n : Nat) (x24c : Bool) (x25 : Int) (x26 : Int) (h : AHeap) (nx : Nat) : F27_L2' go1 J call Y lf (n0 + 1) x3 x6a x6n x6c x24a x24n x24c x25 x26 h nx =
    if (decide ((x26 : Int) < x25)) = true then
    ((x24a).bind fun p1 =>
    if 0 ≤ (x26 : Int) ∧ x26 < ((x24n : Nat) : Int) then
    ((ldA h p1.1 (p1.2 + Int.toNat x26 * 1)).bind fun v2 =>
    (asSl v2).bind fun s3 =>
    let h4 := AHeap.put h (nx + 3) (some ⟨[(.slice none 0 false)], 1, true⟩)
    (stA h4 (nx + 3) 0 (.slice s3.1 s3.2.1 s3.2.2) 1).bind fun b5 =>
    let h6 := AHeap.put h4 (nx + 3) (some b5)
    (x3).bind fun p7 =>
    (ldA h6 p7.1 p7.2).bind fun v8 =>
    (asSl v8).bind fun s9 =>
    (call Y 44 [(.int .i64 ((s9.2.1 : Nat) : Int)), (.fn 47 [] [(.ptr (some ((nx + 3), 0))), (.ptr x3)])] h6 (nx + 13)).bind fun r10 =>
    (asI .i64 r10.1).bind fun n11 =>
    let h12 := AHeap.put r10.2.1 (nx + 10) (some ⟨[(.int .i64 n11)], 1, true⟩)
    (srcS h12 (some ((nx + 10), 0)) 1 1).bind fun q13 =>
    (appD h12 x6a x6n x6c 1 8 (nx + 11) q13).bind fun e14 =>
    let h15 := AHeap.puts h12 e14.sets
    F27_L2' J J call Y lf n0 x3 e14.a e14.n e14.c x24a x24n x24c x25 (wrapA .i64 (x26 + 1)) h15 (r10.2.2 + 2))
    else none)
    else
    (some ((.tuple [(.slice x6a x6n x6c), (.int .i64 0)]), h, (nx + 4))) := by kernel_rfl

theorem F27_L2_eq (call : YldF → CallF) (Y : YldF) (lf : Nat) (n0 : Nat) (x3 : Option (Nat × Nat)) (x6a : Option (Nat × Nat)) (x6n : Nat) (x6c : Bool) (x24a : Option (Nat × Nat)) (x24n : Nat) (x24c : Bool) (x25 : Int) (x26 : Int) (h : AHeap) (nx : Nat) : F27_L2 call Y lf (n0 + 1) x3 x6a x6n x6c x24a x24n x24c x25 x26 h nx =
    if (decide ((x26 : Int) < x25)) = true then
    ((x24a).bind fun p1 =>
    if 0 ≤ (x26 : Int) ∧ x26 < ((x24n : Nat) : Int) then
    ((ldA h p1.1 (p1.2 + Int.toNat x26 * 1)).bind fun v2 =>
    (asSl v2).bind fun s3 =>
    let h4 := AHeap.put h (nx + 3) (some ⟨[(.slice none 0 false)], 1, true⟩)
    (stA h4 (nx + 3) 0 (.slice s3.1 s3.2.1 s3.2.2) 1).bind fun b5 =>
    let h6 := AHeap.put h4 (nx + 3) (some b5)
    (x3).bind fun p7 =>
    (ldA h6 p7.1 p7.2).bind fun v8 =>
    (asSl v8).bind fun s9 =>
    (call Y 44 [(.int .i64 ((s9.2.1 : Nat) : Int)), (.fn 47 [] [(.ptr (some ((nx + 3), 0))), (.ptr x3)])] h6 (nx + 13)).bind fun r10 =>
    (asI .i64 r10.1).bind fun n11 =>
    let h12 := AHeap.put r10.2.1 (nx + 10) (some ⟨[(.int .i64 n11)], 1, true⟩)
    (srcS h12 (some ((nx + 10), 0)) 1 1).bind fun q13 =>
    (appD h12 x6a x6n x6c 1 8 (nx + 11) q13).bind fun e14 =>
    let h15 := AHeap.puts h12 e14.sets
    F27_L2 call Y lf n0 x3 e14.a e14.n e14.c x24a x24n x24c x25 (wrapA .i64 (x26 + 1)) h15 (r10.2.2 + 2))
    else none)
    else
    (some ((.tuple [(.slice x6a x6n x6c), (.int .i64 0)]), h, (nx + 4))) := F27_L2_eq' go1 call Y lf n0 x3 x6a x6n x6c x24a x24n x24c x25 x26 h nx

theorem F27_L2_zero (call : YldF → CallF) (Y : YldF) (lf : Nat) (x3 : Option (Nat × Nat)) (x6a : Option (Nat × Nat)) (x6n : Nat) (x6c : Bool) (x24a : Option (Nat × Nat)) (x24n : Nat) (x24c : Bool) (x25 : Int) (x26 : Int) (h : AHeap) (nx : Nat) : F27_L2 call Y lf 0 x3 x6a x6n x6c x24a x24n x24c x25 x26 h nx = none := by kernel_rfl

theorem F27_eq' (J : StepF (AV × AHeap × Nat) → StepF (AV × AHeap × Nat)) (n : Nat) (Y : YldF) (x0a : Option (Nat × Nat)) (x0n : Nat) (x0c : Bool) (x1a : Option (Nat × Nat)) (x1n : Nat) (x1c : Bool) (h : AHeap) (nx : Nat) : rootJ J Try.prog keepT (callP Try.prog keepT n) Y n 27 [(.slice x0a x0n x0c), (.slice x1a x1n x1c)] h nx =
    let h1 := AHeap.put h nx (some ⟨[(.slice x1a x1n x1c)], 1, true⟩)
    ((callP Try.prog keepT n) Y 43 [(.slice x0a x0n x0c)] h1 (nx + 11)).bind fun r2 =>
    (asB r2.1).bind fun t3 =>
    if (!t3) = true then
    (some ((.tuple [(.slice none 0 false), (.int .i64 4)]), r2.2.1, (r2.2.2 + 2)))
    else
    ((ldA r2.2.1 nx 0).bind fun v4 =>
    (asSl v4).bind fun s5 =>
    ((callP Try.prog keepT n) Y 46 [(.slice s5.1 s5.2.1 s5.2.2)] r2.2.1 r2.2.2).bind fun r6 =>
    (asB r6.1).bind fun t7 =>
    if (!t7) = true then
    (some ((.tuple [(.slice none 0 false), (.int .i64 4)]), r6.2.1, (r6.2.2 + 2)))
    else
    (F27_J1' J J (callP Try.prog keepT n) Y n x0a x0n x0c (some (nx, 0)) r6.2.1 r6.2.2)) := by kernel_rfl

/-- quickset/mat.Apply -/
theorem F27_eq (n : Nat) (Y : YldF) (x0a : Option (Nat × Nat)) (x0n : Nat) (x0c : Bool) (x1a : Option (Nat × Nat)) (x1n : Nat) (x1c : Bool) (h : AHeap) (nx : Nat) : callP Try.prog keepT (n + 1) Y 27 [(.slice x0a x0n x0c), (.slice x1a x1n x1c)] h nx =
    let h1 := AHeap.put h nx (some ⟨[(.slice x1a x1n x1c)], 1, true⟩)
    ((callP Try.prog keepT n) Y 43 [(.slice x0a x0n x0c)] h1 (nx + 11)).bind fun r2 =>
    (asB r2.1).bind fun t3 =>
    if (!t3) = true then
    (some ((.tuple [(.slice none 0 false), (.int .i64 4)]), r2.2.1, (r2.2.2 + 2)))
    else
    ((ldA r2.2.1 nx 0).bind fun v4 =>
    (asSl v4).bind fun s5 =>
    ((callP Try.prog keepT n) Y 46 [(.slice s5.1 s5.2.1 s5.2.2)] r2.2.1 r2.2.2).bind fun r6 =>
    (asB r6.1).bind fun t7 =>
    if (!t7) = true then
    (some ((.tuple [(.slice none 0 false), (.int .i64 4)]), r6.2.1, (r6.2.2 + 2)))
    else
    (F27_J1 (callP Try.prog keepT n) Y n x0a x0n x0c (some (nx, 0)) r6.2.1 r6.2.2)) := F27_eq' go1 n Y x0a x0n x0c x1a x1n x1c h nx

end Go.Proofs.Ytdfopcgfhjijgaa.T

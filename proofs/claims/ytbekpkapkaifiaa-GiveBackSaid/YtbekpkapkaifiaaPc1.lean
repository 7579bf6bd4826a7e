/- Printed by mp.py: functions of the program as plain Lean, each by the kernel. -/
import Derived.Test.YtbekpkapkaifiaaTG
import Derived.Test.YtbekpkapkaifiaaProg
import Derived.KernelRfl
set_option linter.unusedVariables false
set_option linter.unusedSimpArgs false
namespace Go.Proofs.Ytbekpkapkaifiaa.T
open Go Go.RowKit Go.Proofs
set_option maxRecDepth 100000

def keepT : Nat → Keep := keepOf [(3, [(0, false, [0, 1]), (1, false, [0, 1]), (2, false, [0, 5]), (3, false, [5, 6, 7, 9]), (4, false, []), (5, false, [5, 6, 7]), (6, false, [5, 6, 7, 10]), (7, false, [5, 6, 7, 10, 11]), (8, false, [5, 6, 7, 10, 11]), (9, false, [5, 6, 7, 10, 11]), (10, false, [5, 6, 7, 10, 11, 12]), (11, false, [5, 6, 7, 10, 11, 12]), (12, false, [5, 6, 7, 10, 11, 12, 53]), (13, false, [5, 6, 7, 10, 11, 12]), (14, false, []), (15, true, [5, 6, 7, 10, 11, 12]), (16, false, [5, 6, 7, 10, 11, 12, 13]), (17, false, [5, 6, 7, 10, 11, 12, 13]), (18, false, [5, 6, 7, 10, 11, 12, 13]), (19, false, []), (20, false, [5, 6, 7, 10, 11, 12, 13]), (21, false, [5, 6, 7, 10, 11, 12, 53]), (22, false, [5, 6, 7, 10, 11, 12]), (23, false, [5, 6, 7, 10, 11, 12, 14]), (24, false, [5, 6, 7, 10, 11, 12, 14]), (25, false, [5, 6, 7, 10, 11, 12, 14]), (26, false, [5, 6, 7, 10, 11, 53]), (27, false, [5, 6, 7, 10, 11]), (28, false, [5, 6, 7, 10, 11, 15]), (29, false, [5, 6, 7, 10, 11, 15]), (30, false, [5, 6, 7, 10, 11, 15]), (31, false, [5, 6, 7, 10, 11, 15]), (32, true, [5, 6, 7, 10, 11]), (33, false, [5, 6, 7, 10, 11, 16]), (34, false, [5, 6, 7, 10, 11, 16, 17]), (35, false, [5, 6, 7, 10, 11, 16, 17]), (36, false, [5, 6, 7, 10, 11, 16, 17]), (37, false, [5, 6, 7, 10, 11, 16, 17]), (38, false, [5, 6, 7, 10, 11, 16]), (39, false, []), (40, false, []), (41, false, [18, 20])]),
  (4, [(0, false, [0, 1, 2]), (1, false, [0, 1, 2]), (2, false, [1, 2, 7]), (3, false, [2, 7, 8]), (4, false, [2, 7, 8, 9, 10]), (5, false, [8, 9, 10, 11, 12]), (6, false, []), (7, true, [8, 9, 11]), (8, false, [8, 9, 11, 13]), (9, false, [8, 9, 11, 13]), (10, false, [8, 9, 11, 13]), (11, false, [8, 9, 11, 13, 14]), (12, false, [8, 9, 11, 13, 14, 15]), (13, false, [8, 9, 11, 13, 14, 15, 16]), (14, false, [8, 9, 11, 13, 14, 15, 16]), (15, false, [8, 9, 11, 13, 14, 15, 16]), (16, false, [8, 9, 11, 13, 15, 16]), (17, false, [8, 9, 11, 13, 14, 15, 16]), (18, false, [8, 9, 11, 13, 14, 15]), (19, false, []), (20, false, [])]),
  (5, [(0, false, [0]), (1, false, [0]), (2, false, [3]), (3, false, [3, 4, 5]), (4, false, [3, 4, 5, 6, 7]), (5, false, [3, 4, 5, 6, 7, 8, 9]), (6, false, [3, 4, 5, 6, 7, 8, 9, 10]), (7, false, [3, 4, 5, 6, 7, 8, 9, 10, 11]), (8, false, [3, 4, 5, 6, 7, 8, 9, 10, 11]), (9, false, [3, 4, 5, 6, 7, 8, 9, 10, 11]), (10, false, [3, 4, 5, 6, 7, 8, 9, 11]), (11, false, [3, 4, 5, 6, 7, 8, 9, 10]), (12, false, [3, 4, 5, 6, 7, 8, 9, 10, 12, 13]), (13, false, [4, 5, 6, 7, 8, 9, 12, 13, 14, 15])]),
  (6, [(0, false, [0, 1]), (1, false, [0, 1]), (2, false, [1, 5]), (3, false, [1, 5, 6, 7]), (4, false, []), (5, false, [1, 5, 6]), (6, false, [5, 6, 8]), (7, false, [5, 6, 8, 9]), (8, false, [5, 6, 8, 9, 10]), (9, false, [5, 6, 8, 9, 10]), (10, false, [5, 6, 8, 9, 10]), (11, false, [5, 6, 8, 10]), (12, false, [6, 8, 9])]),
  (7, [(0, false, [0, 1, 2]), (1, false, [0, 1, 2]), (2, false, [1, 2, 7]), (3, false, [2, 7, 8]), (4, false, [2, 7, 8, 9]), (5, false, [2, 7, 9]), (6, false, [2, 7, 9, 10, 11]), (7, false, []), (8, true, [2, 9, 10])]),
  (8, [(0, false, [0]), (1, false, [1]), (2, false, [3]), (3, false, [3, 4, 5]), (4, false, [3, 4, 5, 6, 7])]),
  (9, [(0, false, [0]), (1, false, [0]), (2, false, [0, 3, 4]), (3, false, []), (4, false, [0, 3, 4]), (5, false, [3]), (6, false, [0, 3]), (7, false, [0, 5, 6])]),
  (10, [(0, false, [0, 1, 2]), (1, false, [1, 2, 3]), (2, false, [1, 2, 7, 8]), (3, false, []), (4, true, [1, 2, 7]), (5, false, [1, 2, 7, 9]), (6, false, [2, 7, 9, 10]), (7, false, [2, 7, 9, 10, 11]), (8, false, [2, 7, 9, 10, 11]), (9, true, [2, 7, 9, 10, 11]), (10, true, [7, 9]), (11, false, [7, 9, 12, 13]), (12, false, [13]), (13, false, [12, 13])]),
  (11, [(0, false, [0, 1, 2]), (1, false, [0, 1, 2]), (2, false, [0, 1, 2, 7]), (3, false, [0, 1, 2, 7, 8]), (4, false, [0, 1, 2, 7, 8, 9]), (5, false, [0, 1, 2, 7, 8, 9, 10]), (6, false, [0, 1, 2, 7, 8, 9, 10]), (7, true, [0, 1, 2, 7, 8, 9, 10]), (8, false, [0, 1, 2, 7, 8, 9, 10, 11]), (9, false, [0, 1, 2, 7, 8, 9, 10, 11, 12, 13]), (10, false, []), (11, true, [0, 1, 2, 7, 8, 9, 10, 11, 12]), (12, false, [0, 1, 2, 7, 8, 9, 10, 11, 12]), (13, false, [0, 1, 2, 7, 8, 9, 10, 11, 12]), (14, false, [0, 1, 2, 7, 10, 11, 12]), (15, false, [0, 1, 2, 7, 8, 10, 12]), (16, true, [0, 1, 2, 7, 8, 9, 10, 12]), (17, false, [0, 1, 2, 7, 8, 9, 10]), (18, false, [0, 1, 2, 7, 8, 9, 10]), (19, true, [7, 8, 9]), (20, false, [8, 9, 14, 15, 16]), (21, false, [15, 16]), (22, false, [8, 9, 14, 15, 16])]),
  (12, [(0, false, [0, 1]), (1, false, [0, 1]), (2, false, [0, 5]), (3, false, [5, 6, 7, 9]), (4, false, []), (5, false, [5, 6, 7]), (6, false, [5, 6, 7, 10]), (7, false, [5, 6, 7, 10, 11]), (8, false, [5, 6, 7, 10, 11, 12]), (9, false, [5, 6, 7, 10, 11, 12]), (10, false, [5, 6, 7, 10, 11, 12]), (11, false, [5, 6, 7, 10, 11, 12, 13]), (12, false, [5, 6, 7, 10, 11, 12, 13]), (13, true, [5, 6, 7, 10, 11, 12, 13]), (14, false, [5, 6, 7, 10, 11, 12, 13, 14]), (15, false, [5, 6, 7, 10, 11, 12, 13]), (16, true, [5, 6, 7, 10, 11, 12, 13, 14]), (17, false, []), (18, true, [5, 6, 7, 10, 11, 12, 13, 14]), (19, false, [5, 10, 11]), (20, false, [5, 10, 11, 15]), (21, false, [5, 10, 11, 15]), (22, false, [5, 10, 11, 15]), (23, false, [5, 10, 11, 15]), (24, false, [5, 11]), (25, false, [5, 11]), (26, false, [5, 11, 16, 17, 18]), (27, false, [5, 11, 16, 18, 19, 20])]),
  (13, [(0, false, [0, 1, 2]), (1, false, [0, 1, 2]), (2, false, [0, 2, 7]), (3, false, [2, 7, 8, 10, 11]), (4, false, []), (5, false, [2, 7, 8, 10]), (6, false, [7, 8, 10, 12]), (7, false, [7, 8, 12, 13, 14]), (8, false, [7, 8, 12, 13, 14, 15, 16]), (9, false, [7, 13, 14, 15, 16, 17]), (10, false, [13, 14, 15, 16, 17, 18, 20]), (11, false, []), (12, true, [15, 16, 18]), (13, false, [15, 16, 21]), (14, false, [21]), (15, false, [15, 16, 21])]),
  (14, [(0, false, [0, 1]), (1, false, [0, 1]), (2, false, [0, 5]), (3, false, [5, 7, 8, 9]), (4, false, []), (5, false, [5, 7, 8]), (6, false, [5, 7, 8, 10, 11]), (7, false, [5, 7, 10, 11, 12, 13]), (8, false, [5, 7, 10, 11, 12, 13, 14, 15]), (9, false, [5, 7, 10, 11, 12, 13, 14, 15, 16]), (10, false, [5, 7, 10, 11, 12, 13, 14, 15]), (11, true, [5, 10, 11, 12, 13, 14, 15, 16])]),
  (15, [(0, false, [0, 1]), (1, false, [0, 1]), (2, false, [0, 1]), (3, false, [0, 1]), (4, false, [0])]),
  (16, [(0, false, [0, 1, 2]), (1, false, [0, 1, 2]), (2, false, [0, 1, 2, 10]), (3, false, [0, 1, 2, 10, 11]), (4, false, [0, 1, 2, 10, 11, 12]), (5, false, [0, 1, 2, 10, 11, 12]), (6, true, [0, 1, 2, 10, 11, 12]), (7, false, [0, 1, 2, 10, 11, 12, 13]), (8, false, [0, 1, 2, 10, 11, 12, 13, 14]), (9, false, [0, 1, 2, 10, 11, 12, 13]), (10, false, [0, 1, 2, 10, 11, 12, 13, 14]), (11, false, [0, 1, 2, 10, 11, 12, 13]), (12, false, [0, 1, 2, 10, 11, 12, 13, 15]), (13, false, [0, 1, 2, 10, 11, 12, 13, 15]), (14, true, [0, 1, 2, 10, 11, 12, 13]), (15, false, [0, 1, 2, 10, 11, 12, 13]), (16, false, [0, 1, 2, 10, 11, 12, 13, 16, 18]), (17, false, []), (18, true, [0, 1, 2, 10, 11, 12, 13, 16]), (19, false, [0, 1, 2, 10, 11, 12, 13, 19]), (20, false, [0, 1, 2, 10, 11, 12, 13, 19]), (21, false, []), (22, true, [0, 1, 2, 10, 11, 12, 13, 19]), (23, true, [2, 10]), (24, false, [10, 20, 21, 22])]),
  (17, [(0, false, [0, 1]), (1, false, [0, 1]), (2, false, []), (3, false, [0, 1]), (4, false, []), (5, false, [0, 1]), (6, false, [1, 7]), (7, false, [1, 7, 8]), (8, false, [7, 8, 23, 24, 25]), (9, false, [7, 8, 23, 24, 25]), (10, false, [7, 8, 10, 23, 24, 25]), (11, false, [7, 8, 11, 23, 24, 25]), (12, false, [7, 8, 11, 23, 24, 25]), (13, false, [7, 8, 23, 24, 25]), (14, false, [7, 8])]),
  (18, [(0, false, [0, 1, 2]), (1, false, [0, 1, 2]), (2, false, [0, 1, 2, 7]), (3, false, [0, 1, 2, 7, 8]), (4, false, [0, 1, 2, 7, 8]), (5, true, [0, 1, 2, 7, 8]), (6, false, [0, 1, 2, 7, 8, 9]), (7, false, [0, 1, 2, 7, 8, 9, 40]), (8, false, [0, 1, 2, 7, 8, 9, 40]), (9, false, [0, 1, 2, 7, 8, 9]), (10, false, [0, 1, 2, 7, 8, 9, 40]), (11, false, [0, 1, 2, 7, 8, 9]), (12, true, [0, 1, 2, 7, 8, 9]), (13, false, [7])]),
  (19, [(0, false, [0]), (1, false, [0]), (2, false, [0, 4]), (3, false, [0, 4, 5]), (4, false, [0, 4, 5]), (5, false, [0, 4, 5]), (6, false, [0, 4]), (7, false, [0, 4, 6, 7]), (8, false, []), (9, true, [0, 6]), (10, false, [0, 6, 8]), (11, false, [0, 6, 8, 9]), (12, false, [0, 6, 8, 9]), (13, false, [0, 6, 8, 9]), (14, false, [0, 6, 8, 9, 10]), (15, false, []), (16, true, [0, 6, 8, 9, 10]), (17, false, [8])]),
  (20, [(0, false, [0, 1]), (1, false, [0, 1]), (2, false, []), (3, false, [0, 1]), (4, false, [0, 1, 5]), (5, false, [0, 1, 5]), (6, false, [0, 1, 5]), (7, false, []), (8, false, [])]),
  (21, [(0, false, [0, 1]), (1, false, [0, 1]), (2, false, []), (3, false, [0, 1]), (4, false, [0, 1, 5]), (5, false, [0, 1, 5]), (6, false, [0, 1, 5]), (7, false, []), (8, false, [])]),
  (22, [(0, false, [0]), (1, false, [0]), (2, false, [0, 3]), (3, false, [0, 3, 4]), (4, false, [0, 3, 4]), (5, false, [0, 3, 4]), (6, false, [3])]),
  (23, [(0, false, [0, 1]), (1, false, [0, 1]), (2, false, []), (3, true, [0, 1]), (4, false, []), (5, false, [0, 1]), (6, false, [1, 6]), (7, false, [1, 6, 7]), (8, false, [6, 7, 21, 22, 23]), (9, false, [6, 7, 21, 22, 23]), (10, false, [6, 7, 9, 21, 22, 23]), (11, false, [6, 7, 21, 22, 23]), (12, false, [7])]),
  (24, [(0, false, [0]), (1, false, [1, 2]), (2, false, [1, 2, 3]), (3, false, [1, 2, 3]), (4, false, [1, 2, 3]), (5, false, [1, 2, 3]), (6, false, [2, 3])]),
  (25, [(0, false, [0]), (1, false, [1]), (2, false, []), (3, false, [1]), (4, false, [1, 4]), (5, false, [1, 4, 17, 18]), (6, false, [1, 4, 17, 18]), (7, false, [1, 4, 6, 17, 18]), (8, false, [1, 4, 17, 18]), (9, false, [1, 4]), (10, false, [4, 29, 30]), (11, false, [4, 29, 30]), (12, false, [4, 8, 29, 30]), (13, false, [4, 29, 30]), (14, false, [4]), (15, false, [4]), (16, false, [4, 9]), (17, false, [4, 46, 47]), (18, false, [4, 46, 47]), (19, false, [4, 12, 46, 47]), (20, false, [4, 46, 47]), (21, false, [4])]),
  (26, [(0, false, [0]), (1, false, [0, 2]), (2, false, [2]), (3, false, [0, 2]), (4, false, [0, 2, 4]), (5, false, [0, 2, 4, 5]), (6, false, [0, 2, 4, 5, 6]), (7, false, [0, 2, 4, 5, 6, 22, 23]), (8, false, [0, 2, 4, 5, 6, 22, 23]), (9, false, [0, 2, 4, 5, 6, 8, 22, 23]), (10, false, [0, 2, 4, 5, 6, 22, 23]), (11, false, [0, 2, 4, 5, 6]), (12, false, [0, 2, 4, 5, 6, 32, 33]), (13, false, [0, 2, 4, 5, 6, 32, 33]), (14, false, [0, 2, 4, 5, 6, 10, 32, 33]), (15, false, [0, 2, 4, 5, 6, 32, 33]), (16, false, [0, 2, 4, 5, 6]), (17, false, [0, 2, 4, 5, 6]), (18, false, [0, 2, 4, 5, 6, 42, 43]), (19, false, [0, 2, 4, 5, 6, 42, 43]), (20, false, [0, 2, 4, 5, 6, 12, 42, 43]), (21, false, [0, 2, 4, 5, 6, 42, 43]), (22, false, [0, 2, 4, 5]), (23, false, [0, 2, 4, 5, 13]), (24, false, [2]), (25, false, [0, 2, 4]), (26, false, [0, 2, 4, 15, 16]), (27, false, [2]), (28, false, [2, 4])]),
  (27, [(0, false, [0]), (1, false, [1]), (2, false, [1, 3])]),
  (28, [(0, false, [0]), (1, false, [0, 2]), (2, false, [0, 2, 5, 6]), (3, false, [2, 5, 6, 12, 13, 14]), (4, false, [2, 5, 6, 12, 13, 14]), (5, false, [2, 5, 6, 7, 8, 12, 13, 14]), (6, false, [2, 5, 6, 7, 9, 10, 12, 13, 14]), (7, false, [2, 5, 7, 9, 12, 13, 14]), (8, false, [2, 5, 6, 12, 13, 14]), (9, false, [2, 5, 6]), (10, false, [2]), (11, false, [2, 5, 6])]),
  (29, [(0, false, [0, 1]), (1, false, [0, 1]), (2, false, [6, 7]), (3, false, [7]), (4, false, [6]), (5, false, [6, 8]), (6, false, [8, 21, 22, 23]), (7, false, [8, 21, 22, 23]), (8, false, [8, 10, 21, 22, 23]), (9, false, [8, 21, 22, 23]), (10, false, [8])]),
  (30, [(0, false, [0, 1]), (1, false, [0, 1]), (2, false, [6, 7]), (3, false, [7]), (4, false, [6]), (5, false, [8]), (6, false, []), (7, false, [8])]),
  (31, [(0, false, [0, 1]), (1, false, [0, 1]), (2, false, []), (3, false, [0, 1]), (4, false, []), (5, false, [0, 1]), (6, false, [1, 13, 14, 15]), (7, false, [1, 13, 14, 15]), (8, false, [1, 7, 13, 14, 15]), (9, false, [7]), (10, false, [1, 13, 14, 15]), (11, false, [])]),
  (32, [(0, false, [0]), (1, false, [0]), (2, false, [0, 5, 6, 7]), (3, false, [0, 5, 6, 7]), (4, false, [0, 3, 4, 5, 6, 7]), (5, false, []), (6, false, [0, 5, 6, 7]), (7, false, [0])]),
  (33, [(0, false, [0]), (1, false, [0]), (2, false, [0, 3]), (3, false, [0, 3]), (4, false, [3, 8, 9, 10]), (5, false, [3, 8, 9, 10]), (6, false, [3, 5, 8, 9, 10]), (7, false, [3, 8, 9, 10]), (8, false, [3])]),
  (34, [(0, false, [0, 1]), (1, false, [0, 1]), (2, false, []), (3, false, [0, 1]), (4, false, [0, 1, 5]), (5, false, [0, 1, 5]), (6, false, [0, 1, 5]), (7, false, []), (8, false, [])]),
  (35, [(0, false, [0]), (1, false, [0])]),
  (36, [(0, false, [0, 1]), (1, false, [0, 3, 4]), (2, false, [0, 3, 4, 6]), (3, false, [0, 3, 4]), (4, false, [0, 3, 4, 6]), (5, false, [0, 3, 4]), (6, false, [0, 4, 6]), (7, false, [0, 4]), (8, false, [4]), (9, false, [4])]),
  (37, [(0, false, [0]), (1, false, [0])]),
  (38, [(0, false, [0, 1]), (1, false, [0, 3, 4]), (2, false, [0, 3, 4, 5]), (3, false, [4, 5]), (4, false, [0, 3, 4]), (5, false, [0, 3, 4, 14]), (6, false, [0, 3, 4]), (7, false, [0, 3, 4, 14]), (8, false, [0, 3, 4]), (9, false, [0, 3, 4, 14]), (10, false, [0, 4]), (11, false, [0, 3, 4, 14]), (12, false, [0, 3, 4]), (13, false, [0, 3, 4, 14]), (14, false, [0, 3, 4]), (15, false, [0, 3, 4, 14]), (16, false, [0, 3, 4]), (17, false, [0, 4, 14]), (18, false, [0, 4]), (19, false, [0, 4, 14]), (20, false, [0, 4]), (21, false, [4])]),
  (39, [(0, false, [0]), (1, false, [0, 2])]),
  (40, [(0, false, [0, 1, 2]), (1, false, [0, 1, 2]), (2, false, [0, 1, 7, 8]), (3, false, [0, 1, 7, 8]), (4, false, [0, 1, 7, 8]), (5, false, [0, 1, 7, 8]), (6, false, [0])]),
  (41, [(0, false, [0]), (1, false, [0, 2])]),
  (42, [(0, false, [0]), (1, false, [0, 2])]),
  (43, [(0, false, [0, 1]), (1, false, [0, 1]), (2, false, [0, 1, 5]), (3, false, [0, 1, 5, 6]), (4, false, [0, 1, 5, 6]), (5, false, [0, 1, 5, 6]), (6, false, [0, 1, 5]), (7, false, [5])]),
  (44, [(0, false, [0, 1]), (1, false, [0, 1]), (2, false, []), (3, false, [0, 1]), (4, false, [0, 1, 12, 13]), (5, false, [0, 1, 12, 13]), (6, false, [0, 1, 5, 12, 13]), (7, false, []), (8, false, [0, 1, 12, 13]), (9, false, [])]),
  (45, [(0, false, [0, 1, 2]), (1, false, [0, 1, 2])]),
  (46, [(0, false, [0, 1]), (1, false, [0, 1]), (2, false, []), (3, false, [0, 1]), (4, false, []), (5, false, [0, 1]), (6, false, [0, 1, 6]), (7, false, [0, 6, 22, 23, 24]), (8, false, [0, 6, 22, 23, 24]), (9, false, [0, 6, 8, 22, 23, 24]), (10, false, [0, 6, 8, 9, 10, 22, 23, 24]), (11, false, [0, 6, 8, 9, 10, 22, 23, 24]), (12, true, [0, 6, 8, 9, 10, 22, 23, 24]), (13, false, [0, 6, 9, 10, 11, 22, 23, 24]), (14, false, []), (15, true, [0, 6, 10, 11, 22, 23, 24]), (16, false, [0, 6, 22, 23, 24]), (17, false, [6])]),
  (47, [(0, false, [0, 1]), (1, false, [0, 1]), (2, false, [0, 1, 5]), (3, false, [0, 1, 5, 6]), (4, false, [0, 1, 5, 6, 7]), (5, false, [0, 1, 5, 6, 7]), (6, false, [0, 1, 5, 6, 7]), (7, true, [0, 1, 5, 6, 7, 8]), (8, false, [0, 1, 5, 7]), (9, false, [0, 1, 5, 6, 7, 8]), (10, false, [0, 1, 5, 6, 7]), (11, false, [0, 1, 5, 7]), (12, false, [5])]),
  (48, [(0, false, [0]), (1, false, [0])]),
  (49, [(0, false, [0]), (1, false, [0])]),
  (50, [(0, false, [0]), (1, false, [1])]),
  (51, [(0, false, [0, 1]), (1, false, [0, 1, 4]), (2, false, [4]), (3, true, [0, 1, 4]), (4, false, [0, 1, 4, 5]), (5, false, [0, 1, 4, 5, 24, 25, 26]), (6, false, [0, 1, 4, 5, 24, 25, 26]), (7, false, [0, 1, 4, 5, 6, 7, 24, 25, 26]), (8, false, [0, 1, 4, 5, 6, 7, 24, 25, 26]), (9, false, [0, 1, 4, 6, 24, 25, 26]), (10, true, [0, 1, 4, 5, 6, 24, 25, 26]), (11, false, [0, 1, 4, 6]), (12, false, [0, 1, 4, 8]), (13, false, [0, 1, 4, 8]), (14, false, [0, 4, 8]), (15, false, [4, 8]), (16, false, [0, 1, 4, 5, 24, 25, 26]), (17, false, [4])]),
  (52, [(0, false, [0, 1]), (1, false, [0, 3]), (2, false, []), (3, true, [0, 3]), (4, false, [0, 5]), (5, false, []), (6, false, [0, 5]), (7, false, [])]),
  (53, [(0, false, [0]), (1, false, [0, 7, 8, 9]), (2, false, [0, 7, 8, 9]), (3, false, [0, 3, 7, 8, 9]), (4, false, [0, 3, 7, 8, 9]), (5, false, [0, 3, 7, 8, 9]), (6, false, [0, 7, 8, 9]), (7, false, [0]), (8, false, [0, 43, 44, 45]), (9, false, [0, 43, 44, 45]), (10, false, [0, 4, 5, 43, 44, 45]), (11, false, [0, 4, 43, 44, 45]), (12, false, [0, 43, 44, 45])]),
  (54, [(0, false, [0, 1]), (1, false, [0, 3]), (2, false, []), (3, false, [0, 3]), (4, false, []), (5, true, [0, 3]), (6, false, [0, 3, 25]), (7, false, [0, 3, 25]), (8, false, [0, 3, 25]), (9, false, [0, 3, 25]), (10, false, [0, 3]), (11, false, []), (12, true, [3]), (13, false, []), (14, false, [])]),
  (55, [(0, false, [0]), (1, false, [0]), (2, false, []), (3, false, [0])]),
  (56, [(0, false, [0, 1]), (1, false, [0, 3, 4]), (2, false, [3, 4, 14]), (3, false, [3, 4, 6]), (4, false, [4, 6]), (5, false, [0, 3, 4]), (6, false, [4, 7]), (7, false, [4]), (8, false, [4, 7]), (9, false, [4]), (10, false, [4, 7]), (1000013, false, [3, 135]), (2000013, false, [3, 4])]),
  (57, [(0, false, [0, 1]), (1, false, [0, 1, 9, 10, 11]), (2, false, [0, 1, 9, 10, 11]), (3, false, [0, 1, 4, 5, 9, 10, 11]), (4, false, [0, 1, 5, 9, 10, 11]), (5, false, [0, 1, 9, 10, 11]), (6, false, [0])]),
  (58, [(0, false, []), (1, false, [])]),
  (59, [(0, false, [0, 1]), (1, false, [0, 1])]),
  (60, [(0, false, [0, 1]), (1, false, [1, 2, 4]), (2, false, [4]), (3, false, [1, 2, 4]), (4, false, [1, 4, 6]), (5, false, [1, 4, 6]), (6, false, [1, 4, 6]), (7, false, [4, 6])]),
  (61, [(0, false, [0, 1, 2]), (1, false, [0, 2, 4]), (2, false, [2, 17, 18, 19]), (3, false, [2, 17, 18, 19]), (4, false, [2, 8, 17, 18, 19]), (5, false, []), (6, false, [2, 17, 18, 19]), (7, false, [])]),
  (62, [(0, false, [0, 1, 2]), (1, false, [0, 2, 4]), (2, false, [0, 2, 4, 6]), (3, false, [0, 2, 4, 6]), (4, false, [0, 2, 4, 6])]),
  (63, [(0, false, [0]), (1, false, [0])]),
  (64, [(0, false, [0]), (1, false, [1])]),
  (65, [(0, false, [0]), (1, false, [1, 2])]),
  (66, [(0, false, [0, 1]), (1, false, [1, 2, 4]), (2, false, [1, 2, 4, 6]), (3, false, [1, 2, 4, 6]), (4, false, [1, 2, 4, 5, 6]), (5, false, [2, 4, 5, 6]), (6, false, [1, 2, 4, 6]), (7, false, [2, 4])]),
  (67, [(0, false, [0]), (1, false, [1, 2])]),
  (68, [(0, false, [0, 1]), (1, false, [0, 1, 3]), (2, false, [0, 1, 3]), (3, false, [0, 1, 3])])]

noncomputable def c3 : Code := (Try.f3.body).getD .skip

noncomputable def r3 : List ResultVar := Try.f3.results.toList

noncomputable def F3_L1' (W J : StepF (AV × AHeap × Nat) → StepF (AV × AHeap × Nat)) (call : YldF → CallF) (Y : YldF) (lf : Nat) (n0 : Nat) (x5 : Int) (x6a : Option (Nat × Nat)) (x6n : Nat) (x6c : Bool) (x7a : Option (Nat × Nat)) (x7n : Nat) (x7c : Bool) (x10a : Option (Nat × Nat)) (x10n : Nat) (x10c : Bool) (x11 : Int) (h : AHeap) (nx : Nat) : Option (AV × AHeap × Nat) :=
  goK W J drawK (machOf Try.prog) call Y (keepT 3) lf c3 [1, 1, 1, 1, 1, 0, 1, 0, 9] [n0] (retK (machOf Try.prog) ⟨c3, 178, r3, keepT 3⟩) ⟨178, mkL [(5, (.int .i64 x5)), (6, (.slice x6a x6n x6c)), (7, (.slice x7a x7n x7c)), (10, (.slice x10a x10n x10c)), (11, (.int .i64 x11))]⟩ h nx

noncomputable def F3_L1 (call : YldF → CallF) (Y : YldF) (lf : Nat) (n0 : Nat) (x5 : Int) (x6a : Option (Nat × Nat)) (x6n : Nat) (x6c : Bool) (x7a : Option (Nat × Nat)) (x7n : Nat) (x7c : Bool) (x10a : Option (Nat × Nat)) (x10n : Nat) (x10c : Bool) (x11 : Int) (h : AHeap) (nx : Nat) : Option (AV × AHeap × Nat) := F3_L1' go1 go1 call Y lf n0 x5 x6a x6n x6c x7a x7n x7c x10a x10n x10c x11 h nx

noncomputable def F3_J2' (W J : StepF (AV × AHeap × Nat) → StepF (AV × AHeap × Nat)) (call : YldF → CallF) (Y : YldF) (lf : Nat) (n0 : Nat) (x5 : Int) (x6a : Option (Nat × Nat)) (x6n : Nat) (x6c : Bool) (x7a : Option (Nat × Nat)) (x7n : Nat) (x7c : Bool) (x10a : Option (Nat × Nat)) (x10n : Nat) (x10c : Bool) (x11 : Int) (x12 : Option (Nat × Nat)) (h : AHeap) (nx : Nat) : Option (AV × AHeap × Nat) :=
  goK W J drawK (machOf Try.prog) call Y (keepT 3) lf c3 [1, 1, 1, 1, 1, 0, 1, 0, 0, 1, 0, 0, 1, 1, 0, 1, 0, 1, 0, 1] [n0] (retK (machOf Try.prog) ⟨c3, 178, r3, keepT 3⟩) ⟨178, mkL [(5, (.int .i64 x5)), (6, (.slice x6a x6n x6c)), (7, (.slice x7a x7n x7c)), (10, (.slice x10a x10n x10c)), (11, (.int .i64 x11)), (12, (.ptr x12))]⟩ h nx

noncomputable def F3_J2 (call : YldF → CallF) (Y : YldF) (lf : Nat) (n0 : Nat) (x5 : Int) (x6a : Option (Nat × Nat)) (x6n : Nat) (x6c : Bool) (x7a : Option (Nat × Nat)) (x7n : Nat) (x7c : Bool) (x10a : Option (Nat × Nat)) (x10n : Nat) (x10c : Bool) (x11 : Int) (x12 : Option (Nat × Nat)) (h : AHeap) (nx : Nat) : Option (AV × AHeap × Nat) := F3_J2' go1 go1 call Y lf n0 x5 x6a x6n x6c x7a x7n x7c x10a x10n x10c x11 x12 h nx

noncomputable def F3_L3' (W J : StepF (AV × AHeap × Nat) → StepF (AV × AHeap × Nat)) (call : YldF → CallF) (Y : YldF) (lf : Nat) (n0 : Nat) (n1 : Nat) (x5 : Int) (x6a : Option (Nat × Nat)) (x6n : Nat) (x6c : Bool) (x7a : Option (Nat × Nat)) (x7n : Nat) (x7c : Bool) (x10a : Option (Nat × Nat)) (x10n : Nat) (x10c : Bool) (x11 : Int) (x12 : Option (Nat × Nat)) (x14 : Int) (h : AHeap) (nx : Nat) : Option (AV × AHeap × Nat) :=
  goK W J drawK (machOf Try.prog) call Y (keepT 3) lf c3 [1, 1, 1, 1, 1, 0, 1, 0, 0, 1, 0, 0, 1, 1, 0, 1, 0, 1, 1, 1, 0, 1, 0, 9] [n0, n1] (retK (machOf Try.prog) ⟨c3, 178, r3, keepT 3⟩) ⟨178, mkL [(5, (.int .i64 x5)), (6, (.slice x6a x6n x6c)), (7, (.slice x7a x7n x7c)), (10, (.slice x10a x10n x10c)), (11, (.int .i64 x11)), (12, (.ptr x12)), (14, (.int .i64 x14))]⟩ h nx

noncomputable def F3_L3 (call : YldF → CallF) (Y : YldF) (lf : Nat) (n0 : Nat) (n1 : Nat) (x5 : Int) (x6a : Option (Nat × Nat)) (x6n : Nat) (x6c : Bool) (x7a : Option (Nat × Nat)) (x7n : Nat) (x7c : Bool) (x10a : Option (Nat × Nat)) (x10n : Nat) (x10c : Bool) (x11 : Int) (x12 : Option (Nat × Nat)) (x14 : Int) (h : AHeap) (nx : Nat) : Option (AV × AHeap × Nat) := F3_L3' go1 go1 call Y lf n0 n1 x5 x6a x6n x6c x7a x7n x7c x10a x10n x10c x11 x12 x14 h nx

noncomputable def F3_L4' (W J : StepF (AV × AHeap × Nat) → StepF (AV × AHeap × Nat)) (call : YldF → CallF) (Y : YldF) (lf : Nat) (n0 : Nat) (n1 : Nat) (x5 : Int) (x6a : Option (Nat × Nat)) (x6n : Nat) (x6c : Bool) (x7a : Option (Nat × Nat)) (x7n : Nat) (x7c : Bool) (x10a : Option (Nat × Nat)) (x10n : Nat) (x10c : Bool) (x11 : Int) (x15 : Int) (h : AHeap) (nx : Nat) : Option (AV × AHeap × Nat) :=
  goK W J drawK (machOf Try.prog) call Y (keepT 3) lf c3 [1, 1, 1, 1, 1, 0, 1, 0, 0, 1, 0, 0, 1, 1, 0, 1, 0, 1, 1, 1, 1, 1, 0, 1, 0, 9] [n0, n1] (retK (machOf Try.prog) ⟨c3, 178, r3, keepT 3⟩) ⟨178, mkL [(5, (.int .i64 x5)), (6, (.slice x6a x6n x6c)), (7, (.slice x7a x7n x7c)), (10, (.slice x10a x10n x10c)), (11, (.int .i64 x11)), (15, (.int .i64 x15))]⟩ h nx

noncomputable def F3_L4 (call : YldF → CallF) (Y : YldF) (lf : Nat) (n0 : Nat) (n1 : Nat) (x5 : Int) (x6a : Option (Nat × Nat)) (x6n : Nat) (x6c : Bool) (x7a : Option (Nat × Nat)) (x7n : Nat) (x7c : Bool) (x10a : Option (Nat × Nat)) (x10n : Nat) (x10c : Bool) (x11 : Int) (x15 : Int) (h : AHeap) (nx : Nat) : Option (AV × AHeap × Nat) := F3_L4' go1 go1 call Y lf n0 n1 x5 x6a x6n x6c x7a x7n x7c x10a x10n x10c x11 x15 h nx

noncomputable def F3_J5' (W J : StepF (AV × AHeap × Nat) → StepF (AV × AHeap × Nat)) (call : YldF → CallF) (Y : YldF) (lf : Nat) (n0 : Nat) (x5 : Int) (x6a : Option (Nat × Nat)) (x6n : Nat) (x6c : Bool) (x7a : Option (Nat × Nat)) (x7n : Nat) (x7c : Bool) (x10a : Option (Nat × Nat)) (x10n : Nat) (x10c : Bool) (x11 : Int) (h : AHeap) (nx : Nat) : Option (AV × AHeap × Nat) :=
  goK W J drawK (machOf Try.prog) call Y (keepT 3) lf c3 [1, 1, 1, 1, 1, 0, 1, 0, 0, 1, 0, 0, 1, 1, 1] [n0] (retK (machOf Try.prog) ⟨c3, 178, r3, keepT 3⟩) ⟨178, mkL [(5, (.int .i64 x5)), (6, (.slice x6a x6n x6c)), (7, (.slice x7a x7n x7c)), (10, (.slice x10a x10n x10c)), (11, (.int .i64 x11))]⟩ h nx

noncomputable def F3_J5 (call : YldF → CallF) (Y : YldF) (lf : Nat) (n0 : Nat) (x5 : Int) (x6a : Option (Nat × Nat)) (x6n : Nat) (x6c : Bool) (x7a : Option (Nat × Nat)) (x7n : Nat) (x7c : Bool) (x10a : Option (Nat × Nat)) (x10n : Nat) (x10c : Bool) (x11 : Int) (h : AHeap) (nx : Nat) : Option (AV × AHeap × Nat) := F3_J5' go1 go1 call Y lf n0 x5 x6a x6n x6c x7a x7n x7c x10a x10n x10c x11 h nx

noncomputable def F3_L6' (W J : StepF (AV × AHeap × Nat) → StepF (AV × AHeap × Nat)) (call : YldF → CallF) (Y : YldF) (lf : Nat) (n0 : Nat) (n1 : Nat) (x5 : Int) (x6a : Option (Nat × Nat)) (x6n : Nat) (x6c : Bool) (x7a : Option (Nat × Nat)) (x7n : Nat) (x7c : Bool) (x10a : Option (Nat × Nat)) (x10n : Nat) (x10c : Bool) (x11 : Int) (x12 : Option (Nat × Nat)) (x13 : Int) (h : AHeap) (nx : Nat) : Option (AV × AHeap × Nat) :=
  goK W J drawK (machOf Try.prog) call Y (keepT 3) lf c3 [1, 1, 1, 1, 1, 0, 1, 0, 0, 1, 0, 0, 1, 1, 0, 1, 0, 1, 0, 1, 1, 0, 9] [n0, n1] (retK (machOf Try.prog) ⟨c3, 178, r3, keepT 3⟩) ⟨178, mkL [(5, (.int .i64 x5)), (6, (.slice x6a x6n x6c)), (7, (.slice x7a x7n x7c)), (10, (.slice x10a x10n x10c)), (11, (.int .i64 x11)), (12, (.ptr x12)), (13, (.int .i64 x13))]⟩ h nx

noncomputable def F3_L6 (call : YldF → CallF) (Y : YldF) (lf : Nat) (n0 : Nat) (n1 : Nat) (x5 : Int) (x6a : Option (Nat × Nat)) (x6n : Nat) (x6c : Bool) (x7a : Option (Nat × Nat)) (x7n : Nat) (x7c : Bool) (x10a : Option (Nat × Nat)) (x10n : Nat) (x10c : Bool) (x11 : Int) (x12 : Option (Nat × Nat)) (x13 : Int) (h : AHeap) (nx : Nat) : Option (AV × AHeap × Nat) := F3_L6' go1 go1 call Y lf n0 n1 x5 x6a x6n x6c x7a x7n x7c x10a x10n x10c x11 x12 x13 h nx

noncomputable def F3_L7' (W J : StepF (AV × AHeap × Nat) → StepF (AV × AHeap × Nat)) (call : YldF → CallF) (Y : YldF) (lf : Nat) (n0 : Nat) (n1 : Nat) (x5 : Int) (x6a : Option (Nat × Nat)) (x6n : Nat) (x6c : Bool) (x7a : Option (Nat × Nat)) (x7n : Nat) (x7c : Bool) (x10a : Option (Nat × Nat)) (x10n : Nat) (x10c : Bool) (x11 : Int) (x16 : Int) (x17 : Int) (h : AHeap) (nx : Nat) : Option (AV × AHeap × Nat) :=
  goK W J drawK (machOf Try.prog) call Y (keepT 3) lf c3 [1, 1, 1, 1, 1, 0, 1, 0, 0, 1, 0, 0, 1, 1, 1, 1, 0, 1, 0, 9] [n0, n1] (retK (machOf Try.prog) ⟨c3, 178, r3, keepT 3⟩) ⟨178, mkL [(5, (.int .i64 x5)), (6, (.slice x6a x6n x6c)), (7, (.slice x7a x7n x7c)), (10, (.slice x10a x10n x10c)), (11, (.int .i64 x11)), (16, (.int .i64 x16)), (17, (.int .i64 x17))]⟩ h nx

noncomputable def F3_L7 (call : YldF → CallF) (Y : YldF) (lf : Nat) (n0 : Nat) (n1 : Nat) (x5 : Int) (x6a : Option (Nat × Nat)) (x6n : Nat) (x6c : Bool) (x7a : Option (Nat × Nat)) (x7n : Nat) (x7c : Bool) (x10a : Option (Nat × Nat)) (x10n : Nat) (x10c : Bool) (x11 : Int) (x16 : Int) (x17 : Int) (h : AHeap) (nx : Nat) : Option (AV × AHeap × Nat) := F3_L7' go1 go1 call Y lf n0 n1 x5 x6a x6n x6c x7a x7n x7c x10a x10n x10c x11 x16 x17 h nx

theorem F3_L1_eq' (J : StepF (AV × AHeap × Nat) → StepF (AV × AHeap × Nat)) (call : YldF → CallF) (Y : YldF) (lf : Nat) (n0 : Nat) (x5 : Int) (x6a : Option (Nat × Nat)) (x6n : Nat) (x6c : Bool) (x7a : Option (Nat × Nat)) (x7n : Nat) (x7c : Bool) (x10a : Option (Nat × Nat)) (x10n : Nat) (x10c : Bool) (x11 : Int) (h : AHeap) (nx : Nat) : F3_L1' go1 J call Y lf (n0 + 1) x5 x6a x6n x6c x7a x7n x7c x10a x10n x10c x11 h nx =
    if (decide ((x11 : Int) < ((x6n : Nat) : Int))) = true then
    ((x6a).bind fun p1 =>
    if 0 ≤ (x11 : Int) ∧ x11 < ((x6n : Nat) : Int) then
    ((ldR h p1.1 (p1.2 + Int.toNat x11 * 3) 3).bind fun l2 =>
    (asAgg 3 (AV.agg l2)).bind fun d3 =>
    (asI .i64 (d3.getD 0 .bad)).bind fun n4 =>
    (asI .i64 (d3.getD 1 .bad)).bind fun n5 =>
    (asI .i64 (d3.getD 2 .bad)).bind fun n6 =>
    let h7 := AHeap.put h (nx + 8) (some ⟨[(.int .i64 0), (.int .i64 0), (.int .i64 0)], 3, true⟩)
    (stA h7 (nx + 8) 0 (.agg [(.int .i64 n4), (.int .i64 n5), (.int .i64 n6)]) 3).bind fun b8 =>
    let h9 := AHeap.put h7 (nx + 8) (some b8)
    (x7a).bind fun p10 =>
    if 0 ≤ (x11 : Int) ∧ x11 < ((x7n : Nat) : Int) then
    ((ldA h9 p10.1 (p10.2 + Int.toNat x11 * 3)).bind fun v11 =>
    (asI .i64 v11).bind fun n12 =>
    if ((n12 : Int) != 0) = true then
    (F3_L1' J J call Y lf n0 x5 x6a x6n x6c x7a x7n x7c x10a x10n x10c (wrapA .i64 (x11 + 1)) h9 (nx + 19))
    else
    ((ldA h9 (nx + 8) 0).bind fun v13 =>
    (asI .i64 v13).bind fun n14 =>
    if ((n14 : Int) == 1) = true then
    ((x7a).bind fun p15 =>
    if 0 ≤ (x11 : Int) ∧ x11 < ((x7n : Nat) : Int) then
    ((ldA h9 p15.1 ((p15.2 + Int.toNat x11 * 3) + 1)).bind fun v16 =>
    (asI .i64 v16).bind fun n17 =>
    if (decide ((n17 : Int) < 0)) = true then
    (some ((.bool false), h9, (nx + 45)))
    else
    ((ldA h9 (nx + 8) 2).bind fun v18 =>
    (asI .i64 v18).bind fun n19 =>
    if (decide ((n19 : Int) > x5)) = true then
    (some ((.bool false), h9, (nx + 45)))
    else
    ((x7a).bind fun p20 =>
    if 0 ≤ (x11 : Int) ∧ x11 < ((x7n : Nat) : Int) then
    ((ldA h9 p20.1 ((p20.2 + Int.toNat x11 * 3) + 1)).bind fun v21 =>
    (asI .i64 v21).bind fun n22 =>
    (ldA h9 (nx + 8) 2).bind fun v23 =>
    (asI .i64 v23).bind fun n24 =>
    if (decide ((n22 : Int) > (wrapA .i64 (x5 - n24)))) = true then
    (some ((.bool false), h9, (nx + 45)))
    else
    (F3_J2' J J call Y lf n0 x5 x6a x6n x6c x7a x7n x7c x10a x10n x10c x11 (some ((nx + 8), 0)) h9 (nx + 44)))
    else none)))
    else none)
    else
    (if ((n14 : Int) == 2) = true then
    (F3_L3' J J call Y lf n0 lf x5 x6a x6n x6c x7a x7n x7c x10a x10n x10c x11 (some ((nx + 8), 0)) 0 h9 (nx + 23))
    else
    (if ((n14 : Int) == 3) = true then
    (F3_L4' J J call Y lf n0 lf x5 x6a x6n x6c x7a x7n x7c x10a x10n x10c x11 0 h9 (nx + 25))
    else
    (F3_J5' J J call Y lf n0 x5 x6a x6n x6c x7a x7n x7c x10a x10n x10c x11 h9 (nx + 24))))))
    else none)
    else none)
    else
    (let h25 := AHeap.put h (nx + 5) (some ⟨[(.int .i64 1), (.int .i64 0), (.int .i64 1)], 3, true⟩)
    (call Y 17 [(.int .i64 1), (.slice (some ((nx + 5), 0)) 1 true)] h25 (nx + 14)).bind fun r26 =>
    (asTup 3 r26.1).bind fun d27 =>
    (asSl (d27.getD 0 .bad)).bind fun s28 =>
    (asSl (d27.getD 1 .bad)).bind fun s29 =>
    (asI .i64 (d27.getD 2 .bad)).bind fun n30 =>
    if ((n30 : Int) == 0) = true then
    (if ((((s28.2.1 : Nat) : Int) : Int) == 1) = true then
    ((s28.1).bind fun p31 =>
    if 0 ≤ (0 : Int) ∧ 0 < ((s28.2.1 : Nat) : Int) then
    ((ldA r26.2.1 p31.1 ((p31.2 + Int.toNat 0 * 3) + 2)).bind fun v32 =>
    (asI .i64 v32).bind fun n33 =>
    some ((.bool ((n33 : Int) == 0)), r26.2.1, (r26.2.2 + 15)))
    else none)
    else
    (some ((.bool false), r26.2.1, (r26.2.2 + 15))))
    else
    (some ((.bool false), r26.2.1, (r26.2.2 + 15)))) := by kernel_rfl

theorem F3_L1_eq (call : YldF → CallF) (Y : YldF) (lf : Nat) (n0 : Nat) (x5 : Int) (x6a : Option (Nat × Nat)) (x6n : Nat) (x6c : Bool) (x7a : Option (Nat × Nat)) (x7n : Nat) (x7c : Bool) (x10a : Option (Nat × Nat)) (x10n : Nat) (x10c : Bool) (x11 : Int) (h : AHeap) (nx : Nat) : F3_L1 call Y lf (n0 + 1) x5 x6a x6n x6c x7a x7n x7c x10a x10n x10c x11 h nx =
    if (decide ((x11 : Int) < ((x6n : Nat) : Int))) = true then
    ((x6a).bind fun p1 =>
    if 0 ≤ (x11 : Int) ∧ x11 < ((x6n : Nat) : Int) then
    ((ldR h p1.1 (p1.2 + Int.toNat x11 * 3) 3).bind fun l2 =>
    (asAgg 3 (AV.agg l2)).bind fun d3 =>
    (asI .i64 (d3.getD 0 .bad)).bind fun n4 =>
    (asI .i64 (d3.getD 1 .bad)).bind fun n5 =>
    (asI .i64 (d3.getD 2 .bad)).bind fun n6 =>
    let h7 := AHeap.put h (nx + 8) (some ⟨[(.int .i64 0), (.int .i64 0), (.int .i64 0)], 3, true⟩)
    (stA h7 (nx + 8) 0 (.agg [(.int .i64 n4), (.int .i64 n5), (.int .i64 n6)]) 3).bind fun b8 =>
    let h9 := AHeap.put h7 (nx + 8) (some b8)
    (x7a).bind fun p10 =>
    if 0 ≤ (x11 : Int) ∧ x11 < ((x7n : Nat) : Int) then
    ((ldA h9 p10.1 (p10.2 + Int.toNat x11 * 3)).bind fun v11 =>
    (asI .i64 v11).bind fun n12 =>
    if ((n12 : Int) != 0) = true then
    (F3_L1 call Y lf n0 x5 x6a x6n x6c x7a x7n x7c x10a x10n x10c (wrapA .i64 (x11 + 1)) h9 (nx + 19))
    else
    ((ldA h9 (nx + 8) 0).bind fun v13 =>
    (asI .i64 v13).bind fun n14 =>
    if ((n14 : Int) == 1) = true then
    ((x7a).bind fun p15 =>
    if 0 ≤ (x11 : Int) ∧ x11 < ((x7n : Nat) : Int) then
    ((ldA h9 p15.1 ((p15.2 + Int.toNat x11 * 3) + 1)).bind fun v16 =>
    (asI .i64 v16).bind fun n17 =>
    if (decide ((n17 : Int) < 0)) = true then
    (some ((.bool false), h9, (nx + 45)))
    else
    ((ldA h9 (nx + 8) 2).bind fun v18 =>
    (asI .i64 v18).bind fun n19 =>
    if (decide ((n19 : Int) > x5)) = true then
    (some ((.bool false), h9, (nx + 45)))
    else
    ((x7a).bind fun p20 =>
    if 0 ≤ (x11 : Int) ∧ x11 < ((x7n : Nat) : Int) then
    ((ldA h9 p20.1 ((p20.2 + Int.toNat x11 * 3) + 1)).bind fun v21 =>
    (asI .i64 v21).bind fun n22 =>
    (ldA h9 (nx + 8) 2).bind fun v23 =>
    (asI .i64 v23).bind fun n24 =>
    if (decide ((n22 : Int) > (wrapA .i64 (x5 - n24)))) = true then
    (some ((.bool false), h9, (nx + 45)))
    else
    (F3_J2 call Y lf n0 x5 x6a x6n x6c x7a x7n x7c x10a x10n x10c x11 (some ((nx + 8), 0)) h9 (nx + 44)))
    else none)))
    else none)
    else
    (if ((n14 : Int) == 2) = true then
    (F3_L3 call Y lf n0 lf x5 x6a x6n x6c x7a x7n x7c x10a x10n x10c x11 (some ((nx + 8), 0)) 0 h9 (nx + 23))
    else
    (if ((n14 : Int) == 3) = true then
    (F3_L4 call Y lf n0 lf x5 x6a x6n x6c x7a x7n x7c x10a x10n x10c x11 0 h9 (nx + 25))
    else
    (F3_J5 call Y lf n0 x5 x6a x6n x6c x7a x7n x7c x10a x10n x10c x11 h9 (nx + 24))))))
    else none)
    else none)
    else
    (let h25 := AHeap.put h (nx + 5) (some ⟨[(.int .i64 1), (.int .i64 0), (.int .i64 1)], 3, true⟩)
    (call Y 17 [(.int .i64 1), (.slice (some ((nx + 5), 0)) 1 true)] h25 (nx + 14)).bind fun r26 =>
    (asTup 3 r26.1).bind fun d27 =>
    (asSl (d27.getD 0 .bad)).bind fun s28 =>
    (asSl (d27.getD 1 .bad)).bind fun s29 =>
    (asI .i64 (d27.getD 2 .bad)).bind fun n30 =>
    if ((n30 : Int) == 0) = true then
    (if ((((s28.2.1 : Nat) : Int) : Int) == 1) = true then
    ((s28.1).bind fun p31 =>
    if 0 ≤ (0 : Int) ∧ 0 < ((s28.2.1 : Nat) : Int) then
    ((ldA r26.2.1 p31.1 ((p31.2 + Int.toNat 0 * 3) + 2)).bind fun v32 =>
    (asI .i64 v32).bind fun n33 =>
    some ((.bool ((n33 : Int) == 0)), r26.2.1, (r26.2.2 + 15)))
    else none)
    else
    (some ((.bool false), r26.2.1, (r26.2.2 + 15))))
    else
    (some ((.bool false), r26.2.1, (r26.2.2 + 15)))) := F3_L1_eq' go1 call Y lf n0 x5 x6a x6n x6c x7a x7n x7c x10a x10n x10c x11 h nx

theorem F3_L1_zero (call : YldF → CallF) (Y : YldF) (lf : Nat) (x5 : Int) (x6a : Option (Nat × Nat)) (x6n : Nat) (x6c : Bool) (x7a : Option (Nat × Nat)) (x7n : Nat) (x7c : Bool) (x10a : Option (Nat × Nat)) (x10n : Nat) (x10c : Bool) (x11 : Int) (h : AHeap) (nx : Nat) : F3_L1 call Y lf 0 x5 x6a x6n x6c x7a x7n x7c x10a x10n x10c x11 h nx = none := by kernel_rfl

theorem F3_J2_eq' (J : StepF (AV × AHeap × Nat) → StepF (AV × AHeap × Nat)) (call : YldF → CallF) (Y : YldF) (lf : Nat) (n0 : Nat) (x5 : Int) (x6a : Option (Nat × Nat)) (x6n : Nat) (x6c : Bool) (x7a : Option (Nat × Nat)) (x7n : Nat) (x7c : Bool) (x10a : Option (Nat × Nat)) (x10n : Nat) (x10c : Bool) (x11 : Int) (x12 : Option (Nat × Nat)) (h : AHeap) (nx : Nat) : F3_J2' go1 J call Y lf n0 x5 x6a x6n x6c x7a x7n x7c x10a x10n x10c x11 x12 h nx =
    F3_L6' J J call Y lf n0 lf x5 x6a x6n x6c x7a x7n x7c x10a x10n x10c x11 x12 0 h (nx + 1) := by kernel_rfl

theorem F3_J2_eq (call : YldF → CallF) (Y : YldF) (lf : Nat) (n0 : Nat) (x5 : Int) (x6a : Option (Nat × Nat)) (x6n : Nat) (x6c : Bool) (x7a : Option (Nat × Nat)) (x7n : Nat) (x7c : Bool) (x10a : Option (Nat × Nat)) (x10n : Nat) (x10c : Bool) (x11 : Int) (x12 : Option (Nat × Nat)) (h : AHeap) (nx : Nat) : F3_J2 call Y lf n0 x5 x6a x6n x6c x7a x7n x7c x10a x10n x10c x11 x12 h nx =
    F3_L6 call Y lf n0 lf x5 x6a x6n x6c x7a x7n x7c x10a x10n x10c x11 x12 0 h (nx + 1) := F3_J2_eq' go1 call Y lf n0 x5 x6a x6n x6c x7a x7n x7c x10a x10n x10c x11 x12 h nx

theorem F3_L3_eq' (J : StepF (AV × AHeap × Nat) → StepF (AV × AHeap × Nat)) (call : YldF → CallF) (Y : YldF) (lf : Nat) (n0 : Nat) (n1 : Nat) (x5 : Int) (x6a : Option (Nat × Nat)) (x6n : Nat) (x6c : Bool) (x7a : Option (Nat × Nat)) (x7n : Nat) (x7c : Bool) (x10a : Option (Nat × Nat)) (x10n : Nat) (x10c : Bool) (x11 : Int) (x12 : Option (Nat × Nat)) (x14 : Int) (h : AHeap) (nx : Nat) : F3_L3' go1 J call Y lf n0 (n1 + 1) x5 x6a x6n x6c x7a x7n x7c x10a x10n x10c x11 x12 x14 h nx =
    (x12).bind fun p1 =>
    (ldA h p1.1 (p1.2 + 2)).bind fun v2 =>
    (asI .i64 v2).bind fun n3 =>
    if (decide ((x14 : Int) < n3)) = true then
    ((x12).bind fun p4 =>
    (ldA h p4.1 (p4.2 + 1)).bind fun v5 =>
    (asI .i64 v5).bind fun n6 =>
    (x10a).bind fun p7 =>
    if 0 ≤ ((wrapA .i64 (n6 + x14)) : Int) ∧ (wrapA .i64 (n6 + x14)) < ((x10n : Nat) : Int) then
    ((stA h p7.1 (p7.2 + Int.toNat (wrapA .i64 (n6 + x14)) * 1) (.int .i64 2) 1).bind fun b8 =>
    let h9 := AHeap.put h p7.1 (some b8)
    F3_L3' J J call Y lf n0 n1 x5 x6a x6n x6c x7a x7n x7c x10a x10n x10c x11 x12 (wrapA .i64 (x14 + 1)) h9 (nx + 14))
    else none)
    else
    (F3_J5' J J call Y lf n0 x5 x6a x6n x6c x7a x7n x7c x10a x10n x10c x11 h (nx + 4)) := by kernel_rfl

theorem F3_L3_eq (call : YldF → CallF) (Y : YldF) (lf : Nat) (n0 : Nat) (n1 : Nat) (x5 : Int) (x6a : Option (Nat × Nat)) (x6n : Nat) (x6c : Bool) (x7a : Option (Nat × Nat)) (x7n : Nat) (x7c : Bool) (x10a : Option (Nat × Nat)) (x10n : Nat) (x10c : Bool) (x11 : Int) (x12 : Option (Nat × Nat)) (x14 : Int) (h : AHeap) (nx : Nat) : F3_L3 call Y lf n0 (n1 + 1) x5 x6a x6n x6c x7a x7n x7c x10a x10n x10c x11 x12 x14 h nx =
    (x12).bind fun p1 =>
    (ldA h p1.1 (p1.2 + 2)).bind fun v2 =>
    (asI .i64 v2).bind fun n3 =>
    if (decide ((x14 : Int) < n3)) = true then
    ((x12).bind fun p4 =>
    (ldA h p4.1 (p4.2 + 1)).bind fun v5 =>
    (asI .i64 v5).bind fun n6 =>
    (x10a).bind fun p7 =>
    if 0 ≤ ((wrapA .i64 (n6 + x14)) : Int) ∧ (wrapA .i64 (n6 + x14)) < ((x10n : Nat) : Int) then
    ((stA h p7.1 (p7.2 + Int.toNat (wrapA .i64 (n6 + x14)) * 1) (.int .i64 2) 1).bind fun b8 =>
    let h9 := AHeap.put h p7.1 (some b8)
    F3_L3 call Y lf n0 n1 x5 x6a x6n x6c x7a x7n x7c x10a x10n x10c x11 x12 (wrapA .i64 (x14 + 1)) h9 (nx + 14))
    else none)
    else
    (F3_J5 call Y lf n0 x5 x6a x6n x6c x7a x7n x7c x10a x10n x10c x11 h (nx + 4)) := F3_L3_eq' go1 call Y lf n0 n1 x5 x6a x6n x6c x7a x7n x7c x10a x10n x10c x11 x12 x14 h nx

theorem F3_L3_zero (call : YldF → CallF) (Y : YldF) (lf : Nat) (n0 : Nat) (x5 : Int) (x6a : Option (Nat × Nat)) (x6n : Nat) (x6c : Bool) (x7a : Option (Nat × Nat)) (x7n : Nat) (x7c : Bool) (x10a : Option (Nat × Nat)) (x10n : Nat) (x10c : Bool) (x11 : Int) (x12 : Option (Nat × Nat)) (x14 : Int) (h : AHeap) (nx : Nat) : F3_L3 call Y lf n0 0 x5 x6a x6n x6c x7a x7n x7c x10a x10n x10c x11 x12 x14 h nx = none := by kernel_rfl

theorem F3_L4_eq' (J : StepF (AV × AHeap × Nat) → StepF (AV × AHeap × Nat)) (call : YldF → CallF) (Y : YldF) (lf : Nat) (n0 : Nat) (n1 : Nat) (x5 : Int) (x6a : Option (Nat × Nat)) (x6n : Nat) (x6c : Bool) (x7a : Option (Nat × Nat)) (x7n : Nat) (x7c : Bool) (x10a : Option (Nat × Nat)) (x10n : Nat) (x10c : Bool) (x11 : Int) (x15 : Int) (h : AHeap) (nx : Nat) : F3_L4' go1 J call Y lf n0 (n1 + 1) x5 x6a x6n x6c x7a x7n x7c x10a x10n x10c x11 x15 h nx =
    if (decide ((x15 : Int) < x5)) = true then
    ((x10a).bind fun p1 =>
    if 0 ≤ (x15 : Int) ∧ x15 < ((x10n : Nat) : Int) then
    ((ldA h p1.1 (p1.2 + Int.toNat x15 * 1)).bind fun v2 =>
    (asI .i64 v2).bind fun n3 =>
    if (decide ((n3 : Int) > 0)) = true then
    ((x10a).bind fun p4 =>
    if 0 ≤ (x15 : Int) ∧ x15 < ((x10n : Nat) : Int) then
    ((ldA h p4.1 (p4.2 + Int.toNat x15 * 1)).bind fun v5 =>
    (asI .i64 v5).bind fun n6 =>
    (x10a).bind fun p7 =>
    if 0 ≤ (x15 : Int) ∧ x15 < ((x10n : Nat) : Int) then
    ((stA h p7.1 (p7.2 + Int.toNat x15 * 1) (.int .i64 (wrapA .i64 (n6 - 1))) 1).bind fun b8 =>
    let h9 := AHeap.put h p7.1 (some b8)
    F3_L4' J J call Y lf n0 n1 x5 x6a x6n x6c x7a x7n x7c x10a x10n x10c x11 (wrapA .i64 (x15 + 1)) h9 (nx + 18))
    else none)
    else none)
    else
    (F3_L4' J J call Y lf n0 n1 x5 x6a x6n x6c x7a x7n x7c x10a x10n x10c x11 (wrapA .i64 (x15 + 1)) h (nx + 11)))
    else none)
    else
    (F3_J5' J J call Y lf n0 x5 x6a x6n x6c x7a x7n x7c x10a x10n x10c x11 h (nx + 3)) := by kernel_rfl

theorem F3_L4_eq (call : YldF → CallF) (Y : YldF) (lf : Nat) (n0 : Nat) (n1 : Nat) (x5 : Int) (x6a : Option (Nat × Nat)) (x6n : Nat) (x6c : Bool) (x7a : Option (Nat × Nat)) (x7n : Nat) (x7c : Bool) (x10a : Option (Nat × Nat)) (x10n : Nat) (x10c : Bool) (x11 : Int) (x15 : Int) (h : AHeap) (nx : Nat) : F3_L4 call Y lf n0 (n1 + 1) x5 x6a x6n x6c x7a x7n x7c x10a x10n x10c x11 x15 h nx =
    if (decide ((x15 : Int) < x5)) = true then
    ((x10a).bind fun p1 =>
    if 0 ≤ (x15 : Int) ∧ x15 < ((x10n : Nat) : Int) then
    ((ldA h p1.1 (p1.2 + Int.toNat x15 * 1)).bind fun v2 =>
    (asI .i64 v2).bind fun n3 =>
    if (decide ((n3 : Int) > 0)) = true then
    ((x10a).bind fun p4 =>
    if 0 ≤ (x15 : Int) ∧ x15 < ((x10n : Nat) : Int) then
    ((ldA h p4.1 (p4.2 + Int.toNat x15 * 1)).bind fun v5 =>
    (asI .i64 v5).bind fun n6 =>
    (x10a).bind fun p7 =>
    if 0 ≤ (x15 : Int) ∧ x15 < ((x10n : Nat) : Int) then
    ((stA h p7.1 (p7.2 + Int.toNat x15 * 1) (.int .i64 (wrapA .i64 (n6 - 1))) 1).bind fun b8 =>
    let h9 := AHeap.put h p7.1 (some b8)
    F3_L4 call Y lf n0 n1 x5 x6a x6n x6c x7a x7n x7c x10a x10n x10c x11 (wrapA .i64 (x15 + 1)) h9 (nx + 18))
    else none)
    else none)
    else
    (F3_L4 call Y lf n0 n1 x5 x6a x6n x6c x7a x7n x7c x10a x10n x10c x11 (wrapA .i64 (x15 + 1)) h (nx + 11)))
    else none)
    else
    (F3_J5 call Y lf n0 x5 x6a x6n x6c x7a x7n x7c x10a x10n x10c x11 h (nx + 3)) := F3_L4_eq' go1 call Y lf n0 n1 x5 x6a x6n x6c x7a x7n x7c x10a x10n x10c x11 x15 h nx

theorem F3_L4_zero (call : YldF → CallF) (Y : YldF) (lf : Nat) (n0 : Nat) (x5 : Int) (x6a : Option (Nat × Nat)) (x6n : Nat) (x6c : Bool) (x7a : Option (Nat × Nat)) (x7n : Nat) (x7c : Bool) (x10a : Option (Nat × Nat)) (x10n : Nat) (x10c : Bool) (x11 : Int) (x15 : Int) (h : AHeap) (nx : Nat) : F3_L4 call Y lf n0 0 x5 x6a x6n x6c x7a x7n x7c x10a x10n x10c x11 x15 h nx = none := by kernel_rfl

theorem F3_J5_eq' (J : StepF (AV × AHeap × Nat) → StepF (AV × AHeap × Nat)) (call : YldF → CallF) (Y : YldF) (lf : Nat) (n0 : Nat) (x5 : Int) (x6a : Option (Nat × Nat)) (x6n : Nat) (x6c : Bool) (x7a : Option (Nat × Nat)) (x7n : Nat) (x7c : Bool) (x10a : Option (Nat × Nat)) (x10n : Nat) (x10c : Bool) (x11 : Int) (h : AHeap) (nx : Nat) : F3_J5' go1 J call Y lf n0 x5 x6a x6n x6c x7a x7n x7c x10a x10n x10c x11 h nx =
    F3_L7' J J call Y lf n0 lf x5 x6a x6n x6c x7a x7n x7c x10a x10n x10c x11 0 0 h (nx + 2) := by kernel_rfl

theorem F3_J5_eq (call : YldF → CallF) (Y : YldF) (lf : Nat) (n0 : Nat) (x5 : Int) (x6a : Option (Nat × Nat)) (x6n : Nat) (x6c : Bool) (x7a : Option (Nat × Nat)) (x7n : Nat) (x7c : Bool) (x10a : Option (Nat × Nat)) (x10n : Nat) (x10c : Bool) (x11 : Int) (h : AHeap) (nx : Nat) : F3_J5 call Y lf n0 x5 x6a x6n x6c x7a x7n x7c x10a x10n x10c x11 h nx =
    F3_L7 call Y lf n0 lf x5 x6a x6n x6c x7a x7n x7c x10a x10n x10c x11 0 0 h (nx + 2) := F3_J5_eq' go1 call Y lf n0 x5 x6a x6n x6c x7a x7n x7c x10a x10n x10c x11 h nx

theorem F3_L6_eq' (J : StepF (AV × AHeap × Nat) → StepF (AV × AHeap × Nat)) (call : YldF → CallF) (Y : YldF) (lf : Nat) (n0 : Nat) (n1 : Nat) (x5 : Int) (x6a : Option (Nat × Nat)) (x6n : Nat) (x6c : Bool) (x7a : Option (Nat × Nat)) (x7n : Nat) (x7c : Bool) (x10a : Option (Nat × Nat)) (x10n : Nat) (x10c : Bool) (x11 : Int) (x12 : Option (Nat × Nat)) (x13 : Int) (h : AHeap) (nx : Nat) : F3_L6' go1 J call Y lf n0 (n1 + 1) x5 x6a x6n x6c x7a x7n x7c x10a x10n x10c x11 x12 x13 h nx =
    (x12).bind fun p1 =>
    (ldA h p1.1 (p1.2 + 2)).bind fun v2 =>
    (asI .i64 v2).bind fun n3 =>
    if (decide ((x13 : Int) < n3)) = true then
    ((x7a).bind fun p4 =>
    if 0 ≤ (x11 : Int) ∧ x11 < ((x7n : Nat) : Int) then
    ((ldA h p4.1 ((p4.2 + Int.toNat x11 * 3) + 1)).bind fun v5 =>
    (asI .i64 v5).bind fun n6 =>
    (x10a).bind fun p7 =>
    if 0 ≤ ((wrapA .i64 (n6 + x13)) : Int) ∧ (wrapA .i64 (n6 + x13)) < ((x10n : Nat) : Int) then
    ((ldA h p7.1 (p7.2 + Int.toNat (wrapA .i64 (n6 + x13)) * 1)).bind fun v8 =>
    (asI .i64 v8).bind fun n9 =>
    if ((n9 : Int) != 0) = true then
    (some ((.bool false), h, (nx + 16)))
    else
    ((x7a).bind fun p10 =>
    if 0 ≤ (x11 : Int) ∧ x11 < ((x7n : Nat) : Int) then
    ((ldA h p10.1 ((p10.2 + Int.toNat x11 * 3) + 1)).bind fun v11 =>
    (asI .i64 v11).bind fun n12 =>
    (x10a).bind fun p13 =>
    if 0 ≤ ((wrapA .i64 (n12 + x13)) : Int) ∧ (wrapA .i64 (n12 + x13)) < ((x10n : Nat) : Int) then
    ((stA h p13.1 (p13.2 + Int.toNat (wrapA .i64 (n12 + x13)) * 1) (.int .i64 (-1)) 1).bind fun b14 =>
    let h15 := AHeap.put h p13.1 (some b14)
    F3_L6' J J call Y lf n0 n1 x5 x6a x6n x6c x7a x7n x7c x10a x10n x10c x11 x12 (wrapA .i64 (x13 + 1)) h15 (nx + 28))
    else none)
    else none))
    else none)
    else none)
    else
    (F3_J5' J J call Y lf n0 x5 x6a x6n x6c x7a x7n x7c x10a x10n x10c x11 h (nx + 4)) := by kernel_rfl

theorem F3_L6_eq (call : YldF → CallF) (Y : YldF) (lf : Nat) (n0 : Nat) (n1 : Nat) (x5 : Int) (x6a : Option (Nat × Nat)) (x6n : Nat) (x6c : Bool) (x7a : Option (Nat × Nat)) (x7n : Nat) (x7c : Bool) (x10a : Option (Nat × Nat)) (x10n : Nat) (x10c : Bool) (x11 : Int) (x12 : Option (Nat × Nat)) (x13 : Int) (h : AHeap) (nx : Nat) : F3_L6 call Y lf n0 (n1 + 1) x5 x6a x6n x6c x7a x7n x7c x10a x10n x10c x11 x12 x13 h nx =
    (x12).bind fun p1 =>
    (ldA h p1.1 (p1.2 + 2)).bind fun v2 =>
    (asI .i64 v2).bind fun n3 =>
    if (decide ((x13 : Int) < n3)) = true then
    ((x7a).bind fun p4 =>
    if 0 ≤ (x11 : Int) ∧ x11 < ((x7n : Nat) : Int) then
    ((ldA h p4.1 ((p4.2 + Int.toNat x11 * 3) + 1)).bind fun v5 =>
    (asI .i64 v5).bind fun n6 =>
    (x10a).bind fun p7 =>
    if 0 ≤ ((wrapA .i64 (n6 + x13)) : Int) ∧ (wrapA .i64 (n6 + x13)) < ((x10n : Nat) : Int) then
    ((ldA h p7.1 (p7.2 + Int.toNat (wrapA .i64 (n6 + x13)) * 1)).bind fun v8 =>
    (asI .i64 v8).bind fun n9 =>
    if ((n9 : Int) != 0) = true then
    (some ((.bool false), h, (nx + 16)))
    else
    ((x7a).bind fun p10 =>
    if 0 ≤ (x11 : Int) ∧ x11 < ((x7n : Nat) : Int) then
    ((ldA h p10.1 ((p10.2 + Int.toNat x11 * 3) + 1)).bind fun v11 =>
    (asI .i64 v11).bind fun n12 =>
    (x10a).bind fun p13 =>
    if 0 ≤ ((wrapA .i64 (n12 + x13)) : Int) ∧ (wrapA .i64 (n12 + x13)) < ((x10n : Nat) : Int) then
    ((stA h p13.1 (p13.2 + Int.toNat (wrapA .i64 (n12 + x13)) * 1) (.int .i64 (-1)) 1).bind fun b14 =>
    let h15 := AHeap.put h p13.1 (some b14)
    F3_L6 call Y lf n0 n1 x5 x6a x6n x6c x7a x7n x7c x10a x10n x10c x11 x12 (wrapA .i64 (x13 + 1)) h15 (nx + 28))
    else none)
    else none))
    else none)
    else none)
    else
    (F3_J5 call Y lf n0 x5 x6a x6n x6c x7a x7n x7c x10a x10n x10c x11 h (nx + 4)) := F3_L6_eq' go1 call Y lf n0 n1 x5 x6a x6n x6c x7a x7n x7c x10a x10n x10c x11 x12 x13 h nx

theorem F3_L6_zero (call : YldF → CallF) (Y : YldF) (lf : Nat) (n0 : Nat) (x5 : Int) (x6a : Option (Nat × Nat)) (x6n : Nat) (x6c : Bool) (x7a : Option (Nat × Nat)) (x7n : Nat) (x7c : Bool) (x10a : Option (Nat × Nat)) (x10n : Nat) (x10c : Bool) (x11 : Int) (x12 : Option (Nat × Nat)) (x13 : Int) (h : AHeap) (nx : Nat) : F3_L6 call Y lf n0 0 x5 x6a x6n x6c x7a x7n x7c x10a x10n x10c x11 x12 x13 h nx = none := by kernel_rfl

theorem F3_L7_eq' (J : StepF (AV × AHeap × Nat) → StepF (AV × AHeap × Nat)) (call : YldF → CallF) (Y : YldF) (lf : Nat) (n0 : Nat) (n1 : Nat) (x5 : Int) (x6a : Option (Nat × Nat)) (x6n : Nat) (x6c : Bool) (x7a : Option (Nat × Nat)) (x7n : Nat) (x7c : Bool) (x10a : Option (Nat × Nat)) (x10n : Nat) (x10c : Bool) (x11 : Int) (x16 : Int) (x17 : Int) (h : AHeap) (nx : Nat) : F3_L7' go1 J call Y lf n0 (n1 + 1) x5 x6a x6n x6c x7a x7n x7c x10a x10n x10c x11 x16 x17 h nx =
    if (decide ((x17 : Int) < x5)) = true then
    ((x10a).bind fun p1 =>
    if 0 ≤ (x17 : Int) ∧ x17 < ((x10n : Nat) : Int) then
    ((ldA h p1.1 (p1.2 + Int.toNat x17 * 1)).bind fun v2 =>
    (asI .i64 v2).bind fun n3 =>
    if ((n3 : Int) == 0) = true then
    (F3_L7' J J call Y lf n0 n1 x5 x6a x6n x6c x7a x7n x7c x10a x10n x10c x11 (wrapA .i64 (x16 + 1)) (wrapA .i64 (x17 + 1)) h (nx + 14))
    else
    (F3_L7' J J call Y lf n0 n1 x5 x6a x6n x6c x7a x7n x7c x10a x10n x10c x11 x16 (wrapA .i64 (x17 + 1)) h (nx + 11)))
    else none)
    else
    ((x7a).bind fun p4 =>
    if 0 ≤ (x11 : Int) ∧ x11 < ((x7n : Nat) : Int) then
    ((ldA h p4.1 ((p4.2 + Int.toNat x11 * 3) + 2)).bind fun v5 =>
    (asI .i64 v5).bind fun n6 =>
    if ((n6 : Int) != x16) = true then
    (some ((.bool false), h, (nx + 11)))
    else
    (F3_L1' J J call Y lf n0 x5 x6a x6n x6c x7a x7n x7c x10a x10n x10c (wrapA .i64 (x11 + 1)) h (nx + 13)))
    else none) := by kernel_rfl

theorem F3_L7_eq (call : YldF → CallF) (Y : YldF) (lf : Nat) (n0 : Nat) (n1 : Nat) (x5 : Int) (x6a : Option (Nat × Nat)) (x6n : Nat) (x6c : Bool) (x7a : Option (Nat × Nat)) (x7n : Nat) (x7c : Bool) (x10a : Option (Nat × Nat)) (x10n : Nat) (x10c : Bool) (x11 : Int) (x16 : Int) (x17 : Int) (h : AHeap) (nx : Nat) : F3_L7 call Y lf n0 (n1 + 1) x5 x6a x6n x6c x7a x7n x7c x10a x10n x10c x11 x16 x17 h nx =
    if (decide ((x17 : Int) < x5)) = true then
    ((x10a).bind fun p1 =>
    if 0 ≤ (x17 : Int) ∧ x17 < ((x10n : Nat) : Int) then
    ((ldA h p1.1 (p1.2 + Int.toNat x17 * 1)).bind fun v2 =>
    (asI .i64 v2).bind fun n3 =>
    if ((n3 : Int) == 0) = true then
    (F3_L7 call Y lf n0 n1 x5 x6a x6n x6c x7a x7n x7c x10a x10n x10c x11 (wrapA .i64 (x16 + 1)) (wrapA .i64 (x17 + 1)) h (nx + 14))
    else
    (F3_L7 call Y lf n0 n1 x5 x6a x6n x6c x7a x7n x7c x10a x10n x10c x11 x16 (wrapA .i64 (x17 + 1)) h (nx + 11)))
    else none)
    else
    ((x7a).bind fun p4 =>
    if 0 ≤ (x11 : Int) ∧ x11 < ((x7n : Nat) : Int) then
    ((ldA h p4.1 ((p4.2 + Int.toNat x11 * 3) + 2)).bind fun v5 =>
    (asI .i64 v5).bind fun n6 =>
    if ((n6 : Int) != x16) = true then
    (some ((.bool false), h, (nx + 11)))
    else
    (F3_L1 call Y lf n0 x5 x6a x6n x6c x7a x7n x7c x10a x10n x10c (wrapA .i64 (x11 + 1)) h (nx + 13)))
    else none) := F3_L7_eq' go1 call Y lf n0 n1 x5 x6a x6n x6c x7a x7n x7c x10a x10n x10c x11 x16 x17 h nx

theorem F3_L7_zero (call : YldF → CallF) (Y : YldF) (lf : Nat) (n0 : Nat) (x5 : Int) (x6a : Option (Nat × Nat)) (x6n : Nat) (x6c : Bool) (x7a : Option (Nat × Nat)) (x7n : Nat) (x7c : Bool) (x10a : Option (Nat × Nat)) (x10n : Nat) (x10c : Bool) (x11 : Int) (x16 : Int) (x17 : Int) (h : AHeap) (nx : Nat) : F3_L7 call Y lf n0 0 x5 x6a x6n x6c x7a x7n x7c x10a x10n x10c x11 x16 x17 h nx = none := by kernel_rfl

theorem F3_eq' (J : StepF (AV × AHeap × Nat) → StepF (AV × AHeap × Nat)) (n : Nat) (Y : YldF) (x0a : Option (Nat × Nat)) (x0n : Nat) (x0c : Bool) (x1 : Int) (h : AHeap) (nx : Nat) : rootJ J Try.prog keepT (callP Try.prog keepT n) Y n 3 [(.slice x0a x0n x0c), (.int .i64 x1)] h nx =
    ((callP Try.prog keepT n) Y 15 [(.int .i64 x1), (.int .i64 100)] h (nx + 5)).bind fun r1 =>
    (asI .i64 r1.1).bind fun n2 =>
    ((callP Try.prog keepT n) Y 16 [(.slice x0a x0n x0c), (.int .i64 60), (.int .i64 (wrapA .i64 (1 + n2)))] r1.2.1 (r1.2.2 + 12)).bind fun r3 =>
    (asTup 4 r3.1).bind fun d4 =>
    (asSl (d4.getD 0 .bad)).bind fun s5 =>
    (asSl (d4.getD 1 .bad)).bind fun s6 =>
    (asSl (d4.getD 2 .bad)).bind fun s7 =>
    (asB (d4.getD 3 .bad)).bind fun t8 =>
    if (!t8) = true then
    (some ((.bool false), r3.2.1, (r3.2.2 + 3)))
    else
    (if (decide (0 ≤ ((wrapA .i64 (1 + n2)) : Int)) && decide (((wrapA .i64 (1 + n2)) : Int) ≤ (wrapA .i64 (1 + n2))) && decide (((8 : Nat) : Int) * (wrapA .i64 (1 + n2)) ≤ 281474976710656) && decide (((wrapA .i64 (1 + n2)) : Int) ≤ 9223372036854775807) && 1 != 0) = true then
    (let h9 := AHeap.put r3.2.1 (r3.2.2 + 3) (some ⟨(madeA [(.int .i64 0)] (Int.toNat (wrapA .i64 (1 + n2)) * 1)), 1, true⟩)
    F3_L1' J J (callP Try.prog keepT n) Y n n (wrapA .i64 (1 + n2)) s5.1 s5.2.1 s5.2.2 s6.1 s6.2.1 s6.2.2 (some ((r3.2.2 + 3), 0)) (Int.toNat (wrapA .i64 (1 + n2))) ((wrapA .i64 (1 + n2)) == (wrapA .i64 (1 + n2))) 0 h9 (r3.2.2 + 6))
    else none) := by kernel_rfl

/-- quickset/quicksetkeep.TakeApart -/
theorem F3_eq (n : Nat) (Y : YldF) (x0a : Option (Nat × Nat)) (x0n : Nat) (x0c : Bool) (x1 : Int) (h : AHeap) (nx : Nat) : callP Try.prog keepT (n + 1) Y 3 [(.slice x0a x0n x0c), (.int .i64 x1)] h nx =
    ((callP Try.prog keepT n) Y 15 [(.int .i64 x1), (.int .i64 100)] h (nx + 5)).bind fun r1 =>
    (asI .i64 r1.1).bind fun n2 =>
    ((callP Try.prog keepT n) Y 16 [(.slice x0a x0n x0c), (.int .i64 60), (.int .i64 (wrapA .i64 (1 + n2)))] r1.2.1 (r1.2.2 + 12)).bind fun r3 =>
    (asTup 4 r3.1).bind fun d4 =>
    (asSl (d4.getD 0 .bad)).bind fun s5 =>
    (asSl (d4.getD 1 .bad)).bind fun s6 =>
    (asSl (d4.getD 2 .bad)).bind fun s7 =>
    (asB (d4.getD 3 .bad)).bind fun t8 =>
    if (!t8) = true then
    (some ((.bool false), r3.2.1, (r3.2.2 + 3)))
    else
    (if (decide (0 ≤ ((wrapA .i64 (1 + n2)) : Int)) && decide (((wrapA .i64 (1 + n2)) : Int) ≤ (wrapA .i64 (1 + n2))) && decide (((8 : Nat) : Int) * (wrapA .i64 (1 + n2)) ≤ 281474976710656) && decide (((wrapA .i64 (1 + n2)) : Int) ≤ 9223372036854775807) && 1 != 0) = true then
    (let h9 := AHeap.put r3.2.1 (r3.2.2 + 3) (some ⟨(madeA [(.int .i64 0)] (Int.toNat (wrapA .i64 (1 + n2)) * 1)), 1, true⟩)
    F3_L1 (callP Try.prog keepT n) Y n n (wrapA .i64 (1 + n2)) s5.1 s5.2.1 s5.2.2 s6.1 s6.2.1 s6.2.2 (some ((r3.2.2 + 3), 0)) (Int.toNat (wrapA .i64 (1 + n2))) ((wrapA .i64 (1 + n2)) == (wrapA .i64 (1 + n2))) 0 h9 (r3.2.2 + 6))
    else none) := F3_eq' go1 n Y x0a x0n x0c x1 h nx

noncomputable def c4 : Code := (Try.f4.body).getD .skip

noncomputable def r4 : List ResultVar := Try.f4.results.toList

noncomputable def F4_J1' (W J : StepF (AV × AHeap × Nat) → StepF (AV × AHeap × Nat)) (call : YldF → CallF) (Y : YldF) (lf : Nat) (x8a : Option (Nat × Nat)) (x8n : Nat) (x8c : Bool) (x9a : Option (Nat × Nat)) (x9n : Nat) (x9c : Bool) (x11a : Option (Nat × Nat)) (x11n : Nat) (x11c : Bool) (h : AHeap) (nx : Nat) : Option (AV × AHeap × Nat) :=
  goK W J drawK (machOf Try.prog) call Y (keepT 4) lf c4 [1, 1, 1, 1, 1, 1] [] (retK (machOf Try.prog) ⟨c4, 114, r4, keepT 4⟩) ⟨114, mkL [(8, (.slice x8a x8n x8c)), (9, (.slice x9a x9n x9c)), (11, (.slice x11a x11n x11c))]⟩ h nx

noncomputable def F4_J1 (call : YldF → CallF) (Y : YldF) (lf : Nat) (x8a : Option (Nat × Nat)) (x8n : Nat) (x8c : Bool) (x9a : Option (Nat × Nat)) (x9n : Nat) (x9c : Bool) (x11a : Option (Nat × Nat)) (x11n : Nat) (x11c : Bool) (h : AHeap) (nx : Nat) : Option (AV × AHeap × Nat) := F4_J1' go1 go1 call Y lf x8a x8n x8c x9a x9n x9c x11a x11n x11c h nx

noncomputable def F4_L2' (W J : StepF (AV × AHeap × Nat) → StepF (AV × AHeap × Nat)) (call : YldF → CallF) (Y : YldF) (lf : Nat) (n0 : Nat) (x8a : Option (Nat × Nat)) (x8n : Nat) (x8c : Bool) (x9a : Option (Nat × Nat)) (x9n : Nat) (x9c : Bool) (x11a : Option (Nat × Nat)) (x11n : Nat) (x11c : Bool) (x13 : Int) (h : AHeap) (nx : Nat) : Option (AV × AHeap × Nat) :=
  goK W J drawK (machOf Try.prog) call Y (keepT 4) lf c4 [1, 1, 1, 1, 1, 1, 0, 1, 0, 9] [n0] (retK (machOf Try.prog) ⟨c4, 114, r4, keepT 4⟩) ⟨114, mkL [(8, (.slice x8a x8n x8c)), (9, (.slice x9a x9n x9c)), (11, (.slice x11a x11n x11c)), (13, (.int .i64 x13))]⟩ h nx

noncomputable def F4_L2 (call : YldF → CallF) (Y : YldF) (lf : Nat) (n0 : Nat) (x8a : Option (Nat × Nat)) (x8n : Nat) (x8c : Bool) (x9a : Option (Nat × Nat)) (x9n : Nat) (x9c : Bool) (x11a : Option (Nat × Nat)) (x11n : Nat) (x11c : Bool) (x13 : Int) (h : AHeap) (nx : Nat) : Option (AV × AHeap × Nat) := F4_L2' go1 go1 call Y lf n0 x8a x8n x8c x9a x9n x9c x11a x11n x11c x13 h nx

noncomputable def F4_L3' (W J : StepF (AV × AHeap × Nat) → StepF (AV × AHeap × Nat)) (call : YldF → CallF) (Y : YldF) (lf : Nat) (n0 : Nat) (n1 : Nat) (x8a : Option (Nat × Nat)) (x8n : Nat) (x8c : Bool) (x9a : Option (Nat × Nat)) (x9n : Nat) (x9c : Bool) (x11a : Option (Nat × Nat)) (x11n : Nat) (x11c : Bool) (x13 : Int) (x14 : Bool) (x15 : Bool) (x16 : Int) (h : AHeap) (nx : Nat) : Option (AV × AHeap × Nat) :=
  goK W J drawK (machOf Try.prog) call Y (keepT 4) lf c4 [1, 1, 1, 1, 1, 1, 0, 1, 0, 0, 1, 0, 0, 1, 1, 0, 1, 0, 9] [n0, n1] (retK (machOf Try.prog) ⟨c4, 114, r4, keepT 4⟩) ⟨114, mkL [(8, (.slice x8a x8n x8c)), (9, (.slice x9a x9n x9c)), (11, (.slice x11a x11n x11c)), (13, (.int .i64 x13)), (14, (.bool x14)), (15, (.bool x15)), (16, (.int .i64 x16))]⟩ h nx

noncomputable def F4_L3 (call : YldF → CallF) (Y : YldF) (lf : Nat) (n0 : Nat) (n1 : Nat) (x8a : Option (Nat × Nat)) (x8n : Nat) (x8c : Bool) (x9a : Option (Nat × Nat)) (x9n : Nat) (x9c : Bool) (x11a : Option (Nat × Nat)) (x11n : Nat) (x11c : Bool) (x13 : Int) (x14 : Bool) (x15 : Bool) (x16 : Int) (h : AHeap) (nx : Nat) : Option (AV × AHeap × Nat) := F4_L3' go1 go1 call Y lf n0 n1 x8a x8n x8c x9a x9n x9c x11a x11n x11c x13 x14 x15 x16 h nx

theorem F4_J1_eq' (J : StepF (AV × AHeap × Nat) → StepF (AV × AHeap × Nat)) (call : YldF → CallF) (Y : YldF) (lf : Nat) (x8a : Option (Nat × Nat)) (x8n : Nat) (x8c : Bool) (x9a : Option (Nat × Nat)) (x9n : Nat) (x9c : Bool) (x11a : Option (Nat × Nat)) (x11n : Nat) (x11c : Bool) (h : AHeap) (nx : Nat) : F4_J1' go1 J call Y lf x8a x8n x8c x9a x9n x9c x11a x11n x11c h nx =
    F4_L2' J J call Y lf lf x8a x8n x8c x9a x9n x9c x11a x11n x11c 0 h (nx + 1) := by kernel_rfl

theorem F4_J1_eq (call : YldF → CallF) (Y : YldF) (lf : Nat) (x8a : Option (Nat × Nat)) (x8n : Nat) (x8c : Bool) (x9a : Option (Nat × Nat)) (x9n : Nat) (x9c : Bool) (x11a : Option (Nat × Nat)) (x11n : Nat) (x11c : Bool) (h : AHeap) (nx : Nat) : F4_J1 call Y lf x8a x8n x8c x9a x9n x9c x11a x11n x11c h nx =
    F4_L2 call Y lf lf x8a x8n x8c x9a x9n x9c x11a x11n x11c 0 h (nx + 1) := F4_J1_eq' go1 call Y lf x8a x8n x8c x9a x9n x9c x11a x11n x11c h nx

theorem F4_L2_eq' (J : StepF (AV × AHeap × Nat) → StepF (AV × AHeap × Nat)) (call : YldF → CallF) (Y : YldF) (lf : Nat) (n0 : Nat) (x8a : Option (Nat × Nat)) (x8n : Nat) (x8c : Bool) (x9a : Option (Nat × Nat)) (x9n : Nat) (x9c : Bool) (x11a : Option (Nat × Nat)) (x11n : Nat) (x11c : Bool) (x13 : Int) (h : AHeap) (nx : Nat) : F4_L2' go1 J call Y lf (n0 + 1) x8a x8n x8c x9a x9n x9c x11a x11n x11c x13 h nx =
    if (decide ((x13 : Int) < 8)) = true then
    ((x9a).bind fun p1 =>
    if 0 ≤ (x13 : Int) ∧ x13 < ((x9n : Nat) : Int) then
    ((ldA h p1.1 (p1.2 + Int.toNat x13 * 1)).bind fun v2 =>
    (asSl v2).bind fun s3 =>
    (x11a).bind fun p4 =>
    if 0 ≤ (x13 : Int) ∧ x13 < ((x11n : Nat) : Int) then
    ((ldA h p4.1 (p4.2 + Int.toNat x13 * 1)).bind fun v5 =>
    (asSl v5).bind fun s6 =>
    (call Y 20 [(.slice s3.1 s3.2.1 s3.2.2), (.slice s6.1 s6.2.1 s6.2.2)] h (nx + 13)).bind fun r7 =>
    (asB r7.1).bind fun t8 =>
    F4_L3' J J call Y lf n0 lf x8a x8n x8c x9a x9n x9c x11a x11n x11c x13 false t8 0 r7.2.1 (r7.2.2 + 1))
    else none)
    else none)
    else
    (some ((.bool true), h, (nx + 3))) := by kernel_rfl

theorem F4_L2_eq (call : YldF → CallF) (Y : YldF) (lf : Nat) (n0 : Nat) (x8a : Option (Nat × Nat)) (x8n : Nat) (x8c : Bool) (x9a : Option (Nat × Nat)) (x9n : Nat) (x9c : Bool) (x11a : Option (Nat × Nat)) (x11n : Nat) (x11c : Bool) (x13 : Int) (h : AHeap) (nx : Nat) : F4_L2 call Y lf (n0 + 1) x8a x8n x8c x9a x9n x9c x11a x11n x11c x13 h nx =
    if (decide ((x13 : Int) < 8)) = true then
    ((x9a).bind fun p1 =>
    if 0 ≤ (x13 : Int) ∧ x13 < ((x9n : Nat) : Int) then
    ((ldA h p1.1 (p1.2 + Int.toNat x13 * 1)).bind fun v2 =>
    (asSl v2).bind fun s3 =>
    (x11a).bind fun p4 =>
    if 0 ≤ (x13 : Int) ∧ x13 < ((x11n : Nat) : Int) then
    ((ldA h p4.1 (p4.2 + Int.toNat x13 * 1)).bind fun v5 =>
    (asSl v5).bind fun s6 =>
    (call Y 20 [(.slice s3.1 s3.2.1 s3.2.2), (.slice s6.1 s6.2.1 s6.2.2)] h (nx + 13)).bind fun r7 =>
    (asB r7.1).bind fun t8 =>
    F4_L3 call Y lf n0 lf x8a x8n x8c x9a x9n x9c x11a x11n x11c x13 false t8 0 r7.2.1 (r7.2.2 + 1))
    else none)
    else none)
    else
    (some ((.bool true), h, (nx + 3))) := F4_L2_eq' go1 call Y lf n0 x8a x8n x8c x9a x9n x9c x11a x11n x11c x13 h nx

theorem F4_L2_zero (call : YldF → CallF) (Y : YldF) (lf : Nat) (x8a : Option (Nat × Nat)) (x8n : Nat) (x8c : Bool) (x9a : Option (Nat × Nat)) (x9n : Nat) (x9c : Bool) (x11a : Option (Nat × Nat)) (x11n : Nat) (x11c : Bool) (x13 : Int) (h : AHeap) (nx : Nat) : F4_L2 call Y lf 0 x8a x8n x8c x9a x9n x9c x11a x11n x11c x13 h nx = none := by kernel_rfl

theorem F4_L3_eq' (J : StepF (AV × AHeap × Nat) → StepF (AV × AHeap × Nat)) (call : YldF → CallF) (Y : YldF) (lf : Nat) (n0 : Nat) (n1 : Nat) (x8a : Option (Nat × Nat)) (x8n : Nat) (x8c : Bool) (x9a : Option (Nat × Nat)) (x9n : Nat) (x9c : Bool) (x11a : Option (Nat × Nat)) (x11n : Nat) (x11c : Bool) (x13 : Int) (x14 : Bool) (x15 : Bool) (x16 : Int) (h : AHeap) (nx : Nat) : F4_L3' go1 J call Y lf n0 (n1 + 1) x8a x8n x8c x9a x9n x9c x11a x11n x11c x13 x14 x15 x16 h nx =
    if (decide ((x16 : Int) < ((x8n : Nat) : Int))) = true then
    ((x8a).bind fun p1 =>
    if 0 ≤ (x16 : Int) ∧ x16 < ((x8n : Nat) : Int) then
    ((ldA h p1.1 (p1.2 + Int.toNat x16 * 4)).bind fun v2 =>
    (asI .i64 v2).bind fun n3 =>
    if ((n3 : Int) == 1) = true then
    ((x8a).bind fun p4 =>
    if 0 ≤ (x16 : Int) ∧ x16 < ((x8n : Nat) : Int) then
    ((ldA h p4.1 ((p4.2 + Int.toNat x16 * 4) + 1)).bind fun v5 =>
    (asI .i64 v5).bind fun n6 =>
    if ((n6 : Int) == x13) = true then
    (if x15 = true then
    (F4_L3' J J call Y lf n0 n1 x8a x8n x8c x9a x9n x9c x11a x11n x11c x13 true true (wrapA .i64 (x16 + 1)) h (nx + 37))
    else
    ((x8a).bind fun p7 =>
    if 0 ≤ (x16 : Int) ∧ x16 < ((x8n : Nat) : Int) then
    ((ldA h p7.1 ((p7.2 + Int.toNat x16 * 4) + 3)).bind fun v8 =>
    (asSl v8).bind fun s9 =>
    (x11a).bind fun p10 =>
    if 0 ≤ (x13 : Int) ∧ x13 < ((x11n : Nat) : Int) then
    ((ldA h p10.1 (p10.2 + Int.toNat x13 * 1)).bind fun v11 =>
    (asSl v11).bind fun s12 =>
    (call Y 20 [(.slice s9.1 s9.2.1 s9.2.2), (.slice s12.1 s12.2.1 s12.2.2)] h (nx + 34)).bind fun r13 =>
    (asB r13.1).bind fun t14 =>
    F4_L3' J J call Y lf n0 n1 x8a x8n x8c x9a x9n x9c x11a x11n x11c x13 true t14 (wrapA .i64 (x16 + 1)) r13.2.1 (r13.2.2 + 3))
    else none)
    else none))
    else
    (F4_L3' J J call Y lf n0 n1 x8a x8n x8c x9a x9n x9c x11a x11n x11c x13 x14 x15 (wrapA .i64 (x16 + 1)) h (nx + 22)))
    else none)
    else
    (F4_L3' J J call Y lf n0 n1 x8a x8n x8c x9a x9n x9c x11a x11n x11c x13 x14 x15 (wrapA .i64 (x16 + 1)) h (nx + 22)))
    else none)
    else
    (if (!x14) = true then
    ((x9a).bind fun p15 =>
    if 0 ≤ (x13 : Int) ∧ x13 < ((x9n : Nat) : Int) then
    ((ldA h p15.1 (p15.2 + Int.toNat x13 * 1)).bind fun v16 =>
    (asSl v16).bind fun s17 =>
    (x11a).bind fun p18 =>
    if 0 ≤ (x13 : Int) ∧ x13 < ((x11n : Nat) : Int) then
    ((ldA h p18.1 (p18.2 + Int.toNat x13 * 1)).bind fun v19 =>
    (asSl v19).bind fun s20 =>
    (call Y 20 [(.slice s17.1 s17.2.1 s17.2.2), (.slice s20.1 s20.2.1 s20.2.2)] h (nx + 22)).bind fun r21 =>
    (asB r21.1).bind fun t22 =>
    if (!t22) = true then
    (some ((.bool false), r21.2.1, (r21.2.2 + 1)))
    else
    (if (!x15) = true then
    (some ((.bool false), r21.2.1, (r21.2.2 + 1)))
    else
    (F4_L2' J J call Y lf n0 x8a x8n x8c x9a x9n x9c x11a x11n x11c (wrapA .i64 (x13 + 1)) r21.2.1 (r21.2.2 + 3))))
    else none)
    else none)
    else
    (if (!x15) = true then
    (some ((.bool false), h, (nx + 23)))
    else
    (F4_L2' J J call Y lf n0 x8a x8n x8c x9a x9n x9c x11a x11n x11c (wrapA .i64 (x13 + 1)) h (nx + 25)))) := by kernel_rfl

theorem F4_L3_eq (call : YldF → CallF) (Y : YldF) (lf : Nat) (n0 : Nat) (n1 : Nat) (x8a : Option (Nat × Nat)) (x8n : Nat) (x8c : Bool) (x9a : Option (Nat × Nat)) (x9n : Nat) (x9c : Bool) (x11a : Option (Nat × Nat)) (x11n : Nat) (x11c : Bool) (x13 : Int) (x14 : Bool) (x15 : Bool) (x16 : Int) (h : AHeap) (nx : Nat) : F4_L3 call Y lf n0 (n1 + 1) x8a x8n x8c x9a x9n x9c x11a x11n x11c x13 x14 x15 x16 h nx =
    if (decide ((x16 : Int) < ((x8n : Nat) : Int))) = true then
    ((x8a).bind fun p1 =>
    if 0 ≤ (x16 : Int) ∧ x16 < ((x8n : Nat) : Int) then
    ((ldA h p1.1 (p1.2 + Int.toNat x16 * 4)).bind fun v2 =>
    (asI .i64 v2).bind fun n3 =>
    if ((n3 : Int) == 1) = true then
    ((x8a).bind fun p4 =>
    if 0 ≤ (x16 : Int) ∧ x16 < ((x8n : Nat) : Int) then
    ((ldA h p4.1 ((p4.2 + Int.toNat x16 * 4) + 1)).bind fun v5 =>
    (asI .i64 v5).bind fun n6 =>
    if ((n6 : Int) == x13) = true then
    (if x15 = true then
    (F4_L3 call Y lf n0 n1 x8a x8n x8c x9a x9n x9c x11a x11n x11c x13 true true (wrapA .i64 (x16 + 1)) h (nx + 37))
    else
    ((x8a).bind fun p7 =>
    if 0 ≤ (x16 : Int) ∧ x16 < ((x8n : Nat) : Int) then
    ((ldA h p7.1 ((p7.2 + Int.toNat x16 * 4) + 3)).bind fun v8 =>
    (asSl v8).bind fun s9 =>
    (x11a).bind fun p10 =>
    if 0 ≤ (x13 : Int) ∧ x13 < ((x11n : Nat) : Int) then
    ((ldA h p10.1 (p10.2 + Int.toNat x13 * 1)).bind fun v11 =>
    (asSl v11).bind fun s12 =>
    (call Y 20 [(.slice s9.1 s9.2.1 s9.2.2), (.slice s12.1 s12.2.1 s12.2.2)] h (nx + 34)).bind fun r13 =>
    (asB r13.1).bind fun t14 =>
    F4_L3 call Y lf n0 n1 x8a x8n x8c x9a x9n x9c x11a x11n x11c x13 true t14 (wrapA .i64 (x16 + 1)) r13.2.1 (r13.2.2 + 3))
    else none)
    else none))
    else
    (F4_L3 call Y lf n0 n1 x8a x8n x8c x9a x9n x9c x11a x11n x11c x13 x14 x15 (wrapA .i64 (x16 + 1)) h (nx + 22)))
    else none)
    else
    (F4_L3 call Y lf n0 n1 x8a x8n x8c x9a x9n x9c x11a x11n x11c x13 x14 x15 (wrapA .i64 (x16 + 1)) h (nx + 22)))
    else none)
    else
    (if (!x14) = true then
    ((x9a).bind fun p15 =>
    if 0 ≤ (x13 : Int) ∧ x13 < ((x9n : Nat) : Int) then
    ((ldA h p15.1 (p15.2 + Int.toNat x13 * 1)).bind fun v16 =>
    (asSl v16).bind fun s17 =>
    (x11a).bind fun p18 =>
    if 0 ≤ (x13 : Int) ∧ x13 < ((x11n : Nat) : Int) then
    ((ldA h p18.1 (p18.2 + Int.toNat x13 * 1)).bind fun v19 =>
    (asSl v19).bind fun s20 =>
    (call Y 20 [(.slice s17.1 s17.2.1 s17.2.2), (.slice s20.1 s20.2.1 s20.2.2)] h (nx + 22)).bind fun r21 =>
    (asB r21.1).bind fun t22 =>
    if (!t22) = true then
    (some ((.bool false), r21.2.1, (r21.2.2 + 1)))
    else
    (if (!x15) = true then
    (some ((.bool false), r21.2.1, (r21.2.2 + 1)))
    else
    (F4_L2 call Y lf n0 x8a x8n x8c x9a x9n x9c x11a x11n x11c (wrapA .i64 (x13 + 1)) r21.2.1 (r21.2.2 + 3))))
    else none)
    else none)
    else
    (if (!x15) = true then
    (some ((.bool false), h, (nx + 23)))
    else
    (F4_L2 call Y lf n0 x8a x8n x8c x9a x9n x9c x11a x11n x11c (wrapA .i64 (x13 + 1)) h (nx + 25)))) := F4_L3_eq' go1 call Y lf n0 n1 x8a x8n x8c x9a x9n x9c x11a x11n x11c x13 x14 x15 x16 h nx

theorem F4_L3_zero (call : YldF → CallF) (Y : YldF) (lf : Nat) (n0 : Nat) (x8a : Option (Nat × Nat)) (x8n : Nat) (x8c : Bool) (x9a : Option (Nat × Nat)) (x9n : Nat) (x9c : Bool) (x11a : Option (Nat × Nat)) (x11n : Nat) (x11c : Bool) (x13 : Int) (x14 : Bool) (x15 : Bool) (x16 : Int) (h : AHeap) (nx : Nat) : F4_L3 call Y lf n0 0 x8a x8n x8c x9a x9n x9c x11a x11n x11c x13 x14 x15 x16 h nx = none := by kernel_rfl

theorem F4_eq' (J : StepF (AV × AHeap × Nat) → StepF (AV × AHeap × Nat)) (n : Nat) (Y : YldF) (x0a : Option (Nat × Nat)) (x0n : Nat) (x0c : Bool) (x1a : Option (Nat × Nat)) (x1n : Nat) (x1c : Bool) (x2 : Int) (h : AHeap) (nx : Nat) : rootJ J Try.prog keepT (callP Try.prog keepT n) Y n 4 [(.slice x0a x0n x0c), (.slice x1a x1n x1c), (.int .i64 x2)] h nx =
    let h1 := AHeap.put h (nx + 2) (some ⟨[(.int .i64 1), (.int .i64 3), (.int .i64 4)], 1, true⟩)
    ((callP Try.prog keepT n) Y 18 [(.slice x0a x0n x0c), (.int .i64 40), (.slice (some ((nx + 2), 0)) 3 true)] h1 (nx + 8)).bind fun r2 =>
    (asSl r2.1).bind fun s3 =>
    let h4 := AHeap.put r2.2.1 (nx + 5) (some ⟨[(.int .i64 3), (.int .i64 0), (.int .i64 0), (.slice none 0 false)], 4, true⟩)
    (srcS h4 (some ((nx + 5), 0)) 1 4).bind fun q5 =>
    (appD h4 s3.1 s3.2.1 s3.2.2 4 48 (nx + 6) q5).bind fun e6 =>
    let h7 := AHeap.puts h4 e6.sets
    let h8 := AHeap.put h7 (r2.2.2 + 1) (some ⟨[(.int .i64 1), (.int .i64 2)], 1, true⟩)
    ((callP Try.prog keepT n) Y 18 [(.slice x1a x1n x1c), (.int .i64 20), (.slice (some ((r2.2.2 + 1), 0)) 2 true)] h8 (r2.2.2 + 4)).bind fun r9 =>
    (asSl r9.1).bind fun s10 =>
    ((callP Try.prog keepT n) Y 19 [(.slice e6.a e6.n e6.c)] r9.2.1 (r9.2.2 + 7)).bind fun r11 =>
    (asTup 2 r11.1).bind fun d12 =>
    (asSl (d12.getD 0 .bad)).bind fun s13 =>
    (asB (d12.getD 1 .bad)).bind fun t14 =>
    (srcS r11.2.1 e6.a e6.n 4).bind fun q15 =>
    (appD r11.2.1 none 0 false 4 48 (r11.2.2 + 1) q15).bind fun e16 =>
    let h17 := AHeap.puts r11.2.1 e16.sets
    (srcS h17 s10.1 s10.2.1 4).bind fun q18 =>
    (appD h17 e16.a e16.n e16.c 4 48 (r11.2.2 + 3) q18).bind fun e19 =>
    let h20 := AHeap.puts h17 e19.sets
    let h21 := AHeap.put h20 (r11.2.2 + 6) (some ⟨[(.int .i64 4), (.int .i64 0), (.int .i64 x2), (.slice none 0 false)], 4, true⟩)
    (srcS h21 (some ((r11.2.2 + 6), 0)) 1 4).bind fun q22 =>
    (appD h21 e19.a e19.n e19.c 4 48 (r11.2.2 + 7) q22).bind fun e23 =>
    let h24 := AHeap.puts h21 e23.sets
    ((callP Try.prog keepT n) Y 19 [(.slice e23.a e23.n e23.c)] h24 (r11.2.2 + 14)).bind fun r25 =>
    (asTup 2 r25.1).bind fun d26 =>
    (asSl (d26.getD 0 .bad)).bind fun s27 =>
    (asB (d26.getD 1 .bad)).bind fun t28 =>
    if (!t14) = true then
    (some ((.bool false), r25.2.1, (r25.2.2 + 7)))
    else
    (if (!t28) = true then
    (some ((.bool false), r25.2.1, (r25.2.2 + 7)))
    else
    (F4_J1' J J (callP Try.prog keepT n) Y n s10.1 s10.2.1 s10.2.2 s13.1 s13.2.1 s13.2.2 s27.1 s27.2.1 s27.2.2 r25.2.1 (r25.2.2 + 6))) := by kernel_rfl

/-- quickset/quicksetkeep.DriveStays -/
theorem F4_eq (n : Nat) (Y : YldF) (x0a : Option (Nat × Nat)) (x0n : Nat) (x0c : Bool) (x1a : Option (Nat × Nat)) (x1n : Nat) (x1c : Bool) (x2 : Int) (h : AHeap) (nx : Nat) : callP Try.prog keepT (n + 1) Y 4 [(.slice x0a x0n x0c), (.slice x1a x1n x1c), (.int .i64 x2)] h nx =
    let h1 := AHeap.put h (nx + 2) (some ⟨[(.int .i64 1), (.int .i64 3), (.int .i64 4)], 1, true⟩)
    ((callP Try.prog keepT n) Y 18 [(.slice x0a x0n x0c), (.int .i64 40), (.slice (some ((nx + 2), 0)) 3 true)] h1 (nx + 8)).bind fun r2 =>
    (asSl r2.1).bind fun s3 =>
    let h4 := AHeap.put r2.2.1 (nx + 5) (some ⟨[(.int .i64 3), (.int .i64 0), (.int .i64 0), (.slice none 0 false)], 4, true⟩)
    (srcS h4 (some ((nx + 5), 0)) 1 4).bind fun q5 =>
    (appD h4 s3.1 s3.2.1 s3.2.2 4 48 (nx + 6) q5).bind fun e6 =>
    let h7 := AHeap.puts h4 e6.sets
    let h8 := AHeap.put h7 (r2.2.2 + 1) (some ⟨[(.int .i64 1), (.int .i64 2)], 1, true⟩)
    ((callP Try.prog keepT n) Y 18 [(.slice x1a x1n x1c), (.int .i64 20), (.slice (some ((r2.2.2 + 1), 0)) 2 true)] h8 (r2.2.2 + 4)).bind fun r9 =>
    (asSl r9.1).bind fun s10 =>
    ((callP Try.prog keepT n) Y 19 [(.slice e6.a e6.n e6.c)] r9.2.1 (r9.2.2 + 7)).bind fun r11 =>
    (asTup 2 r11.1).bind fun d12 =>
    (asSl (d12.getD 0 .bad)).bind fun s13 =>
    (asB (d12.getD 1 .bad)).bind fun t14 =>
    (srcS r11.2.1 e6.a e6.n 4).bind fun q15 =>
    (appD r11.2.1 none 0 false 4 48 (r11.2.2 + 1) q15).bind fun e16 =>
    let h17 := AHeap.puts r11.2.1 e16.sets
    (srcS h17 s10.1 s10.2.1 4).bind fun q18 =>
    (appD h17 e16.a e16.n e16.c 4 48 (r11.2.2 + 3) q18).bind fun e19 =>
    let h20 := AHeap.puts h17 e19.sets
    let h21 := AHeap.put h20 (r11.2.2 + 6) (some ⟨[(.int .i64 4), (.int .i64 0), (.int .i64 x2), (.slice none 0 false)], 4, true⟩)
    (srcS h21 (some ((r11.2.2 + 6), 0)) 1 4).bind fun q22 =>
    (appD h21 e19.a e19.n e19.c 4 48 (r11.2.2 + 7) q22).bind fun e23 =>
    let h24 := AHeap.puts h21 e23.sets
    ((callP Try.prog keepT n) Y 19 [(.slice e23.a e23.n e23.c)] h24 (r11.2.2 + 14)).bind fun r25 =>
    (asTup 2 r25.1).bind fun d26 =>
    (asSl (d26.getD 0 .bad)).bind fun s27 =>
    (asB (d26.getD 1 .bad)).bind fun t28 =>
    if (!t14) = true then
    (some ((.bool false), r25.2.1, (r25.2.2 + 7)))
    else
    (if (!t28) = true then
    (some ((.bool false), r25.2.1, (r25.2.2 + 7)))
    else
    (F4_J1 (callP Try.prog keepT n) Y n s10.1 s10.2.1 s10.2.2 s13.1 s13.2.1 s13.2.2 s27.1 s27.2.1 s27.2.2 r25.2.1 (r25.2.2 + 6))) := F4_eq' go1 n Y x0a x0n x0c x1a x1n x1c x2 h nx

noncomputable def c5 : Code := (Try.f5.body).getD .skip

noncomputable def r5 : List ResultVar := Try.f5.results.toList

noncomputable def F5_L1' (W J : StepF (AV × AHeap × Nat) → StepF (AV × AHeap × Nat)) (call : YldF → CallF) (Y : YldF) (lf : Nat) (n0 : Nat) (x3a : Option (Nat × Nat)) (x3n : Nat) (x3c : Bool) (x4a : Option (Nat × Nat)) (x4n : Nat) (x4c : Bool) (x5 : Bool) (x6a : Option (Nat × Nat)) (x6n : Nat) (x6c : Bool) (x7 : Bool) (x8a : Option (Nat × Nat)) (x8n : Nat) (x8c : Bool) (x9 : Bool) (x10 : Int) (x11 : Int) (h : AHeap) (nx : Nat) : Option (AV × AHeap × Nat) :=
  goK W J drawK (machOf Try.prog) call Y (keepT 5) lf c5 [1, 1, 1, 1, 1, 1, 0, 1, 0, 9] [n0] (retK (machOf Try.prog) ⟨c5, 100, r5, keepT 5⟩) ⟨100, mkL [(3, (.slice x3a x3n x3c)), (4, (.slice x4a x4n x4c)), (5, (.bool x5)), (6, (.slice x6a x6n x6c)), (7, (.bool x7)), (8, (.slice x8a x8n x8c)), (9, (.bool x9)), (10, (.int .i64 x10)), (11, (.int .i64 x11))]⟩ h nx

noncomputable def F5_L1 (call : YldF → CallF) (Y : YldF) (lf : Nat) (n0 : Nat) (x3a : Option (Nat × Nat)) (x3n : Nat) (x3c : Bool) (x4a : Option (Nat × Nat)) (x4n : Nat) (x4c : Bool) (x5 : Bool) (x6a : Option (Nat × Nat)) (x6n : Nat) (x6c : Bool) (x7 : Bool) (x8a : Option (Nat × Nat)) (x8n : Nat) (x8c : Bool) (x9 : Bool) (x10 : Int) (x11 : Int) (h : AHeap) (nx : Nat) : Option (AV × AHeap × Nat) := F5_L1' go1 go1 call Y lf n0 x3a x3n x3c x4a x4n x4c x5 x6a x6n x6c x7 x8a x8n x8c x9 x10 x11 h nx

theorem F5_L1_eq' (J : StepF (AV × AHeap × Nat) → StepF (AV × AHeap × Nat)) (call : YldF → CallF) (Y : YldF) (lf : Nat) (n0 : Nat) (x3a : Option (Nat × Nat)) (x3n : Nat) (x3c : Bool) (x4a : Option (Nat × Nat)) (x4n : Nat) (x4c : Bool) (x5 : Bool) (x6a : Option (Nat × Nat)) (x6n : Nat) (x6c : Bool) (x7 : Bool) (x8a : Option (Nat × Nat)) (x8n : Nat) (x8c : Bool) (x9 : Bool) (x10 : Int) (x11 : Int) (h : AHeap) (nx : Nat) : F5_L1' go1 J call Y lf (n0 + 1) x3a x3n x3c x4a x4n x4c x5 x6a x6n x6c x7 x8a x8n x8c x9 x10 x11 h nx =
    if (decide ((x11 : Int) < ((x3n : Nat) : Int))) = true then
    ((x3a).bind fun p1 =>
    if 0 ≤ (x11 : Int) ∧ x11 < ((x3n : Nat) : Int) then
    ((ldA h p1.1 (p1.2 + Int.toNat x11 * 4)).bind fun v2 =>
    (asI .i64 v2).bind fun n3 =>
    if ((n3 : Int) == 3) = true then
    (F5_L1' J J call Y lf n0 x3a x3n x3c x4a x4n x4c x5 x6a x6n x6c x7 x8a x8n x8c x9 (wrapA .i64 (x11 + 1)) (wrapA .i64 (x11 + 1)) h (nx + 16))
    else
    (F5_L1' J J call Y lf n0 x3a x3n x3c x4a x4n x4c x5 x6a x6n x6c x7 x8a x8n x8c x9 x10 (wrapA .i64 (x11 + 1)) h (nx + 13)))
    else none)
    else
    ((srcS h x3a x3n 4).bind fun q4 =>
    (appD h none 0 false 4 48 (nx + 5) q4).bind fun e5 =>
    let h6 := AHeap.puts h e5.sets
    let h7 := AHeap.put h6 (nx + 7) (some ⟨[(.int .i64 4), (.int .i64 0), (.int .i64 0), (.slice none 0 false)], 4, true⟩)
    (srcS h7 (some ((nx + 7), 0)) 1 4).bind fun q8 =>
    (appD h7 e5.a e5.n e5.c 4 48 (nx + 8) q8).bind fun e9 =>
    let h10 := AHeap.puts h7 e9.sets
    (call Y 19 [(.slice e9.a e9.n e9.c)] h10 (nx + 15)).bind fun r11 =>
    (asTup 2 r11.1).bind fun d12 =>
    (asSl (d12.getD 0 .bad)).bind fun s13 =>
    (asB (d12.getD 1 .bad)).bind fun t14 =>
    (cutA r11.2.1 x3a x3n x3c 4 none (some (.int .i64 x10)) none).bind fun s15 =>
    (call Y 19 [(.slice s15.1 s15.2.1 s15.2.2)] r11.2.1 (r11.2.2 + 9)).bind fun r16 =>
    (asTup 2 r16.1).bind fun d17 =>
    (asSl (d17.getD 0 .bad)).bind fun s18 =>
    (asB (d17.getD 1 .bad)).bind fun t19 =>
    if x5 = true then
    (if x7 = true then
    (if x9 = true then
    (if t14 = true then
    (if t19 = true then
    ((call Y 21 [(.slice x4a x4n x4c), (.slice x6a x6n x6c)] r16.2.1 (r16.2.2 + 29)).bind fun r20 =>
    (asB r20.1).bind fun t21 =>
    if t21 = true then
    ((call Y 21 [(.slice x4a x4n x4c), (.slice x8a x8n x8c)] r20.2.1 r20.2.2).bind fun r22 =>
    (asB r22.1).bind fun t23 =>
    if t23 = true then
    ((call Y 21 [(.slice s13.1 s13.2.1 s13.2.2), (.slice s18.1 s18.2.1 s18.2.2)] r22.2.1 r22.2.2).bind fun r24 =>
    (asB r24.1).bind fun t25 =>
    some ((.bool t25), r24.2.1, r24.2.2))
    else
    (some ((.bool false), r22.2.1, r22.2.2)))
    else
    (some ((.bool false), r20.2.1, r20.2.2)))
    else
    (some ((.bool false), r16.2.1, (r16.2.2 + 29))))
    else
    (some ((.bool false), r16.2.1, (r16.2.2 + 29))))
    else
    (some ((.bool false), r16.2.1, (r16.2.2 + 29))))
    else
    (some ((.bool false), r16.2.1, (r16.2.2 + 29))))
    else
    (some ((.bool false), r16.2.1, (r16.2.2 + 29)))) := by kernel_rfl

theorem F5_L1_eq (call : YldF → CallF) (Y : YldF) (lf : Nat) (n0 : Nat) (x3a : Option (Nat × Nat)) (x3n : Nat) (x3c : Bool) (x4a : Option (Nat × Nat)) (x4n : Nat) (x4c : Bool) (x5 : Bool) (x6a : Option (Nat × Nat)) (x6n : Nat) (x6c : Bool) (x7 : Bool) (x8a : Option (Nat × Nat)) (x8n : Nat) (x8c : Bool) (x9 : Bool) (x10 : Int) (x11 : Int) (h : AHeap) (nx : Nat) : F5_L1 call Y lf (n0 + 1) x3a x3n x3c x4a x4n x4c x5 x6a x6n x6c x7 x8a x8n x8c x9 x10 x11 h nx =
    if (decide ((x11 : Int) < ((x3n : Nat) : Int))) = true then
    ((x3a).bind fun p1 =>
    if 0 ≤ (x11 : Int) ∧ x11 < ((x3n : Nat) : Int) then
    ((ldA h p1.1 (p1.2 + Int.toNat x11 * 4)).bind fun v2 =>
    (asI .i64 v2).bind fun n3 =>
    if ((n3 : Int) == 3) = true then
    (F5_L1 call Y lf n0 x3a x3n x3c x4a x4n x4c x5 x6a x6n x6c x7 x8a x8n x8c x9 (wrapA .i64 (x11 + 1)) (wrapA .i64 (x11 + 1)) h (nx + 16))
    else
    (F5_L1 call Y lf n0 x3a x3n x3c x4a x4n x4c x5 x6a x6n x6c x7 x8a x8n x8c x9 x10 (wrapA .i64 (x11 + 1)) h (nx + 13)))
    else none)
    else
    ((srcS h x3a x3n 4).bind fun q4 =>
    (appD h none 0 false 4 48 (nx + 5) q4).bind fun e5 =>
    let h6 := AHeap.puts h e5.sets
    let h7 := AHeap.put h6 (nx + 7) (some ⟨[(.int .i64 4), (.int .i64 0), (.int .i64 0), (.slice none 0 false)], 4, true⟩)
    (srcS h7 (some ((nx + 7), 0)) 1 4).bind fun q8 =>
    (appD h7 e5.a e5.n e5.c 4 48 (nx + 8) q8).bind fun e9 =>
    let h10 := AHeap.puts h7 e9.sets
    (call Y 19 [(.slice e9.a e9.n e9.c)] h10 (nx + 15)).bind fun r11 =>
    (asTup 2 r11.1).bind fun d12 =>
    (asSl (d12.getD 0 .bad)).bind fun s13 =>
    (asB (d12.getD 1 .bad)).bind fun t14 =>
    (cutA r11.2.1 x3a x3n x3c 4 none (some (.int .i64 x10)) none).bind fun s15 =>
    (call Y 19 [(.slice s15.1 s15.2.1 s15.2.2)] r11.2.1 (r11.2.2 + 9)).bind fun r16 =>
    (asTup 2 r16.1).bind fun d17 =>
    (asSl (d17.getD 0 .bad)).bind fun s18 =>
    (asB (d17.getD 1 .bad)).bind fun t19 =>
    if x5 = true then
    (if x7 = true then
    (if x9 = true then
    (if t14 = true then
    (if t19 = true then
    ((call Y 21 [(.slice x4a x4n x4c), (.slice x6a x6n x6c)] r16.2.1 (r16.2.2 + 29)).bind fun r20 =>
    (asB r20.1).bind fun t21 =>
    if t21 = true then
    ((call Y 21 [(.slice x4a x4n x4c), (.slice x8a x8n x8c)] r20.2.1 r20.2.2).bind fun r22 =>
    (asB r22.1).bind fun t23 =>
    if t23 = true then
    ((call Y 21 [(.slice s13.1 s13.2.1 s13.2.2), (.slice s18.1 s18.2.1 s18.2.2)] r22.2.1 r22.2.2).bind fun r24 =>
    (asB r24.1).bind fun t25 =>
    some ((.bool t25), r24.2.1, r24.2.2))
    else
    (some ((.bool false), r22.2.1, r22.2.2)))
    else
    (some ((.bool false), r20.2.1, r20.2.2)))
    else
    (some ((.bool false), r16.2.1, (r16.2.2 + 29))))
    else
    (some ((.bool false), r16.2.1, (r16.2.2 + 29))))
    else
    (some ((.bool false), r16.2.1, (r16.2.2 + 29))))
    else
    (some ((.bool false), r16.2.1, (r16.2.2 + 29))))
    else
    (some ((.bool false), r16.2.1, (r16.2.2 + 29)))) := F5_L1_eq' go1 call Y lf n0 x3a x3n x3c x4a x4n x4c x5 x6a x6n x6c x7 x8a x8n x8c x9 x10 x11 h nx

theorem F5_L1_zero (call : YldF → CallF) (Y : YldF) (lf : Nat) (x3a : Option (Nat × Nat)) (x3n : Nat) (x3c : Bool) (x4a : Option (Nat × Nat)) (x4n : Nat) (x4c : Bool) (x5 : Bool) (x6a : Option (Nat × Nat)) (x6n : Nat) (x6c : Bool) (x7 : Bool) (x8a : Option (Nat × Nat)) (x8n : Nat) (x8c : Bool) (x9 : Bool) (x10 : Int) (x11 : Int) (h : AHeap) (nx : Nat) : F5_L1 call Y lf 0 x3a x3n x3c x4a x4n x4c x5 x6a x6n x6c x7 x8a x8n x8c x9 x10 x11 h nx = none := by kernel_rfl

theorem F5_eq' (J : StepF (AV × AHeap × Nat) → StepF (AV × AHeap × Nat)) (n : Nat) (Y : YldF) (x0a : Option (Nat × Nat)) (x0n : Nat) (x0c : Bool) (h : AHeap) (nx : Nat) : rootJ J Try.prog keepT (callP Try.prog keepT n) Y n 5 [(.slice x0a x0n x0c)] h nx =
    let h1 := AHeap.put h (nx + 2) (some ⟨[(.int .i64 1), (.int .i64 1), (.int .i64 3), (.int .i64 2)], 1, true⟩)
    ((callP Try.prog keepT n) Y 18 [(.slice x0a x0n x0c), (.int .i64 60), (.slice (some ((nx + 2), 0)) 4 true)] h1 (nx + 5)).bind fun r2 =>
    (asSl r2.1).bind fun s3 =>
    (srcS r2.2.1 s3.1 s3.2.1 4).bind fun q4 =>
    (appD r2.2.1 none 0 false 4 48 (r2.2.2 + 1) q4).bind fun e5 =>
    let h6 := AHeap.puts r2.2.1 e5.sets
    let h7 := AHeap.put h6 (r2.2.2 + 3) (some ⟨[(.int .i64 3), (.int .i64 0), (.int .i64 0), (.slice none 0 false)], 4, true⟩)
    (srcS h7 (some ((r2.2.2 + 3), 0)) 1 4).bind fun q8 =>
    (appD h7 e5.a e5.n e5.c 4 48 (r2.2.2 + 4) q8).bind fun e9 =>
    let h10 := AHeap.puts h7 e9.sets
    ((callP Try.prog keepT n) Y 19 [(.slice e9.a e9.n e9.c)] h10 (r2.2.2 + 11)).bind fun r11 =>
    (asTup 2 r11.1).bind fun d12 =>
    (asSl (d12.getD 0 .bad)).bind fun s13 =>
    (asB (d12.getD 1 .bad)).bind fun t14 =>
    (srcS r11.2.1 s3.1 s3.2.1 4).bind fun q15 =>
    (appD r11.2.1 none 0 false 4 48 (r11.2.2 + 1) q15).bind fun e16 =>
    let h17 := AHeap.puts r11.2.1 e16.sets
    let h18 := AHeap.put h17 (r11.2.2 + 3) (some ⟨[(.int .i64 4), (.int .i64 0), (.int .i64 (-1)), (.slice none 0 false)], 4, true⟩)
    (srcS h18 (some ((r11.2.2 + 3), 0)) 1 4).bind fun q19 =>
    (appD h18 e16.a e16.n e16.c 4 48 (r11.2.2 + 4) q19).bind fun e20 =>
    let h21 := AHeap.puts h18 e20.sets
    ((callP Try.prog keepT n) Y 19 [(.slice e20.a e20.n e20.c)] h21 (r11.2.2 + 11)).bind fun r22 =>
    (asTup 2 r22.1).bind fun d23 =>
    (asSl (d23.getD 0 .bad)).bind fun s24 =>
    (asB (d23.getD 1 .bad)).bind fun t25 =>
    ((callP Try.prog keepT n) Y 19 [(.slice s3.1 s3.2.1 s3.2.2)] r22.2.1 (r22.2.2 + 7)).bind fun r26 =>
    (asTup 2 r26.1).bind fun d27 =>
    (asSl (d27.getD 0 .bad)).bind fun s28 =>
    (asB (d27.getD 1 .bad)).bind fun t29 =>
    F5_L1' J J (callP Try.prog keepT n) Y n n s3.1 s3.2.1 s3.2.2 s13.1 s13.2.1 s13.2.2 t14 s24.1 s24.2.1 s24.2.2 t25 s28.1 s28.2.1 s28.2.2 t29 0 0 r26.2.1 (r26.2.2 + 2) := by kernel_rfl

/-- quickset/quicksetkeep.DriveAll -/
theorem F5_eq (n : Nat) (Y : YldF) (x0a : Option (Nat × Nat)) (x0n : Nat) (x0c : Bool) (h : AHeap) (nx : Nat) : callP Try.prog keepT (n + 1) Y 5 [(.slice x0a x0n x0c)] h nx =
    let h1 := AHeap.put h (nx + 2) (some ⟨[(.int .i64 1), (.int .i64 1), (.int .i64 3), (.int .i64 2)], 1, true⟩)
    ((callP Try.prog keepT n) Y 18 [(.slice x0a x0n x0c), (.int .i64 60), (.slice (some ((nx + 2), 0)) 4 true)] h1 (nx + 5)).bind fun r2 =>
    (asSl r2.1).bind fun s3 =>
    (srcS r2.2.1 s3.1 s3.2.1 4).bind fun q4 =>
    (appD r2.2.1 none 0 false 4 48 (r2.2.2 + 1) q4).bind fun e5 =>
    let h6 := AHeap.puts r2.2.1 e5.sets
    let h7 := AHeap.put h6 (r2.2.2 + 3) (some ⟨[(.int .i64 3), (.int .i64 0), (.int .i64 0), (.slice none 0 false)], 4, true⟩)
    (srcS h7 (some ((r2.2.2 + 3), 0)) 1 4).bind fun q8 =>
    (appD h7 e5.a e5.n e5.c 4 48 (r2.2.2 + 4) q8).bind fun e9 =>
    let h10 := AHeap.puts h7 e9.sets
    ((callP Try.prog keepT n) Y 19 [(.slice e9.a e9.n e9.c)] h10 (r2.2.2 + 11)).bind fun r11 =>
    (asTup 2 r11.1).bind fun d12 =>
    (asSl (d12.getD 0 .bad)).bind fun s13 =>
    (asB (d12.getD 1 .bad)).bind fun t14 =>
    (srcS r11.2.1 s3.1 s3.2.1 4).bind fun q15 =>
    (appD r11.2.1 none 0 false 4 48 (r11.2.2 + 1) q15).bind fun e16 =>
    let h17 := AHeap.puts r11.2.1 e16.sets
    let h18 := AHeap.put h17 (r11.2.2 + 3) (some ⟨[(.int .i64 4), (.int .i64 0), (.int .i64 (-1)), (.slice none 0 false)], 4, true⟩)
    (srcS h18 (some ((r11.2.2 + 3), 0)) 1 4).bind fun q19 =>
    (appD h18 e16.a e16.n e16.c 4 48 (r11.2.2 + 4) q19).bind fun e20 =>
    let h21 := AHeap.puts h18 e20.sets
    ((callP Try.prog keepT n) Y 19 [(.slice e20.a e20.n e20.c)] h21 (r11.2.2 + 11)).bind fun r22 =>
    (asTup 2 r22.1).bind fun d23 =>
    (asSl (d23.getD 0 .bad)).bind fun s24 =>
    (asB (d23.getD 1 .bad)).bind fun t25 =>
    ((callP Try.prog keepT n) Y 19 [(.slice s3.1 s3.2.1 s3.2.2)] r22.2.1 (r22.2.2 + 7)).bind fun r26 =>
    (asTup 2 r26.1).bind fun d27 =>
    (asSl (d27.getD 0 .bad)).bind fun s28 =>
    (asB (d27.getD 1 .bad)).bind fun t29 =>
    F5_L1 (callP Try.prog keepT n) Y n n s3.1 s3.2.1 s3.2.2 s13.1 s13.2.1 s13.2.2 t14 s24.1 s24.2.1 s24.2.2 t25 s28.1 s28.2.1 s28.2.2 t29 0 0 r26.2.1 (r26.2.2 + 2) := F5_eq' go1 n Y x0a x0n x0c h nx

noncomputable def c6 : Code := (Try.f6.body).getD .skip

noncomputable def r6 : List ResultVar := Try.f6.results.toList

noncomputable def F6_L1' (W J : StepF (AV × AHeap × Nat) → StepF (AV × AHeap × Nat)) (call : YldF → CallF) (Y : YldF) (lf : Nat) (n0 : Nat) (x5a : Option (Nat × Nat)) (x5n : Nat) (x5c : Bool) (x6a : Option (Nat × Nat)) (x6n : Nat) (x6c : Bool) (x8 : Int) (x9a : Option (Nat × Nat)) (x9n : Nat) (x9c : Bool) (x10 : Int) (h : AHeap) (nx : Nat) : Option (AV × AHeap × Nat) :=
  goK W J drawK (machOf Try.prog) call Y (keepT 6) lf c6 [1, 1, 1, 1, 1, 1, 0, 1, 0, 9] [n0] (retK (machOf Try.prog) ⟨c6, 56, r6, keepT 6⟩) ⟨56, mkL [(5, (.slice x5a x5n x5c)), (6, (.slice x6a x6n x6c)), (8, (.int .i64 x8)), (9, (.slice x9a x9n x9c)), (10, (.int .i64 x10))]⟩ h nx

noncomputable def F6_L1 (call : YldF → CallF) (Y : YldF) (lf : Nat) (n0 : Nat) (x5a : Option (Nat × Nat)) (x5n : Nat) (x5c : Bool) (x6a : Option (Nat × Nat)) (x6n : Nat) (x6c : Bool) (x8 : Int) (x9a : Option (Nat × Nat)) (x9n : Nat) (x9c : Bool) (x10 : Int) (h : AHeap) (nx : Nat) : Option (AV × AHeap × Nat) := F6_L1' go1 go1 call Y lf n0 x5a x5n x5c x6a x6n x6c x8 x9a x9n x9c x10 h nx

theorem F6_L1_eq' (J : StepF (AV × AHeap × Nat) → StepF (AV × AHeap × Nat)) (call : YldF → CallF) (Y : YldF) (lf : Nat) (n0 : Nat) (x5a : Option (Nat × Nat)) (x5n : Nat) (x5c : Bool) (x6a : Option (Nat × Nat)) (x6n : Nat) (x6c : Bool) (x8 : Int) (x9a : Option (Nat × Nat)) (x9n : Nat) (x9c : Bool) (x10 : Int) (h : AHeap) (nx : Nat) : F6_L1' go1 J call Y lf (n0 + 1) x5a x5n x5c x6a x6n x6c x8 x9a x9n x9c x10 h nx =
    if (decide ((x10 : Int) < ((x5n : Nat) : Int))) = true then
    ((x5a).bind fun p1 =>
    if 0 ≤ (x10 : Int) ∧ x10 < ((x5n : Nat) : Int) then
    ((ldA h p1.1 (p1.2 + Int.toNat x10 * 4)).bind fun v2 =>
    (asI .i64 v2).bind fun n3 =>
    if ((n3 : Int) == 1) = true then
    ((x5a).bind fun p4 =>
    if 0 ≤ (x10 : Int) ∧ x10 < ((x5n : Nat) : Int) then
    ((ldA h p4.1 ((p4.2 + Int.toNat x10 * 4) + 1)).bind fun v5 =>
    (asI .i64 v5).bind fun n6 =>
    if ((n6 : Int) == x8) = true then
    ((x5a).bind fun p7 =>
    if 0 ≤ (x10 : Int) ∧ x10 < ((x5n : Nat) : Int) then
    ((ldA h p7.1 ((p7.2 + Int.toNat x10 * 4) + 3)).bind fun v8 =>
    (asSl v8).bind fun s9 =>
    F6_L1' J J call Y lf n0 x5a x5n x5c x6a x6n x6c x8 s9.1 s9.2.1 s9.2.2 (wrapA .i64 (x10 + 1)) h (nx + 28))
    else none)
    else
    (F6_L1' J J call Y lf n0 x5a x5n x5c x6a x6n x6c x8 x9a x9n x9c (wrapA .i64 (x10 + 1)) h (nx + 22)))
    else none)
    else
    (F6_L1' J J call Y lf n0 x5a x5n x5c x6a x6n x6c x8 x9a x9n x9c (wrapA .i64 (x10 + 1)) h (nx + 22)))
    else none)
    else
    ((x6a).bind fun p10 =>
    if 0 ≤ (x8 : Int) ∧ x8 < ((x6n : Nat) : Int) then
    ((ldA h p10.1 (p10.2 + Int.toNat x8 * 1)).bind fun v11 =>
    (asSl v11).bind fun s12 =>
    (call Y 20 [(.slice s12.1 s12.2.1 s12.2.2), (.slice x9a x9n x9c)] h (nx + 11)).bind fun r13 =>
    (asB r13.1).bind fun t14 =>
    some ((.bool t14), r13.2.1, r13.2.2))
    else none) := by kernel_rfl

theorem F6_L1_eq (call : YldF → CallF) (Y : YldF) (lf : Nat) (n0 : Nat) (x5a : Option (Nat × Nat)) (x5n : Nat) (x5c : Bool) (x6a : Option (Nat × Nat)) (x6n : Nat) (x6c : Bool) (x8 : Int) (x9a : Option (Nat × Nat)) (x9n : Nat) (x9c : Bool) (x10 : Int) (h : AHeap) (nx : Nat) : F6_L1 call Y lf (n0 + 1) x5a x5n x5c x6a x6n x6c x8 x9a x9n x9c x10 h nx =
    if (decide ((x10 : Int) < ((x5n : Nat) : Int))) = true then
    ((x5a).bind fun p1 =>
    if 0 ≤ (x10 : Int) ∧ x10 < ((x5n : Nat) : Int) then
    ((ldA h p1.1 (p1.2 + Int.toNat x10 * 4)).bind fun v2 =>
    (asI .i64 v2).bind fun n3 =>
    if ((n3 : Int) == 1) = true then
    ((x5a).bind fun p4 =>
    if 0 ≤ (x10 : Int) ∧ x10 < ((x5n : Nat) : Int) then
    ((ldA h p4.1 ((p4.2 + Int.toNat x10 * 4) + 1)).bind fun v5 =>
    (asI .i64 v5).bind fun n6 =>
    if ((n6 : Int) == x8) = true then
    ((x5a).bind fun p7 =>
    if 0 ≤ (x10 : Int) ∧ x10 < ((x5n : Nat) : Int) then
    ((ldA h p7.1 ((p7.2 + Int.toNat x10 * 4) + 3)).bind fun v8 =>
    (asSl v8).bind fun s9 =>
    F6_L1 call Y lf n0 x5a x5n x5c x6a x6n x6c x8 s9.1 s9.2.1 s9.2.2 (wrapA .i64 (x10 + 1)) h (nx + 28))
    else none)
    else
    (F6_L1 call Y lf n0 x5a x5n x5c x6a x6n x6c x8 x9a x9n x9c (wrapA .i64 (x10 + 1)) h (nx + 22)))
    else none)
    else
    (F6_L1 call Y lf n0 x5a x5n x5c x6a x6n x6c x8 x9a x9n x9c (wrapA .i64 (x10 + 1)) h (nx + 22)))
    else none)
    else
    ((x6a).bind fun p10 =>
    if 0 ≤ (x8 : Int) ∧ x8 < ((x6n : Nat) : Int) then
    ((ldA h p10.1 (p10.2 + Int.toNat x8 * 1)).bind fun v11 =>
    (asSl v11).bind fun s12 =>
    (call Y 20 [(.slice s12.1 s12.2.1 s12.2.2), (.slice x9a x9n x9c)] h (nx + 11)).bind fun r13 =>
    (asB r13.1).bind fun t14 =>
    some ((.bool t14), r13.2.1, r13.2.2))
    else none) := F6_L1_eq' go1 call Y lf n0 x5a x5n x5c x6a x6n x6c x8 x9a x9n x9c x10 h nx

theorem F6_L1_zero (call : YldF → CallF) (Y : YldF) (lf : Nat) (x5a : Option (Nat × Nat)) (x5n : Nat) (x5c : Bool) (x6a : Option (Nat × Nat)) (x6n : Nat) (x6c : Bool) (x8 : Int) (x9a : Option (Nat × Nat)) (x9n : Nat) (x9c : Bool) (x10 : Int) (h : AHeap) (nx : Nat) : F6_L1 call Y lf 0 x5a x5n x5c x6a x6n x6c x8 x9a x9n x9c x10 h nx = none := by kernel_rfl

theorem F6_eq' (J : StepF (AV × AHeap × Nat) → StepF (AV × AHeap × Nat)) (n : Nat) (Y : YldF) (x0a : Option (Nat × Nat)) (x0n : Nat) (x0c : Bool) (x1 : Int) (h : AHeap) (nx : Nat) : rootJ J Try.prog keepT (callP Try.prog keepT n) Y n 6 [(.slice x0a x0n x0c), (.int .i64 x1)] h nx =
    let h1 := AHeap.put h (nx + 2) (some ⟨[(.int .i64 1), (.int .i64 3), (.int .i64 2)], 1, true⟩)
    ((callP Try.prog keepT n) Y 18 [(.slice x0a x0n x0c), (.int .i64 60), (.slice (some ((nx + 2), 0)) 3 true)] h1 (nx + 5)).bind fun r2 =>
    (asSl r2.1).bind fun s3 =>
    ((callP Try.prog keepT n) Y 19 [(.slice s3.1 s3.2.1 s3.2.2)] r2.2.1 (r2.2.2 + 7)).bind fun r4 =>
    (asTup 2 r4.1).bind fun d5 =>
    (asSl (d5.getD 0 .bad)).bind fun s6 =>
    (asB (d5.getD 1 .bad)).bind fun t7 =>
    if (!t7) = true then
    (some ((.bool false), r4.2.1, (r4.2.2 + 3)))
    else
    (((callP Try.prog keepT n) Y 15 [(.int .i64 x1), (.int .i64 8)] r4.2.1 (r4.2.2 + 5)).bind fun r8 =>
    (asI .i64 r8.1).bind fun n9 =>
    if (decide (0 ≤ (128 : Int)) && decide ((128 : Int) ≤ 128) && decide (((1 : Nat) : Int) * 128 ≤ 281474976710656) && decide ((128 : Int) ≤ 9223372036854775807) && 1 != 0) = true then
    (let h10 := AHeap.put r8.2.1 r8.2.2 (some ⟨(madeA [(.int .u8 0)] (Int.toNat 128 * 1)), 1, true⟩)
    F6_L1' J J (callP Try.prog keepT n) Y n n s3.1 s3.2.1 s3.2.2 s6.1 s6.2.1 s6.2.2 n9 (some (r8.2.2, 0)) (Int.toNat 128) true 0 h10 (r8.2.2 + 3))
    else none) := by kernel_rfl

/-- quickset/quicksetkeep.DriveLast -/
theorem F6_eq (n : Nat) (Y : YldF) (x0a : Option (Nat × Nat)) (x0n : Nat) (x0c : Bool) (x1 : Int) (h : AHeap) (nx : Nat) : callP Try.prog keepT (n + 1) Y 6 [(.slice x0a x0n x0c), (.int .i64 x1)] h nx =
    let h1 := AHeap.put h (nx + 2) (some ⟨[(.int .i64 1), (.int .i64 3), (.int .i64 2)], 1, true⟩)
    ((callP Try.prog keepT n) Y 18 [(.slice x0a x0n x0c), (.int .i64 60), (.slice (some ((nx + 2), 0)) 3 true)] h1 (nx + 5)).bind fun r2 =>
    (asSl r2.1).bind fun s3 =>
    ((callP Try.prog keepT n) Y 19 [(.slice s3.1 s3.2.1 s3.2.2)] r2.2.1 (r2.2.2 + 7)).bind fun r4 =>
    (asTup 2 r4.1).bind fun d5 =>
    (asSl (d5.getD 0 .bad)).bind fun s6 =>
    (asB (d5.getD 1 .bad)).bind fun t7 =>
    if (!t7) = true then
    (some ((.bool false), r4.2.1, (r4.2.2 + 3)))
    else
    (((callP Try.prog keepT n) Y 15 [(.int .i64 x1), (.int .i64 8)] r4.2.1 (r4.2.2 + 5)).bind fun r8 =>
    (asI .i64 r8.1).bind fun n9 =>
    if (decide (0 ≤ (128 : Int)) && decide ((128 : Int) ≤ 128) && decide (((1 : Nat) : Int) * 128 ≤ 281474976710656) && decide ((128 : Int) ≤ 9223372036854775807) && 1 != 0) = true then
    (let h10 := AHeap.put r8.2.1 r8.2.2 (some ⟨(madeA [(.int .u8 0)] (Int.toNat 128 * 1)), 1, true⟩)
    F6_L1 (callP Try.prog keepT n) Y n n s3.1 s3.2.1 s3.2.2 s6.1 s6.2.1 s6.2.2 n9 (some (r8.2.2, 0)) (Int.toNat 128) true 0 h10 (r8.2.2 + 3))
    else none) := F6_eq' go1 n Y x0a x0n x0c x1 h nx

noncomputable def c7 : Code := (Try.f7.body).getD .skip

noncomputable def r7 : List ResultVar := Try.f7.results.toList

noncomputable def F7_J1' (W J : StepF (AV × AHeap × Nat) → StepF (AV × AHeap × Nat)) (call : YldF → CallF) (Y : YldF) (lf : Nat) (x2 : Int) (x9 : Int) (x10a : Option (Nat × Nat)) (x10n : Nat) (x10c : Bool) (h : AHeap) (nx : Nat) : Option (AV × AHeap × Nat) :=
  goK W J drawK (machOf Try.prog) call Y (keepT 7) lf c7 [1, 1, 1, 1, 1, 1, 1] [] (retK (machOf Try.prog) ⟨c7, 110, r7, keepT 7⟩) ⟨110, mkL [(2, (.int .i64 x2)), (9, (.int .i64 x9)), (10, (.slice x10a x10n x10c))]⟩ h nx

noncomputable def F7_J1 (call : YldF → CallF) (Y : YldF) (lf : Nat) (x2 : Int) (x9 : Int) (x10a : Option (Nat × Nat)) (x10n : Nat) (x10c : Bool) (h : AHeap) (nx : Nat) : Option (AV × AHeap × Nat) := F7_J1' go1 go1 call Y lf x2 x9 x10a x10n x10c h nx

theorem F7_J1_eq' (J : StepF (AV × AHeap × Nat) → StepF (AV × AHeap × Nat)) (call : YldF → CallF) (Y : YldF) (lf : Nat) (x2 : Int) (x9 : Int) (x10a : Option (Nat × Nat)) (x10n : Nat) (x10c : Bool) (h : AHeap) (nx : Nat) : F7_J1' go1 J call Y lf x2 x9 x10a x10n x10c h nx =
    (x10a).bind fun p1 =>
    if 0 ≤ ((wrapA .i64 (x9 + 2)) : Int) ∧ (wrapA .i64 (x9 + 2)) < ((x10n : Nat) : Int) then
    ((ldA h p1.1 (p1.2 + Int.toNat (wrapA .i64 (x9 + 2)) * 2)).bind fun v2 =>
    (asI .i64 v2).bind fun n3 =>
    if ((n3 : Int) == 12) = true then
    ((x10a).bind fun p4 =>
    if 0 ≤ ((wrapA .i64 (x9 + 5)) : Int) ∧ (wrapA .i64 (x9 + 5)) < ((x10n : Nat) : Int) then
    ((ldA h p4.1 ((p4.2 + Int.toNat (wrapA .i64 (x9 + 5)) * 2) + 1)).bind fun v5 =>
    (asSl v5).bind fun s6 =>
    (call Y 22 [(.int .i64 x2)] h (nx + 56)).bind fun r7 =>
    (asSl r7.1).bind fun s8 =>
    (call Y 20 [(.slice s6.1 s6.2.1 s6.2.2), (.slice s8.1 s8.2.1 s8.2.2)] r7.2.1 r7.2.2).bind fun r9 =>
    (asB r9.1).bind fun t10 =>
    if t10 = true then
    ((x10a).bind fun p11 =>
    if 0 ≤ ((wrapA .i64 (x9 + 7)) : Int) ∧ (wrapA .i64 (x9 + 7)) < ((x10n : Nat) : Int) then
    ((ldA r9.2.1 p11.1 (p11.2 + Int.toNat (wrapA .i64 (x9 + 7)) * 2)).bind fun v12 =>
    (asI .i64 v12).bind fun n13 =>
    if ((n13 : Int) == 13) = true then
    ((x10a).bind fun p14 =>
    if 0 ≤ ((wrapA .i64 (x9 + 8)) : Int) ∧ (wrapA .i64 (x9 + 8)) < ((x10n : Nat) : Int) then
    ((ldA r9.2.1 p14.1 (p14.2 + Int.toNat (wrapA .i64 (x9 + 8)) * 2)).bind fun v15 =>
    (asI .i64 v15).bind fun n16 =>
    if ((n16 : Int) == 13) = true then
    ((x10a).bind fun p17 =>
    if 0 ≤ ((wrapA .i64 (x9 + 10)) : Int) ∧ (wrapA .i64 (x9 + 10)) < ((x10n : Nat) : Int) then
    ((ldA r9.2.1 p17.1 (p17.2 + Int.toNat (wrapA .i64 (x9 + 10)) * 2)).bind fun v18 =>
    (asI .i64 v18).bind fun n19 =>
    if ((n19 : Int) == 0) = true then
    ((x10a).bind fun p20 =>
    if 0 ≤ ((wrapA .i64 (x9 + 10)) : Int) ∧ (wrapA .i64 (x9 + 10)) < ((x10n : Nat) : Int) then
    ((ldA r9.2.1 p20.1 ((p20.2 + Int.toNat (wrapA .i64 (x9 + 10)) * 2) + 1)).bind fun v21 =>
    (asSl v21).bind fun s22 =>
    if (decide (0 ≤ (128 : Int)) && decide ((128 : Int) ≤ 128) && decide (((1 : Nat) : Int) * 128 ≤ 281474976710656) && decide ((128 : Int) ≤ 9223372036854775807) && 1 != 0) = true then
    (let h23 := AHeap.put r9.2.1 (nx + 52) (some ⟨(madeA [(.int .u8 0)] (Int.toNat 128 * 1)), 1, true⟩)
    (call Y 20 [(.slice s22.1 s22.2.1 s22.2.2), (.slice (some ((nx + 52), 0)) (Int.toNat 128) true)] h23 r9.2.2).bind fun r24 =>
    (asB r24.1).bind fun t25 =>
    ifApart [([(nx + 52)], [p20.1])]
    (ifKept [(h, r7.2.1, [p4.1])]
    (some ((.bool t25), r24.2.1, r24.2.2))))
    else none)
    else none)
    else
    (ifKept [(h, r7.2.1, [p4.1])]
    (some ((.bool false), r9.2.1, r9.2.2))))
    else none)
    else
    (ifKept [(h, r7.2.1, [p4.1])]
    (some ((.bool false), r9.2.1, r9.2.2))))
    else none)
    else
    (ifKept [(h, r7.2.1, [p4.1])]
    (some ((.bool false), r9.2.1, r9.2.2))))
    else none)
    else
    (ifKept [(h, r7.2.1, [p4.1])]
    (some ((.bool false), r9.2.1, r9.2.2))))
    else none)
    else
    (some ((.bool false), h, (nx + 56))))
    else none := by kernel_rfl

theorem F7_J1_eq (call : YldF → CallF) (Y : YldF) (lf : Nat) (x2 : Int) (x9 : Int) (x10a : Option (Nat × Nat)) (x10n : Nat) (x10c : Bool) (h : AHeap) (nx : Nat) : F7_J1 call Y lf x2 x9 x10a x10n x10c h nx =
    (x10a).bind fun p1 =>
    if 0 ≤ ((wrapA .i64 (x9 + 2)) : Int) ∧ (wrapA .i64 (x9 + 2)) < ((x10n : Nat) : Int) then
    ((ldA h p1.1 (p1.2 + Int.toNat (wrapA .i64 (x9 + 2)) * 2)).bind fun v2 =>
    (asI .i64 v2).bind fun n3 =>
    if ((n3 : Int) == 12) = true then
    ((x10a).bind fun p4 =>
    if 0 ≤ ((wrapA .i64 (x9 + 5)) : Int) ∧ (wrapA .i64 (x9 + 5)) < ((x10n : Nat) : Int) then
    ((ldA h p4.1 ((p4.2 + Int.toNat (wrapA .i64 (x9 + 5)) * 2) + 1)).bind fun v5 =>
    (asSl v5).bind fun s6 =>
    (call Y 22 [(.int .i64 x2)] h (nx + 56)).bind fun r7 =>
    (asSl r7.1).bind fun s8 =>
    (call Y 20 [(.slice s6.1 s6.2.1 s6.2.2), (.slice s8.1 s8.2.1 s8.2.2)] r7.2.1 r7.2.2).bind fun r9 =>
    (asB r9.1).bind fun t10 =>
    if t10 = true then
    ((x10a).bind fun p11 =>
    if 0 ≤ ((wrapA .i64 (x9 + 7)) : Int) ∧ (wrapA .i64 (x9 + 7)) < ((x10n : Nat) : Int) then
    ((ldA r9.2.1 p11.1 (p11.2 + Int.toNat (wrapA .i64 (x9 + 7)) * 2)).bind fun v12 =>
    (asI .i64 v12).bind fun n13 =>
    if ((n13 : Int) == 13) = true then
    ((x10a).bind fun p14 =>
    if 0 ≤ ((wrapA .i64 (x9 + 8)) : Int) ∧ (wrapA .i64 (x9 + 8)) < ((x10n : Nat) : Int) then
    ((ldA r9.2.1 p14.1 (p14.2 + Int.toNat (wrapA .i64 (x9 + 8)) * 2)).bind fun v15 =>
    (asI .i64 v15).bind fun n16 =>
    if ((n16 : Int) == 13) = true then
    ((x10a).bind fun p17 =>
    if 0 ≤ ((wrapA .i64 (x9 + 10)) : Int) ∧ (wrapA .i64 (x9 + 10)) < ((x10n : Nat) : Int) then
    ((ldA r9.2.1 p17.1 (p17.2 + Int.toNat (wrapA .i64 (x9 + 10)) * 2)).bind fun v18 =>
    (asI .i64 v18).bind fun n19 =>
    if ((n19 : Int) == 0) = true then
    ((x10a).bind fun p20 =>
    if 0 ≤ ((wrapA .i64 (x9 + 10)) : Int) ∧ (wrapA .i64 (x9 + 10)) < ((x10n : Nat) : Int) then
    ((ldA r9.2.1 p20.1 ((p20.2 + Int.toNat (wrapA .i64 (x9 + 10)) * 2) + 1)).bind fun v21 =>
    (asSl v21).bind fun s22 =>
    if (decide (0 ≤ (128 : Int)) && decide ((128 : Int) ≤ 128) && decide (((1 : Nat) : Int) * 128 ≤ 281474976710656) && decide ((128 : Int) ≤ 9223372036854775807) && 1 != 0) = true then
    (let h23 := AHeap.put r9.2.1 (nx + 52) (some ⟨(madeA [(.int .u8 0)] (Int.toNat 128 * 1)), 1, true⟩)
    (call Y 20 [(.slice s22.1 s22.2.1 s22.2.2), (.slice (some ((nx + 52), 0)) (Int.toNat 128) true)] h23 r9.2.2).bind fun r24 =>
    (asB r24.1).bind fun t25 =>
    ifApart [([(nx + 52)], [p20.1])]
    (ifKept [(h, r7.2.1, [p4.1])]
    (some ((.bool t25), r24.2.1, r24.2.2))))
    else none)
    else none)
    else
    (ifKept [(h, r7.2.1, [p4.1])]
    (some ((.bool false), r9.2.1, r9.2.2))))
    else none)
    else
    (ifKept [(h, r7.2.1, [p4.1])]
    (some ((.bool false), r9.2.1, r9.2.2))))
    else none)
    else
    (ifKept [(h, r7.2.1, [p4.1])]
    (some ((.bool false), r9.2.1, r9.2.2))))
    else none)
    else
    (ifKept [(h, r7.2.1, [p4.1])]
    (some ((.bool false), r9.2.1, r9.2.2))))
    else none)
    else
    (some ((.bool false), h, (nx + 56))))
    else none := F7_J1_eq' go1 call Y lf x2 x9 x10a x10n x10c h nx

theorem F7_eq' (J : StepF (AV × AHeap × Nat) → StepF (AV × AHeap × Nat)) (n : Nat) (Y : YldF) (x0a : Option (Nat × Nat)) (x0n : Nat) (x0c : Bool) (x1 : Int) (x2 : Int) (h : AHeap) (nx : Nat) : rootJ J Try.prog keepT (callP Try.prog keepT n) Y n 7 [(.slice x0a x0n x0c), (.int .i64 x1), (.int .i64 x2)] h nx =
    let h1 := AHeap.put h (nx + 2) (some ⟨[(.int .i64 1), (.int .i64 3), (.int .i64 4), (.int .i64 6)], 1, true⟩)
    ((callP Try.prog keepT n) Y 18 [(.slice x0a x0n x0c), (.int .i64 40), (.slice (some ((nx + 2), 0)) 4 true)] h1 (nx + 5)).bind fun r2 =>
    (asSl r2.1).bind fun s3 =>
    ((callP Try.prog keepT n) Y 15 [(.int .i64 x1), (.int .i64 8)] r2.2.1 (r2.2.2 + 3)).bind fun r4 =>
    (asI .i64 r4.1).bind fun n5 =>
    ((callP Try.prog keepT n) Y 22 [(.int .i64 x2)] r4.2.1 (r4.2.2 + 26)).bind fun r6 =>
    (asSl r6.1).bind fun s7 =>
    let h8 := AHeap.put r6.2.1 (r4.2.2 + 23) (some ⟨[(.int .i64 3), (.int .i64 0), (.int .i64 0), (.slice none 0 false), (.int .i64 5), (.int .i64 n5), (.int .i64 0), (.slice none 0 false), (.int .i64 2), (.int .i64 n5), (.int .i64 0), (.slice none 0 false), (.int .i64 1), (.int .i64 n5), (.int .i64 0), (.slice s7.1 s7.2.1 s7.2.2), (.int .i64 3), (.int .i64 0), (.int .i64 0), (.slice none 0 false), (.int .i64 2), (.int .i64 n5), (.int .i64 0), (.slice none 0 false), (.int .i64 7), (.int .i64 0), (.int .i64 0), (.slice none 0 false), (.int .i64 2), (.int .i64 n5), (.int .i64 0), (.slice none 0 false), (.int .i64 3), (.int .i64 0), (.int .i64 0), (.slice none 0 false), (.int .i64 8), (.int .i64 0), (.int .i64 0), (.slice none 0 false), (.int .i64 2), (.int .i64 n5), (.int .i64 0), (.slice none 0 false)], 4, true⟩)
    (srcS h8 (some ((r4.2.2 + 23), 0)) 11 4).bind fun q9 =>
    (appD h8 s3.1 s3.2.1 s3.2.2 4 48 (r4.2.2 + 24) q9).bind fun e10 =>
    let h11 := AHeap.puts h8 e10.sets
    ((callP Try.prog keepT n) Y 23 [(.int .i64 8), (.slice e10.a e10.n e10.c)] h11 (r6.2.2 + 7)).bind fun r12 =>
    (asTup 2 r12.1).bind fun d13 =>
    (asSl (d13.getD 0 .bad)).bind fun s14 =>
    (asI .i64 (d13.getD 1 .bad)).bind fun n15 =>
    if ((n15 : Int) != 0) = true then
    (some ((.bool false), r12.2.1, (r12.2.2 + 10)))
    else
    (if ((((s14.2.1 : Nat) : Int) : Int) != ((e10.n : Nat) : Int)) = true then
    (some ((.bool false), r12.2.1, (r12.2.2 + 10)))
    else
    (F7_J1' J J (callP Try.prog keepT n) Y n x2 ((s3.2.1 : Nat) : Int) s14.1 s14.2.1 s14.2.2 r12.2.1 (r12.2.2 + 9))) := by kernel_rfl

/-- quickset/quicksetkeep.DriveDead -/
theorem F7_eq (n : Nat) (Y : YldF) (x0a : Option (Nat × Nat)) (x0n : Nat) (x0c : Bool) (x1 : Int) (x2 : Int) (h : AHeap) (nx : Nat) : callP Try.prog keepT (n + 1) Y 7 [(.slice x0a x0n x0c), (.int .i64 x1), (.int .i64 x2)] h nx =
    let h1 := AHeap.put h (nx + 2) (some ⟨[(.int .i64 1), (.int .i64 3), (.int .i64 4), (.int .i64 6)], 1, true⟩)
    ((callP Try.prog keepT n) Y 18 [(.slice x0a x0n x0c), (.int .i64 40), (.slice (some ((nx + 2), 0)) 4 true)] h1 (nx + 5)).bind fun r2 =>
    (asSl r2.1).bind fun s3 =>
    ((callP Try.prog keepT n) Y 15 [(.int .i64 x1), (.int .i64 8)] r2.2.1 (r2.2.2 + 3)).bind fun r4 =>
    (asI .i64 r4.1).bind fun n5 =>
    ((callP Try.prog keepT n) Y 22 [(.int .i64 x2)] r4.2.1 (r4.2.2 + 26)).bind fun r6 =>
    (asSl r6.1).bind fun s7 =>
    let h8 := AHeap.put r6.2.1 (r4.2.2 + 23) (some ⟨[(.int .i64 3), (.int .i64 0), (.int .i64 0), (.slice none 0 false), (.int .i64 5), (.int .i64 n5), (.int .i64 0), (.slice none 0 false), (.int .i64 2), (.int .i64 n5), (.int .i64 0), (.slice none 0 false), (.int .i64 1), (.int .i64 n5), (.int .i64 0), (.slice s7.1 s7.2.1 s7.2.2), (.int .i64 3), (.int .i64 0), (.int .i64 0), (.slice none 0 false), (.int .i64 2), (.int .i64 n5), (.int .i64 0), (.slice none 0 false), (.int .i64 7), (.int .i64 0), (.int .i64 0), (.slice none 0 false), (.int .i64 2), (.int .i64 n5), (.int .i64 0), (.slice none 0 false), (.int .i64 3), (.int .i64 0), (.int .i64 0), (.slice none 0 false), (.int .i64 8), (.int .i64 0), (.int .i64 0), (.slice none 0 false), (.int .i64 2), (.int .i64 n5), (.int .i64 0), (.slice none 0 false)], 4, true⟩)
    (srcS h8 (some ((r4.2.2 + 23), 0)) 11 4).bind fun q9 =>
    (appD h8 s3.1 s3.2.1 s3.2.2 4 48 (r4.2.2 + 24) q9).bind fun e10 =>
    let h11 := AHeap.puts h8 e10.sets
    ((callP Try.prog keepT n) Y 23 [(.int .i64 8), (.slice e10.a e10.n e10.c)] h11 (r6.2.2 + 7)).bind fun r12 =>
    (asTup 2 r12.1).bind fun d13 =>
    (asSl (d13.getD 0 .bad)).bind fun s14 =>
    (asI .i64 (d13.getD 1 .bad)).bind fun n15 =>
    if ((n15 : Int) != 0) = true then
    (some ((.bool false), r12.2.1, (r12.2.2 + 10)))
    else
    (if ((((s14.2.1 : Nat) : Int) : Int) != ((e10.n : Nat) : Int)) = true then
    (some ((.bool false), r12.2.1, (r12.2.2 + 10)))
    else
    (F7_J1 (callP Try.prog keepT n) Y n x2 ((s3.2.1 : Nat) : Int) s14.1 s14.2.1 s14.2.2 r12.2.1 (r12.2.2 + 9))) := F7_eq' go1 n Y x0a x0n x0c x1 x2 h nx

noncomputable def c8 : Code := (Try.f8.body).getD .skip

noncomputable def r8 : List ResultVar := Try.f8.results.toList

theorem F8_eq' (J : StepF (AV × AHeap × Nat) → StepF (AV × AHeap × Nat)) (n : Nat) (Y : YldF) (x0_0 : Int) (x0_1 : Int) (x0_2 : Int) (x0_3 : Int) (x0_4 : Int) (x0_5 : Int) (x0_6 : Int) (x0_7 : Int) (x0_8 : Int) (x0_9 : Int) (x0_10 : Int) (x0_11 : Int) (h : AHeap) (nx : Nat) : rootJ J Try.prog keepT (callP Try.prog keepT n) Y n 8 [(.agg [(.int .i64 x0_0), (.int .i64 x0_1), (.int .i64 x0_2), (.int .i64 x0_3), (.int .i64 x0_4), (.int .i64 x0_5), (.int .i64 x0_6), (.int .i64 x0_7), (.int .i64 x0_8), (.int .i64 x0_9), (.int .i64 x0_10), (.int .i64 x0_11)])] h nx =
    let h1 := AHeap.put h nx (some ⟨[(.int .i64 x0_0), (.int .i64 x0_1), (.int .i64 x0_2), (.int .i64 x0_3), (.int .i64 x0_4), (.int .i64 x0_5), (.int .i64 x0_6), (.int .i64 x0_7), (.int .i64 x0_8), (.int .i64 x0_9), (.int .i64 x0_10), (.int .i64 x0_11)], 12, true⟩)
    (ldR h1 nx 0 12).bind fun l2 =>
    (asAgg 12 (AV.agg l2)).bind fun d3 =>
    (asI .i64 (d3.getD 0 .bad)).bind fun n4 =>
    (asI .i64 (d3.getD 1 .bad)).bind fun n5 =>
    (asI .i64 (d3.getD 2 .bad)).bind fun n6 =>
    (asI .i64 (d3.getD 3 .bad)).bind fun n7 =>
    (asI .i64 (d3.getD 4 .bad)).bind fun n8 =>
    (asI .i64 (d3.getD 5 .bad)).bind fun n9 =>
    (asI .i64 (d3.getD 6 .bad)).bind fun n10 =>
    (asI .i64 (d3.getD 7 .bad)).bind fun n11 =>
    (asI .i64 (d3.getD 8 .bad)).bind fun n12 =>
    (asI .i64 (d3.getD 9 .bad)).bind fun n13 =>
    (asI .i64 (d3.getD 10 .bad)).bind fun n14 =>
    (asI .i64 (d3.getD 11 .bad)).bind fun n15 =>
    ((callP Try.prog keepT n) Y 24 [(.agg [(.int .i64 n4), (.int .i64 n5), (.int .i64 n6), (.int .i64 n7), (.int .i64 n8), (.int .i64 n9), (.int .i64 n10), (.int .i64 n11), (.int .i64 n12), (.int .i64 n13), (.int .i64 n14), (.int .i64 n15)])] h1 (nx + 6)).bind fun r16 =>
    (asAgg 13 r16.1).bind fun d17 =>
    (asI .i64 (d17.getD 0 .bad)).bind fun n18 =>
    (asI .i64 (d17.getD 1 .bad)).bind fun n19 =>
    (asI .i64 (d17.getD 2 .bad)).bind fun n20 =>
    (asI .i64 (d17.getD 3 .bad)).bind fun n21 =>
    (asI .i64 (d17.getD 4 .bad)).bind fun n22 =>
    (asI .i64 (d17.getD 5 .bad)).bind fun n23 =>
    (asI .i64 (d17.getD 6 .bad)).bind fun n24 =>
    (asI .i64 (d17.getD 7 .bad)).bind fun n25 =>
    (asI .i64 (d17.getD 8 .bad)).bind fun n26 =>
    (asI .i64 (d17.getD 9 .bad)).bind fun n27 =>
    (asI .i64 (d17.getD 10 .bad)).bind fun n28 =>
    (asI .i64 (d17.getD 11 .bad)).bind fun n29 =>
    (asI .i64 (d17.getD 12 .bad)).bind fun n30 =>
    let h31 := AHeap.put r16.2.1 (nx + 4) (some ⟨[(.int .i64 0), (.int .i64 0), (.int .i64 0), (.int .i64 0), (.int .i64 0), (.int .i64 0), (.int .i64 0), (.int .i64 0), (.int .i64 0), (.int .i64 0), (.int .i64 0), (.int .i64 0), (.int .i64 0)], 13, true⟩)
    (stA h31 (nx + 4) 0 (.agg [(.int .i64 n18), (.int .i64 n19), (.int .i64 n20), (.int .i64 n21), (.int .i64 n22), (.int .i64 n23), (.int .i64 n24), (.int .i64 n25), (.int .i64 n26), (.int .i64 n27), (.int .i64 n28), (.int .i64 n29), (.int .i64 n30)]) 13).bind fun b32 =>
    let h33 := AHeap.put h31 (nx + 4) (some b32)
    (ldR h33 (nx + 4) 0 13).bind fun l34 =>
    (asAgg 13 (AV.agg l34)).bind fun d35 =>
    (asI .i64 (d35.getD 0 .bad)).bind fun n36 =>
    (asI .i64 (d35.getD 1 .bad)).bind fun n37 =>
    (asI .i64 (d35.getD 2 .bad)).bind fun n38 =>
    (asI .i64 (d35.getD 3 .bad)).bind fun n39 =>
    (asI .i64 (d35.getD 4 .bad)).bind fun n40 =>
    (asI .i64 (d35.getD 5 .bad)).bind fun n41 =>
    (asI .i64 (d35.getD 6 .bad)).bind fun n42 =>
    (asI .i64 (d35.getD 7 .bad)).bind fun n43 =>
    (asI .i64 (d35.getD 8 .bad)).bind fun n44 =>
    (asI .i64 (d35.getD 9 .bad)).bind fun n45 =>
    (asI .i64 (d35.getD 10 .bad)).bind fun n46 =>
    (asI .i64 (d35.getD 11 .bad)).bind fun n47 =>
    (asI .i64 (d35.getD 12 .bad)).bind fun n48 =>
    ((callP Try.prog keepT n) Y 25 [(.agg [(.int .i64 n36), (.int .i64 n37), (.int .i64 n38), (.int .i64 n39), (.int .i64 n40), (.int .i64 n41), (.int .i64 n42), (.int .i64 n43), (.int .i64 n44), (.int .i64 n45), (.int .i64 n46), (.int .i64 n47), (.int .i64 n48)])] h33 (r16.2.2 + 7)).bind fun r49 =>
    (asTup 2 r49.1).bind fun d50 =>
    (asSl (d50.getD 0 .bad)).bind fun s51 =>
    (asI .i64 (d50.getD 1 .bad)).bind fun n52 =>
    ((callP Try.prog keepT n) Y 26 [(.slice s51.1 s51.2.1 s51.2.2)] r49.2.1 (r49.2.2 + 8)).bind fun r53 =>
    (asTup 2 r53.1).bind fun d54 =>
    (asAgg 13 (d54.getD 0 .bad)).bind fun d55 =>
    (asI .i64 (d55.getD 0 .bad)).bind fun n56 =>
    (asI .i64 (d55.getD 1 .bad)).bind fun n57 =>
    (asI .i64 (d55.getD 2 .bad)).bind fun n58 =>
    (asI .i64 (d55.getD 3 .bad)).bind fun n59 =>
    (asI .i64 (d55.getD 4 .bad)).bind fun n60 =>
    (asI .i64 (d55.getD 5 .bad)).bind fun n61 =>
    (asI .i64 (d55.getD 6 .bad)).bind fun n62 =>
    (asI .i64 (d55.getD 7 .bad)).bind fun n63 =>
    (asI .i64 (d55.getD 8 .bad)).bind fun n64 =>
    (asI .i64 (d55.getD 9 .bad)).bind fun n65 =>
    (asI .i64 (d55.getD 10 .bad)).bind fun n66 =>
    (asI .i64 (d55.getD 11 .bad)).bind fun n67 =>
    (asI .i64 (d55.getD 12 .bad)).bind fun n68 =>
    (asI .i64 (d54.getD 1 .bad)).bind fun n69 =>
    let h70 := AHeap.put r53.2.1 (r49.2.2 + 5) (some ⟨[(.int .i64 0), (.int .i64 0), (.int .i64 0), (.int .i64 0), (.int .i64 0), (.int .i64 0), (.int .i64 0), (.int .i64 0), (.int .i64 0), (.int .i64 0), (.int .i64 0), (.int .i64 0), (.int .i64 0)], 13, true⟩)
    (stA h70 (r49.2.2 + 5) 0 (.agg [(.int .i64 n56), (.int .i64 n57), (.int .i64 n58), (.int .i64 n59), (.int .i64 n60), (.int .i64 n61), (.int .i64 n62), (.int .i64 n63), (.int .i64 n64), (.int .i64 n65), (.int .i64 n66), (.int .i64 n67), (.int .i64 n68)]) 13).bind fun b71 =>
    let h72 := AHeap.put h70 (r49.2.2 + 5) (some b71)
    (ldR h72 (nx + 4) 0 13).bind fun l73 =>
    (asAgg 13 (AV.agg l73)).bind fun d74 =>
    (asI .i64 (d74.getD 0 .bad)).bind fun n75 =>
    (asI .i64 (d74.getD 1 .bad)).bind fun n76 =>
    (asI .i64 (d74.getD 2 .bad)).bind fun n77 =>
    (asI .i64 (d74.getD 3 .bad)).bind fun n78 =>
    (asI .i64 (d74.getD 4 .bad)).bind fun n79 =>
    (asI .i64 (d74.getD 5 .bad)).bind fun n80 =>
    (asI .i64 (d74.getD 6 .bad)).bind fun n81 =>
    (asI .i64 (d74.getD 7 .bad)).bind fun n82 =>
    (asI .i64 (d74.getD 8 .bad)).bind fun n83 =>
    (asI .i64 (d74.getD 9 .bad)).bind fun n84 =>
    (asI .i64 (d74.getD 10 .bad)).bind fun n85 =>
    (asI .i64 (d74.getD 11 .bad)).bind fun n86 =>
    (asI .i64 (d74.getD 12 .bad)).bind fun n87 =>
    ((callP Try.prog keepT n) Y 27 [(.agg [(.int .i64 n75), (.int .i64 n76), (.int .i64 n77), (.int .i64 n78), (.int .i64 n79), (.int .i64 n80), (.int .i64 n81), (.int .i64 n82), (.int .i64 n83), (.int .i64 n84), (.int .i64 n85), (.int .i64 n86), (.int .i64 n87)])] h72 (r53.2.2 + 21)).bind fun r88 =>
    (asB r88.1).bind fun t89 =>
    if t89 = true then
    (if ((n52 : Int) == 0) = true then
    (if ((((s51.2.1 : Nat) : Int) : Int) == 128) = true then
    (if ((n69 : Int) == 0) = true then
    ((ldR r88.2.1 (r49.2.2 + 5) 0 13).bind fun l90 =>
    (asAgg 13 (AV.agg l90)).bind fun d91 =>
    (asI .i64 (d91.getD 0 .bad)).bind fun n92 =>
    (asI .i64 (d91.getD 1 .bad)).bind fun n93 =>
    (asI .i64 (d91.getD 2 .bad)).bind fun n94 =>
    (asI .i64 (d91.getD 3 .bad)).bind fun n95 =>
    (asI .i64 (d91.getD 4 .bad)).bind fun n96 =>
    (asI .i64 (d91.getD 5 .bad)).bind fun n97 =>
    (asI .i64 (d91.getD 6 .bad)).bind fun n98 =>
    (asI .i64 (d91.getD 7 .bad)).bind fun n99 =>
    (asI .i64 (d91.getD 8 .bad)).bind fun n100 =>
    (asI .i64 (d91.getD 9 .bad)).bind fun n101 =>
    (asI .i64 (d91.getD 10 .bad)).bind fun n102 =>
    (asI .i64 (d91.getD 11 .bad)).bind fun n103 =>
    (asI .i64 (d91.getD 12 .bad)).bind fun n104 =>
    (ldR r88.2.1 (nx + 4) 0 13).bind fun l105 =>
    (asAgg 13 (AV.agg l105)).bind fun d106 =>
    (asI .i64 (d106.getD 0 .bad)).bind fun n107 =>
    (asI .i64 (d106.getD 1 .bad)).bind fun n108 =>
    (asI .i64 (d106.getD 2 .bad)).bind fun n109 =>
    (asI .i64 (d106.getD 3 .bad)).bind fun n110 =>
    (asI .i64 (d106.getD 4 .bad)).bind fun n111 =>
    (asI .i64 (d106.getD 5 .bad)).bind fun n112 =>
    (asI .i64 (d106.getD 6 .bad)).bind fun n113 =>
    (asI .i64 (d106.getD 7 .bad)).bind fun n114 =>
    (asI .i64 (d106.getD 8 .bad)).bind fun n115 =>
    (asI .i64 (d106.getD 9 .bad)).bind fun n116 =>
    (asI .i64 (d106.getD 10 .bad)).bind fun n117 =>
    (asI .i64 (d106.getD 11 .bad)).bind fun n118 =>
    (asI .i64 (d106.getD 12 .bad)).bind fun n119 =>
    some ((.bool (eqCells [(.int .i64 n92), (.int .i64 n93), (.int .i64 n94), (.int .i64 n95), (.int .i64 n96), (.int .i64 n97), (.int .i64 n98), (.int .i64 n99), (.int .i64 n100), (.int .i64 n101), (.int .i64 n102), (.int .i64 n103), (.int .i64 n104)] [(.int .i64 n107), (.int .i64 n108), (.int .i64 n109), (.int .i64 n110), (.int .i64 n111), (.int .i64 n112), (.int .i64 n113), (.int .i64 n114), (.int .i64 n115), (.int .i64 n116), (.int .i64 n117), (.int .i64 n118), (.int .i64 n119)])), r88.2.1, r88.2.2))
    else
    (some ((.bool false), r88.2.1, r88.2.2)))
    else
    (some ((.bool false), r88.2.1, r88.2.2)))
    else
    (some ((.bool false), r88.2.1, r88.2.2)))
    else
    (some ((.bool false), r88.2.1, r88.2.2)) := by kernel_rfl

/-- quickset/quicksetkeep.LabelBack -/
theorem F8_eq (n : Nat) (Y : YldF) (x0_0 : Int) (x0_1 : Int) (x0_2 : Int) (x0_3 : Int) (x0_4 : Int) (x0_5 : Int) (x0_6 : Int) (x0_7 : Int) (x0_8 : Int) (x0_9 : Int) (x0_10 : Int) (x0_11 : Int) (h : AHeap) (nx : Nat) : callP Try.prog keepT (n + 1) Y 8 [(.agg [(.int .i64 x0_0), (.int .i64 x0_1), (.int .i64 x0_2), (.int .i64 x0_3), (.int .i64 x0_4), (.int .i64 x0_5), (.int .i64 x0_6), (.int .i64 x0_7), (.int .i64 x0_8), (.int .i64 x0_9), (.int .i64 x0_10), (.int .i64 x0_11)])] h nx =
    let h1 := AHeap.put h nx (some ⟨[(.int .i64 x0_0), (.int .i64 x0_1), (.int .i64 x0_2), (.int .i64 x0_3), (.int .i64 x0_4), (.int .i64 x0_5), (.int .i64 x0_6), (.int .i64 x0_7), (.int .i64 x0_8), (.int .i64 x0_9), (.int .i64 x0_10), (.int .i64 x0_11)], 12, true⟩)
    (ldR h1 nx 0 12).bind fun l2 =>
    (asAgg 12 (AV.agg l2)).bind fun d3 =>
    (asI .i64 (d3.getD 0 .bad)).bind fun n4 =>
    (asI .i64 (d3.getD 1 .bad)).bind fun n5 =>
    (asI .i64 (d3.getD 2 .bad)).bind fun n6 =>
    (asI .i64 (d3.getD 3 .bad)).bind fun n7 =>
    (asI .i64 (d3.getD 4 .bad)).bind fun n8 =>
    (asI .i64 (d3.getD 5 .bad)).bind fun n9 =>
    (asI .i64 (d3.getD 6 .bad)).bind fun n10 =>
    (asI .i64 (d3.getD 7 .bad)).bind fun n11 =>
    (asI .i64 (d3.getD 8 .bad)).bind fun n12 =>
    (asI .i64 (d3.getD 9 .bad)).bind fun n13 =>
    (asI .i64 (d3.getD 10 .bad)).bind fun n14 =>
    (asI .i64 (d3.getD 11 .bad)).bind fun n15 =>
    ((callP Try.prog keepT n) Y 24 [(.agg [(.int .i64 n4), (.int .i64 n5), (.int .i64 n6), (.int .i64 n7), (.int .i64 n8), (.int .i64 n9), (.int .i64 n10), (.int .i64 n11), (.int .i64 n12), (.int .i64 n13), (.int .i64 n14), (.int .i64 n15)])] h1 (nx + 6)).bind fun r16 =>
    (asAgg 13 r16.1).bind fun d17 =>
    (asI .i64 (d17.getD 0 .bad)).bind fun n18 =>
    (asI .i64 (d17.getD 1 .bad)).bind fun n19 =>
    (asI .i64 (d17.getD 2 .bad)).bind fun n20 =>
    (asI .i64 (d17.getD 3 .bad)).bind fun n21 =>
    (asI .i64 (d17.getD 4 .bad)).bind fun n22 =>
    (asI .i64 (d17.getD 5 .bad)).bind fun n23 =>
    (asI .i64 (d17.getD 6 .bad)).bind fun n24 =>
    (asI .i64 (d17.getD 7 .bad)).bind fun n25 =>
    (asI .i64 (d17.getD 8 .bad)).bind fun n26 =>
    (asI .i64 (d17.getD 9 .bad)).bind fun n27 =>
    (asI .i64 (d17.getD 10 .bad)).bind fun n28 =>
    (asI .i64 (d17.getD 11 .bad)).bind fun n29 =>
    (asI .i64 (d17.getD 12 .bad)).bind fun n30 =>
    let h31 := AHeap.put r16.2.1 (nx + 4) (some ⟨[(.int .i64 0), (.int .i64 0), (.int .i64 0), (.int .i64 0), (.int .i64 0), (.int .i64 0), (.int .i64 0), (.int .i64 0), (.int .i64 0), (.int .i64 0), (.int .i64 0), (.int .i64 0), (.int .i64 0)], 13, true⟩)
    (stA h31 (nx + 4) 0 (.agg [(.int .i64 n18), (.int .i64 n19), (.int .i64 n20), (.int .i64 n21), (.int .i64 n22), (.int .i64 n23), (.int .i64 n24), (.int .i64 n25), (.int .i64 n26), (.int .i64 n27), (.int .i64 n28), (.int .i64 n29), (.int .i64 n30)]) 13).bind fun b32 =>
    let h33 := AHeap.put h31 (nx + 4) (some b32)
    (ldR h33 (nx + 4) 0 13).bind fun l34 =>
    (asAgg 13 (AV.agg l34)).bind fun d35 =>
    (asI .i64 (d35.getD 0 .bad)).bind fun n36 =>
    (asI .i64 (d35.getD 1 .bad)).bind fun n37 =>
    (asI .i64 (d35.getD 2 .bad)).bind fun n38 =>
    (asI .i64 (d35.getD 3 .bad)).bind fun n39 =>
    (asI .i64 (d35.getD 4 .bad)).bind fun n40 =>
    (asI .i64 (d35.getD 5 .bad)).bind fun n41 =>
    (asI .i64 (d35.getD 6 .bad)).bind fun n42 =>
    (asI .i64 (d35.getD 7 .bad)).bind fun n43 =>
    (asI .i64 (d35.getD 8 .bad)).bind fun n44 =>
    (asI .i64 (d35.getD 9 .bad)).bind fun n45 =>
    (asI .i64 (d35.getD 10 .bad)).bind fun n46 =>
    (asI .i64 (d35.getD 11 .bad)).bind fun n47 =>
    (asI .i64 (d35.getD 12 .bad)).bind fun n48 =>
    ((callP Try.prog keepT n) Y 25 [(.agg [(.int .i64 n36), (.int .i64 n37), (.int .i64 n38), (.int .i64 n39), (.int .i64 n40), (.int .i64 n41), (.int .i64 n42), (.int .i64 n43), (.int .i64 n44), (.int .i64 n45), (.int .i64 n46), (.int .i64 n47), (.int .i64 n48)])] h33 (r16.2.2 + 7)).bind fun r49 =>
    (asTup 2 r49.1).bind fun d50 =>
    (asSl (d50.getD 0 .bad)).bind fun s51 =>
    (asI .i64 (d50.getD 1 .bad)).bind fun n52 =>
    ((callP Try.prog keepT n) Y 26 [(.slice s51.1 s51.2.1 s51.2.2)] r49.2.1 (r49.2.2 + 8)).bind fun r53 =>
    (asTup 2 r53.1).bind fun d54 =>
    (asAgg 13 (d54.getD 0 .bad)).bind fun d55 =>
    (asI .i64 (d55.getD 0 .bad)).bind fun n56 =>
    (asI .i64 (d55.getD 1 .bad)).bind fun n57 =>
    (asI .i64 (d55.getD 2 .bad)).bind fun n58 =>
    (asI .i64 (d55.getD 3 .bad)).bind fun n59 =>
    (asI .i64 (d55.getD 4 .bad)).bind fun n60 =>
    (asI .i64 (d55.getD 5 .bad)).bind fun n61 =>
    (asI .i64 (d55.getD 6 .bad)).bind fun n62 =>
    (asI .i64 (d55.getD 7 .bad)).bind fun n63 =>
    (asI .i64 (d55.getD 8 .bad)).bind fun n64 =>
    (asI .i64 (d55.getD 9 .bad)).bind fun n65 =>
    (asI .i64 (d55.getD 10 .bad)).bind fun n66 =>
    (asI .i64 (d55.getD 11 .bad)).bind fun n67 =>
    (asI .i64 (d55.getD 12 .bad)).bind fun n68 =>
    (asI .i64 (d54.getD 1 .bad)).bind fun n69 =>
    let h70 := AHeap.put r53.2.1 (r49.2.2 + 5) (some ⟨[(.int .i64 0), (.int .i64 0), (.int .i64 0), (.int .i64 0), (.int .i64 0), (.int .i64 0), (.int .i64 0), (.int .i64 0), (.int .i64 0), (.int .i64 0), (.int .i64 0), (.int .i64 0), (.int .i64 0)], 13, true⟩)
    (stA h70 (r49.2.2 + 5) 0 (.agg [(.int .i64 n56), (.int .i64 n57), (.int .i64 n58), (.int .i64 n59), (.int .i64 n60), (.int .i64 n61), (.int .i64 n62), (.int .i64 n63), (.int .i64 n64), (.int .i64 n65), (.int .i64 n66), (.int .i64 n67), (.int .i64 n68)]) 13).bind fun b71 =>
    let h72 := AHeap.put h70 (r49.2.2 + 5) (some b71)
    (ldR h72 (nx + 4) 0 13).bind fun l73 =>
    (asAgg 13 (AV.agg l73)).bind fun d74 =>
    (asI .i64 (d74.getD 0 .bad)).bind fun n75 =>
    (asI .i64 (d74.getD 1 .bad)).bind fun n76 =>
    (asI .i64 (d74.getD 2 .bad)).bind fun n77 =>
    (asI .i64 (d74.getD 3 .bad)).bind fun n78 =>
    (asI .i64 (d74.getD 4 .bad)).bind fun n79 =>
    (asI .i64 (d74.getD 5 .bad)).bind fun n80 =>
    (asI .i64 (d74.getD 6 .bad)).bind fun n81 =>
    (asI .i64 (d74.getD 7 .bad)).bind fun n82 =>
    (asI .i64 (d74.getD 8 .bad)).bind fun n83 =>
    (asI .i64 (d74.getD 9 .bad)).bind fun n84 =>
    (asI .i64 (d74.getD 10 .bad)).bind fun n85 =>
    (asI .i64 (d74.getD 11 .bad)).bind fun n86 =>
    (asI .i64 (d74.getD 12 .bad)).bind fun n87 =>
    ((callP Try.prog keepT n) Y 27 [(.agg [(.int .i64 n75), (.int .i64 n76), (.int .i64 n77), (.int .i64 n78), (.int .i64 n79), (.int .i64 n80), (.int .i64 n81), (.int .i64 n82), (.int .i64 n83), (.int .i64 n84), (.int .i64 n85), (.int .i64 n86), (.int .i64 n87)])] h72 (r53.2.2 + 21)).bind fun r88 =>
    (asB r88.1).bind fun t89 =>
    if t89 = true then
    (if ((n52 : Int) == 0) = true then
    (if ((((s51.2.1 : Nat) : Int) : Int) == 128) = true then
    (if ((n69 : Int) == 0) = true then
    ((ldR r88.2.1 (r49.2.2 + 5) 0 13).bind fun l90 =>
    (asAgg 13 (AV.agg l90)).bind fun d91 =>
    (asI .i64 (d91.getD 0 .bad)).bind fun n92 =>
    (asI .i64 (d91.getD 1 .bad)).bind fun n93 =>
    (asI .i64 (d91.getD 2 .bad)).bind fun n94 =>
    (asI .i64 (d91.getD 3 .bad)).bind fun n95 =>
    (asI .i64 (d91.getD 4 .bad)).bind fun n96 =>
    (asI .i64 (d91.getD 5 .bad)).bind fun n97 =>
    (asI .i64 (d91.getD 6 .bad)).bind fun n98 =>
    (asI .i64 (d91.getD 7 .bad)).bind fun n99 =>
    (asI .i64 (d91.getD 8 .bad)).bind fun n100 =>
    (asI .i64 (d91.getD 9 .bad)).bind fun n101 =>
    (asI .i64 (d91.getD 10 .bad)).bind fun n102 =>
    (asI .i64 (d91.getD 11 .bad)).bind fun n103 =>
    (asI .i64 (d91.getD 12 .bad)).bind fun n104 =>
    (ldR r88.2.1 (nx + 4) 0 13).bind fun l105 =>
    (asAgg 13 (AV.agg l105)).bind fun d106 =>
    (asI .i64 (d106.getD 0 .bad)).bind fun n107 =>
    (asI .i64 (d106.getD 1 .bad)).bind fun n108 =>
    (asI .i64 (d106.getD 2 .bad)).bind fun n109 =>
    (asI .i64 (d106.getD 3 .bad)).bind fun n110 =>
    (asI .i64 (d106.getD 4 .bad)).bind fun n111 =>
    (asI .i64 (d106.getD 5 .bad)).bind fun n112 =>
    (asI .i64 (d106.getD 6 .bad)).bind fun n113 =>
    (asI .i64 (d106.getD 7 .bad)).bind fun n114 =>
    (asI .i64 (d106.getD 8 .bad)).bind fun n115 =>
    (asI .i64 (d106.getD 9 .bad)).bind fun n116 =>
    (asI .i64 (d106.getD 10 .bad)).bind fun n117 =>
    (asI .i64 (d106.getD 11 .bad)).bind fun n118 =>
    (asI .i64 (d106.getD 12 .bad)).bind fun n119 =>
    some ((.bool (eqCells [(.int .i64 n92), (.int .i64 n93), (.int .i64 n94), (.int .i64 n95), (.int .i64 n96), (.int .i64 n97), (.int .i64 n98), (.int .i64 n99), (.int .i64 n100), (.int .i64 n101), (.int .i64 n102), (.int .i64 n103), (.int .i64 n104)] [(.int .i64 n107), (.int .i64 n108), (.int .i64 n109), (.int .i64 n110), (.int .i64 n111), (.int .i64 n112), (.int .i64 n113), (.int .i64 n114), (.int .i64 n115), (.int .i64 n116), (.int .i64 n117), (.int .i64 n118), (.int .i64 n119)])), r88.2.1, r88.2.2))
    else
    (some ((.bool false), r88.2.1, r88.2.2)))
    else
    (some ((.bool false), r88.2.1, r88.2.2)))
    else
    (some ((.bool false), r88.2.1, r88.2.2)))
    else
    (some ((.bool false), r88.2.1, r88.2.2)) := F8_eq' go1 n Y x0_0 x0_1 x0_2 x0_3 x0_4 x0_5 x0_6 x0_7 x0_8 x0_9 x0_10 x0_11 h nx

noncomputable def c9 : Code := (Try.f9.body).getD .skip

noncomputable def r9 : List ResultVar := Try.f9.results.toList

theorem F9_eq' (J : StepF (AV × AHeap × Nat) → StepF (AV × AHeap × Nat)) (n : Nat) (Y : YldF) (x0a : Option (Nat × Nat)) (x0n : Nat) (x0c : Bool) (h : AHeap) (nx : Nat) : rootJ J Try.prog keepT (callP Try.prog keepT n) Y n 9 [(.slice x0a x0n x0c)] h nx =
    (srcS h x0a x0n 1).bind fun q1 =>
    (appD h none 0 false 1 1 (nx + 2) q1).bind fun e2 =>
    let h3 := AHeap.puts h e2.sets
    ((callP Try.prog keepT n) Y 26 [(.slice e2.a e2.n e2.c)] h3 (nx + 10)).bind fun r4 =>
    (asTup 2 r4.1).bind fun d5 =>
    (asAgg 13 (d5.getD 0 .bad)).bind fun d6 =>
    (asI .i64 (d6.getD 0 .bad)).bind fun n7 =>
    (asI .i64 (d6.getD 1 .bad)).bind fun n8 =>
    (asI .i64 (d6.getD 2 .bad)).bind fun n9 =>
    (asI .i64 (d6.getD 3 .bad)).bind fun n10 =>
    (asI .i64 (d6.getD 4 .bad)).bind fun n11 =>
    (asI .i64 (d6.getD 5 .bad)).bind fun n12 =>
    (asI .i64 (d6.getD 6 .bad)).bind fun n13 =>
    (asI .i64 (d6.getD 7 .bad)).bind fun n14 =>
    (asI .i64 (d6.getD 8 .bad)).bind fun n15 =>
    (asI .i64 (d6.getD 9 .bad)).bind fun n16 =>
    (asI .i64 (d6.getD 10 .bad)).bind fun n17 =>
    (asI .i64 (d6.getD 11 .bad)).bind fun n18 =>
    (asI .i64 (d6.getD 12 .bad)).bind fun n19 =>
    (asI .i64 (d5.getD 1 .bad)).bind fun n20 =>
    let h21 := AHeap.put r4.2.1 (nx + 7) (some ⟨[(.int .i64 0), (.int .i64 0), (.int .i64 0), (.int .i64 0), (.int .i64 0), (.int .i64 0), (.int .i64 0), (.int .i64 0), (.int .i64 0), (.int .i64 0), (.int .i64 0), (.int .i64 0), (.int .i64 0)], 13, true⟩)
    (stA h21 (nx + 7) 0 (.agg [(.int .i64 n7), (.int .i64 n8), (.int .i64 n9), (.int .i64 n10), (.int .i64 n11), (.int .i64 n12), (.int .i64 n13), (.int .i64 n14), (.int .i64 n15), (.int .i64 n16), (.int .i64 n17), (.int .i64 n18), (.int .i64 n19)]) 13).bind fun b22 =>
    let h23 := AHeap.put h21 (nx + 7) (some b22)
    ((callP Try.prog keepT n) Y 24 [(.agg [(.int .i64 0), (.int .i64 0), (.int .i64 0), (.int .i64 0), (.int .i64 0), (.int .i64 0), (.int .i64 0), (.int .i64 0), (.int .i64 0), (.int .i64 0), (.int .i64 0), (.int .i64 0)])] h23 (r4.2.2 + 4)).bind fun r24 =>
    (asAgg 13 r24.1).bind fun d25 =>
    (asI .i64 (d25.getD 0 .bad)).bind fun n26 =>
    (asI .i64 (d25.getD 1 .bad)).bind fun n27 =>
    (asI .i64 (d25.getD 2 .bad)).bind fun n28 =>
    (asI .i64 (d25.getD 3 .bad)).bind fun n29 =>
    (asI .i64 (d25.getD 4 .bad)).bind fun n30 =>
    (asI .i64 (d25.getD 5 .bad)).bind fun n31 =>
    (asI .i64 (d25.getD 6 .bad)).bind fun n32 =>
    (asI .i64 (d25.getD 7 .bad)).bind fun n33 =>
    (asI .i64 (d25.getD 8 .bad)).bind fun n34 =>
    (asI .i64 (d25.getD 9 .bad)).bind fun n35 =>
    (asI .i64 (d25.getD 10 .bad)).bind fun n36 =>
    (asI .i64 (d25.getD 11 .bad)).bind fun n37 =>
    (asI .i64 (d25.getD 12 .bad)).bind fun n38 =>
    ((callP Try.prog keepT n) Y 27 [(.agg [(.int .i64 n26), (.int .i64 n27), (.int .i64 n28), (.int .i64 n29), (.int .i64 n30), (.int .i64 n31), (.int .i64 n32), (.int .i64 n33), (.int .i64 n34), (.int .i64 n35), (.int .i64 n36), (.int .i64 n37), (.int .i64 n38)])] r24.2.1 r24.2.2).bind fun r39 =>
    (asB r39.1).bind fun t40 =>
    if (!t40) = true then
    (some ((.bool false), r39.2.1, (r39.2.2 + 1)))
    else
    (if ((n20 : Int) != 0) = true then
    ((ldR r39.2.1 (nx + 7) 0 13).bind fun l41 =>
    (asAgg 13 (AV.agg l41)).bind fun d42 =>
    (asI .i64 (d42.getD 0 .bad)).bind fun n43 =>
    (asI .i64 (d42.getD 1 .bad)).bind fun n44 =>
    (asI .i64 (d42.getD 2 .bad)).bind fun n45 =>
    (asI .i64 (d42.getD 3 .bad)).bind fun n46 =>
    (asI .i64 (d42.getD 4 .bad)).bind fun n47 =>
    (asI .i64 (d42.getD 5 .bad)).bind fun n48 =>
    (asI .i64 (d42.getD 6 .bad)).bind fun n49 =>
    (asI .i64 (d42.getD 7 .bad)).bind fun n50 =>
    (asI .i64 (d42.getD 8 .bad)).bind fun n51 =>
    (asI .i64 (d42.getD 9 .bad)).bind fun n52 =>
    (asI .i64 (d42.getD 10 .bad)).bind fun n53 =>
    (asI .i64 (d42.getD 11 .bad)).bind fun n54 =>
    (asI .i64 (d42.getD 12 .bad)).bind fun n55 =>
    some ((.bool (eqCells [(.int .i64 n43), (.int .i64 n44), (.int .i64 n45), (.int .i64 n46), (.int .i64 n47), (.int .i64 n48), (.int .i64 n49), (.int .i64 n50), (.int .i64 n51), (.int .i64 n52), (.int .i64 n53), (.int .i64 n54), (.int .i64 n55)] [(.int .i64 0), (.int .i64 0), (.int .i64 0), (.int .i64 0), (.int .i64 0), (.int .i64 0), (.int .i64 0), (.int .i64 0), (.int .i64 0), (.int .i64 0), (.int .i64 0), (.int .i64 0), (.int .i64 0)])), r39.2.1, (r39.2.2 + 6)))
    else
    ((ldR r39.2.1 (nx + 7) 0 13).bind fun l56 =>
    (asAgg 13 (AV.agg l56)).bind fun d57 =>
    (asI .i64 (d57.getD 0 .bad)).bind fun n58 =>
    (asI .i64 (d57.getD 1 .bad)).bind fun n59 =>
    (asI .i64 (d57.getD 2 .bad)).bind fun n60 =>
    (asI .i64 (d57.getD 3 .bad)).bind fun n61 =>
    (asI .i64 (d57.getD 4 .bad)).bind fun n62 =>
    (asI .i64 (d57.getD 5 .bad)).bind fun n63 =>
    (asI .i64 (d57.getD 6 .bad)).bind fun n64 =>
    (asI .i64 (d57.getD 7 .bad)).bind fun n65 =>
    (asI .i64 (d57.getD 8 .bad)).bind fun n66 =>
    (asI .i64 (d57.getD 9 .bad)).bind fun n67 =>
    (asI .i64 (d57.getD 10 .bad)).bind fun n68 =>
    (asI .i64 (d57.getD 11 .bad)).bind fun n69 =>
    (asI .i64 (d57.getD 12 .bad)).bind fun n70 =>
    ((callP Try.prog keepT n) Y 25 [(.agg [(.int .i64 n58), (.int .i64 n59), (.int .i64 n60), (.int .i64 n61), (.int .i64 n62), (.int .i64 n63), (.int .i64 n64), (.int .i64 n65), (.int .i64 n66), (.int .i64 n67), (.int .i64 n68), (.int .i64 n69), (.int .i64 n70)])] r39.2.1 (r39.2.2 + 9)).bind fun r71 =>
    (asTup 2 r71.1).bind fun d72 =>
    (asSl (d72.getD 0 .bad)).bind fun s73 =>
    (asI .i64 (d72.getD 1 .bad)).bind fun n74 =>
    if ((n74 : Int) == 0) = true then
    (((callP Try.prog keepT n) Y 20 [(.slice x0a x0n x0c), (.slice s73.1 s73.2.1 s73.2.2)] r71.2.1 (r71.2.2 + 8)).bind fun r75 =>
    (asB r75.1).bind fun t76 =>
    some ((.bool t76), r75.2.1, r75.2.2))
    else
    (some ((.bool false), r71.2.1, (r71.2.2 + 8))))) := by kernel_rfl

/-- quickset/quicksetkeep.LabelFixed -/
theorem F9_eq (n : Nat) (Y : YldF) (x0a : Option (Nat × Nat)) (x0n : Nat) (x0c : Bool) (h : AHeap) (nx : Nat) : callP Try.prog keepT (n + 1) Y 9 [(.slice x0a x0n x0c)] h nx =
    (srcS h x0a x0n 1).bind fun q1 =>
    (appD h none 0 false 1 1 (nx + 2) q1).bind fun e2 =>
    let h3 := AHeap.puts h e2.sets
    ((callP Try.prog keepT n) Y 26 [(.slice e2.a e2.n e2.c)] h3 (nx + 10)).bind fun r4 =>
    (asTup 2 r4.1).bind fun d5 =>
    (asAgg 13 (d5.getD 0 .bad)).bind fun d6 =>
    (asI .i64 (d6.getD 0 .bad)).bind fun n7 =>
    (asI .i64 (d6.getD 1 .bad)).bind fun n8 =>
    (asI .i64 (d6.getD 2 .bad)).bind fun n9 =>
    (asI .i64 (d6.getD 3 .bad)).bind fun n10 =>
    (asI .i64 (d6.getD 4 .bad)).bind fun n11 =>
    (asI .i64 (d6.getD 5 .bad)).bind fun n12 =>
    (asI .i64 (d6.getD 6 .bad)).bind fun n13 =>
    (asI .i64 (d6.getD 7 .bad)).bind fun n14 =>
    (asI .i64 (d6.getD 8 .bad)).bind fun n15 =>
    (asI .i64 (d6.getD 9 .bad)).bind fun n16 =>
    (asI .i64 (d6.getD 10 .bad)).bind fun n17 =>
    (asI .i64 (d6.getD 11 .bad)).bind fun n18 =>
    (asI .i64 (d6.getD 12 .bad)).bind fun n19 =>
    (asI .i64 (d5.getD 1 .bad)).bind fun n20 =>
    let h21 := AHeap.put r4.2.1 (nx + 7) (some ⟨[(.int .i64 0), (.int .i64 0), (.int .i64 0), (.int .i64 0), (.int .i64 0), (.int .i64 0), (.int .i64 0), (.int .i64 0), (.int .i64 0), (.int .i64 0), (.int .i64 0), (.int .i64 0), (.int .i64 0)], 13, true⟩)
    (stA h21 (nx + 7) 0 (.agg [(.int .i64 n7), (.int .i64 n8), (.int .i64 n9), (.int .i64 n10), (.int .i64 n11), (.int .i64 n12), (.int .i64 n13), (.int .i64 n14), (.int .i64 n15), (.int .i64 n16), (.int .i64 n17), (.int .i64 n18), (.int .i64 n19)]) 13).bind fun b22 =>
    let h23 := AHeap.put h21 (nx + 7) (some b22)
    ((callP Try.prog keepT n) Y 24 [(.agg [(.int .i64 0), (.int .i64 0), (.int .i64 0), (.int .i64 0), (.int .i64 0), (.int .i64 0), (.int .i64 0), (.int .i64 0), (.int .i64 0), (.int .i64 0), (.int .i64 0), (.int .i64 0)])] h23 (r4.2.2 + 4)).bind fun r24 =>
    (asAgg 13 r24.1).bind fun d25 =>
    (asI .i64 (d25.getD 0 .bad)).bind fun n26 =>
    (asI .i64 (d25.getD 1 .bad)).bind fun n27 =>
    (asI .i64 (d25.getD 2 .bad)).bind fun n28 =>
    (asI .i64 (d25.getD 3 .bad)).bind fun n29 =>
    (asI .i64 (d25.getD 4 .bad)).bind fun n30 =>
    (asI .i64 (d25.getD 5 .bad)).bind fun n31 =>
    (asI .i64 (d25.getD 6 .bad)).bind fun n32 =>
    (asI .i64 (d25.getD 7 .bad)).bind fun n33 =>
    (asI .i64 (d25.getD 8 .bad)).bind fun n34 =>
    (asI .i64 (d25.getD 9 .bad)).bind fun n35 =>
    (asI .i64 (d25.getD 10 .bad)).bind fun n36 =>
    (asI .i64 (d25.getD 11 .bad)).bind fun n37 =>
    (asI .i64 (d25.getD 12 .bad)).bind fun n38 =>
    ((callP Try.prog keepT n) Y 27 [(.agg [(.int .i64 n26), (.int .i64 n27), (.int .i64 n28), (.int .i64 n29), (.int .i64 n30), (.int .i64 n31), (.int .i64 n32), (.int .i64 n33), (.int .i64 n34), (.int .i64 n35), (.int .i64 n36), (.int .i64 n37), (.int .i64 n38)])] r24.2.1 r24.2.2).bind fun r39 =>
    (asB r39.1).bind fun t40 =>
    if (!t40) = true then
    (some ((.bool false), r39.2.1, (r39.2.2 + 1)))
    else
    (if ((n20 : Int) != 0) = true then
    ((ldR r39.2.1 (nx + 7) 0 13).bind fun l41 =>
    (asAgg 13 (AV.agg l41)).bind fun d42 =>
    (asI .i64 (d42.getD 0 .bad)).bind fun n43 =>
    (asI .i64 (d42.getD 1 .bad)).bind fun n44 =>
    (asI .i64 (d42.getD 2 .bad)).bind fun n45 =>
    (asI .i64 (d42.getD 3 .bad)).bind fun n46 =>
    (asI .i64 (d42.getD 4 .bad)).bind fun n47 =>
    (asI .i64 (d42.getD 5 .bad)).bind fun n48 =>
    (asI .i64 (d42.getD 6 .bad)).bind fun n49 =>
    (asI .i64 (d42.getD 7 .bad)).bind fun n50 =>
    (asI .i64 (d42.getD 8 .bad)).bind fun n51 =>
    (asI .i64 (d42.getD 9 .bad)).bind fun n52 =>
    (asI .i64 (d42.getD 10 .bad)).bind fun n53 =>
    (asI .i64 (d42.getD 11 .bad)).bind fun n54 =>
    (asI .i64 (d42.getD 12 .bad)).bind fun n55 =>
    some ((.bool (eqCells [(.int .i64 n43), (.int .i64 n44), (.int .i64 n45), (.int .i64 n46), (.int .i64 n47), (.int .i64 n48), (.int .i64 n49), (.int .i64 n50), (.int .i64 n51), (.int .i64 n52), (.int .i64 n53), (.int .i64 n54), (.int .i64 n55)] [(.int .i64 0), (.int .i64 0), (.int .i64 0), (.int .i64 0), (.int .i64 0), (.int .i64 0), (.int .i64 0), (.int .i64 0), (.int .i64 0), (.int .i64 0), (.int .i64 0), (.int .i64 0), (.int .i64 0)])), r39.2.1, (r39.2.2 + 6)))
    else
    ((ldR r39.2.1 (nx + 7) 0 13).bind fun l56 =>
    (asAgg 13 (AV.agg l56)).bind fun d57 =>
    (asI .i64 (d57.getD 0 .bad)).bind fun n58 =>
    (asI .i64 (d57.getD 1 .bad)).bind fun n59 =>
    (asI .i64 (d57.getD 2 .bad)).bind fun n60 =>
    (asI .i64 (d57.getD 3 .bad)).bind fun n61 =>
    (asI .i64 (d57.getD 4 .bad)).bind fun n62 =>
    (asI .i64 (d57.getD 5 .bad)).bind fun n63 =>
    (asI .i64 (d57.getD 6 .bad)).bind fun n64 =>
    (asI .i64 (d57.getD 7 .bad)).bind fun n65 =>
    (asI .i64 (d57.getD 8 .bad)).bind fun n66 =>
    (asI .i64 (d57.getD 9 .bad)).bind fun n67 =>
    (asI .i64 (d57.getD 10 .bad)).bind fun n68 =>
    (asI .i64 (d57.getD 11 .bad)).bind fun n69 =>
    (asI .i64 (d57.getD 12 .bad)).bind fun n70 =>
    ((callP Try.prog keepT n) Y 25 [(.agg [(.int .i64 n58), (.int .i64 n59), (.int .i64 n60), (.int .i64 n61), (.int .i64 n62), (.int .i64 n63), (.int .i64 n64), (.int .i64 n65), (.int .i64 n66), (.int .i64 n67), (.int .i64 n68), (.int .i64 n69), (.int .i64 n70)])] r39.2.1 (r39.2.2 + 9)).bind fun r71 =>
    (asTup 2 r71.1).bind fun d72 =>
    (asSl (d72.getD 0 .bad)).bind fun s73 =>
    (asI .i64 (d72.getD 1 .bad)).bind fun n74 =>
    if ((n74 : Int) == 0) = true then
    (((callP Try.prog keepT n) Y 20 [(.slice x0a x0n x0c), (.slice s73.1 s73.2.1 s73.2.2)] r71.2.1 (r71.2.2 + 8)).bind fun r75 =>
    (asB r75.1).bind fun t76 =>
    some ((.bool t76), r75.2.1, r75.2.2))
    else
    (some ((.bool false), r71.2.1, (r71.2.2 + 8))))) := F9_eq' go1 n Y x0a x0n x0c h nx

noncomputable def c10 : Code := (Try.f10.body).getD .skip

noncomputable def r10 : List ResultVar := Try.f10.results.toList

noncomputable def F10_J1' (W J : StepF (AV × AHeap × Nat) → StepF (AV × AHeap × Nat)) (call : YldF → CallF) (Y : YldF) (lf : Nat) (x1 : Int) (x2a : Option (Nat × Nat)) (x2n : Nat) (x2c : Bool) (x7a : Option (Nat × Nat)) (x7n : Nat) (x7c : Bool) (h : AHeap) (nx : Nat) : Option (AV × AHeap × Nat) :=
  goK W J drawK (machOf Try.prog) call Y (keepT 10) lf c10 [1, 1, 1] [] (retK (machOf Try.prog) ⟨c10, 71, r10, keepT 10⟩) ⟨71, mkL [(1, (.int .i64 x1)), (2, (.slice x2a x2n x2c)), (7, (.slice x7a x7n x7c))]⟩ h nx

noncomputable def F10_J1 (call : YldF → CallF) (Y : YldF) (lf : Nat) (x1 : Int) (x2a : Option (Nat × Nat)) (x2n : Nat) (x2c : Bool) (x7a : Option (Nat × Nat)) (x7n : Nat) (x7c : Bool) (h : AHeap) (nx : Nat) : Option (AV × AHeap × Nat) := F10_J1' go1 go1 call Y lf x1 x2a x2n x2c x7a x7n x7c h nx

noncomputable def F10_L2' (W J : StepF (AV × AHeap × Nat) → StepF (AV × AHeap × Nat)) (call : YldF → CallF) (Y : YldF) (lf : Nat) (n0 : Nat) (x2a : Option (Nat × Nat)) (x2n : Nat) (x2c : Bool) (x7a : Option (Nat × Nat)) (x7n : Nat) (x7c : Bool) (x9a : Option (Nat × Nat)) (x9n : Nat) (x9c : Bool) (x10 : Int) (x11 : Int) (h : AHeap) (nx : Nat) : Option (AV × AHeap × Nat) :=
  goK W J drawK (machOf Try.prog) call Y (keepT 10) lf c10 [1, 1, 1, 1, 1, 0, 1, 0, 9] [n0] (retK (machOf Try.prog) ⟨c10, 71, r10, keepT 10⟩) ⟨71, mkL [(2, (.slice x2a x2n x2c)), (7, (.slice x7a x7n x7c)), (9, (.slice x9a x9n x9c)), (10, (.int .i64 x10)), (11, (.int .i64 x11))]⟩ h nx

noncomputable def F10_L2 (call : YldF → CallF) (Y : YldF) (lf : Nat) (n0 : Nat) (x2a : Option (Nat × Nat)) (x2n : Nat) (x2c : Bool) (x7a : Option (Nat × Nat)) (x7n : Nat) (x7c : Bool) (x9a : Option (Nat × Nat)) (x9n : Nat) (x9c : Bool) (x10 : Int) (x11 : Int) (h : AHeap) (nx : Nat) : Option (AV × AHeap × Nat) := F10_L2' go1 go1 call Y lf n0 x2a x2n x2c x7a x7n x7c x9a x9n x9c x10 x11 h nx

noncomputable def F10_J3' (W J : StepF (AV × AHeap × Nat) → StepF (AV × AHeap × Nat)) (call : YldF → CallF) (Y : YldF) (lf : Nat) (n0 : Nat) (x2a : Option (Nat × Nat)) (x2n : Nat) (x2c : Bool) (x7a : Option (Nat × Nat)) (x7n : Nat) (x7c : Bool) (x9a : Option (Nat × Nat)) (x9n : Nat) (x9c : Bool) (x10 : Int) (x11 : Int) (h : AHeap) (nx : Nat) : Option (AV × AHeap × Nat) :=
  goK W J drawK (machOf Try.prog) call Y (keepT 10) lf c10 [1, 1, 1, 1, 1, 0, 1, 0, 0, 1] [n0] (retK (machOf Try.prog) ⟨c10, 71, r10, keepT 10⟩) ⟨71, mkL [(2, (.slice x2a x2n x2c)), (7, (.slice x7a x7n x7c)), (9, (.slice x9a x9n x9c)), (10, (.int .i64 x10)), (11, (.int .i64 x11))]⟩ h nx

noncomputable def F10_J3 (call : YldF → CallF) (Y : YldF) (lf : Nat) (n0 : Nat) (x2a : Option (Nat × Nat)) (x2n : Nat) (x2c : Bool) (x7a : Option (Nat × Nat)) (x7n : Nat) (x7c : Bool) (x9a : Option (Nat × Nat)) (x9n : Nat) (x9c : Bool) (x10 : Int) (x11 : Int) (h : AHeap) (nx : Nat) : Option (AV × AHeap × Nat) := F10_J3' go1 go1 call Y lf n0 x2a x2n x2c x7a x7n x7c x9a x9n x9c x10 x11 h nx

noncomputable def F10_J4' (W J : StepF (AV × AHeap × Nat) → StepF (AV × AHeap × Nat)) (call : YldF → CallF) (Y : YldF) (lf : Nat) (x7a : Option (Nat × Nat)) (x7n : Nat) (x7c : Bool) (x9a : Option (Nat × Nat)) (x9n : Nat) (x9c : Bool) (h : AHeap) (nx : Nat) : Option (AV × AHeap × Nat) :=
  goK W J drawK (machOf Try.prog) call Y (keepT 10) lf c10 [1, 1, 1, 1, 1, 1] [] (retK (machOf Try.prog) ⟨c10, 71, r10, keepT 10⟩) ⟨71, mkL [(7, (.slice x7a x7n x7c)), (9, (.slice x9a x9n x9c))]⟩ h nx

noncomputable def F10_J4 (call : YldF → CallF) (Y : YldF) (lf : Nat) (x7a : Option (Nat × Nat)) (x7n : Nat) (x7c : Bool) (x9a : Option (Nat × Nat)) (x9n : Nat) (x9c : Bool) (h : AHeap) (nx : Nat) : Option (AV × AHeap × Nat) := F10_J4' go1 go1 call Y lf x7a x7n x7c x9a x9n x9c h nx

theorem F10_J1_eq' (J : StepF (AV × AHeap × Nat) → StepF (AV × AHeap × Nat)) (call : YldF → CallF) (Y : YldF) (lf : Nat) (x1 : Int) (x2a : Option (Nat × Nat)) (x2n : Nat) (x2c : Bool) (x7a : Option (Nat × Nat)) (x7n : Nat) (x7c : Bool) (h : AHeap) (nx : Nat) : F10_J1' go1 J call Y lf x1 x2a x2n x2c x7a x7n x7c h nx =
    (srcS h x7a x7n 1).bind fun q1 =>
    (appD h none 0 false 1 1 (nx + 1) q1).bind fun e2 =>
    let h3 := AHeap.puts h e2.sets
    (call Y 15 [(.int .i64 x1), (.int .i64 32)] h3 (nx + 7)).bind fun r4 =>
    (asI .i64 r4.1).bind fun n5 =>
    F10_L2' J J call Y lf lf x2a x2n x2c x7a x7n x7c e2.a e2.n e2.c (wrapA .i64 (4 * n5)) 0 r4.2.1 (r4.2.2 + 1) := by kernel_rfl

theorem F10_J1_eq (call : YldF → CallF) (Y : YldF) (lf : Nat) (x1 : Int) (x2a : Option (Nat × Nat)) (x2n : Nat) (x2c : Bool) (x7a : Option (Nat × Nat)) (x7n : Nat) (x7c : Bool) (h : AHeap) (nx : Nat) : F10_J1 call Y lf x1 x2a x2n x2c x7a x7n x7c h nx =
    (srcS h x7a x7n 1).bind fun q1 =>
    (appD h none 0 false 1 1 (nx + 1) q1).bind fun e2 =>
    let h3 := AHeap.puts h e2.sets
    (call Y 15 [(.int .i64 x1), (.int .i64 32)] h3 (nx + 7)).bind fun r4 =>
    (asI .i64 r4.1).bind fun n5 =>
    F10_L2 call Y lf lf x2a x2n x2c x7a x7n x7c e2.a e2.n e2.c (wrapA .i64 (4 * n5)) 0 r4.2.1 (r4.2.2 + 1) := F10_J1_eq' go1 call Y lf x1 x2a x2n x2c x7a x7n x7c h nx

theorem F10_L2_eq' (J : StepF (AV × AHeap × Nat) → StepF (AV × AHeap × Nat)) (call : YldF → CallF) (Y : YldF) (lf : Nat) (n0 : Nat) (x2a : Option (Nat × Nat)) (x2n : Nat) (x2c : Bool) (x7a : Option (Nat × Nat)) (x7n : Nat) (x7c : Bool) (x9a : Option (Nat × Nat)) (x9n : Nat) (x9c : Bool) (x10 : Int) (x11 : Int) (h : AHeap) (nx : Nat) : F10_L2' go1 J call Y lf (n0 + 1) x2a x2n x2c x7a x7n x7c x9a x9n x9c x10 x11 h nx =
    if (decide ((x11 : Int) < 4)) = true then
    (if (decide ((x11 : Int) < ((x2n : Nat) : Int))) = true then
    (F10_J3' J J call Y lf n0 x2a x2n x2c x7a x7n x7c x9a x9n x9c x10 x11 h (nx + 8))
    else
    (F10_J4' J J call Y lf x7a x7n x7c x9a x9n x9c h (nx + 8)))
    else
    (F10_J4' J J call Y lf x7a x7n x7c x9a x9n x9c h (nx + 8)) := by kernel_rfl

theorem F10_L2_eq (call : YldF → CallF) (Y : YldF) (lf : Nat) (n0 : Nat) (x2a : Option (Nat × Nat)) (x2n : Nat) (x2c : Bool) (x7a : Option (Nat × Nat)) (x7n : Nat) (x7c : Bool) (x9a : Option (Nat × Nat)) (x9n : Nat) (x9c : Bool) (x10 : Int) (x11 : Int) (h : AHeap) (nx : Nat) : F10_L2 call Y lf (n0 + 1) x2a x2n x2c x7a x7n x7c x9a x9n x9c x10 x11 h nx =
    if (decide ((x11 : Int) < 4)) = true then
    (if (decide ((x11 : Int) < ((x2n : Nat) : Int))) = true then
    (F10_J3 call Y lf n0 x2a x2n x2c x7a x7n x7c x9a x9n x9c x10 x11 h (nx + 8))
    else
    (F10_J4 call Y lf x7a x7n x7c x9a x9n x9c h (nx + 8)))
    else
    (F10_J4 call Y lf x7a x7n x7c x9a x9n x9c h (nx + 8)) := F10_L2_eq' go1 call Y lf n0 x2a x2n x2c x7a x7n x7c x9a x9n x9c x10 x11 h nx

theorem F10_L2_zero (call : YldF → CallF) (Y : YldF) (lf : Nat) (x2a : Option (Nat × Nat)) (x2n : Nat) (x2c : Bool) (x7a : Option (Nat × Nat)) (x7n : Nat) (x7c : Bool) (x9a : Option (Nat × Nat)) (x9n : Nat) (x9c : Bool) (x10 : Int) (x11 : Int) (h : AHeap) (nx : Nat) : F10_L2 call Y lf 0 x2a x2n x2c x7a x7n x7c x9a x9n x9c x10 x11 h nx = none := by kernel_rfl

theorem F10_J3_eq' (J : StepF (AV × AHeap × Nat) → StepF (AV × AHeap × Nat)) (call : YldF → CallF) (Y : YldF) (lf : Nat) (n0 : Nat) (x2a : Option (Nat × Nat)) (x2n : Nat) (x2c : Bool) (x7a : Option (Nat × Nat)) (x7n : Nat) (x7c : Bool) (x9a : Option (Nat × Nat)) (x9n : Nat) (x9c : Bool) (x10 : Int) (x11 : Int) (h : AHeap) (nx : Nat) : F10_J3' go1 J call Y lf n0 x2a x2n x2c x7a x7n x7c x9a x9n x9c x10 x11 h nx =
    (x9a).bind fun p1 =>
    if 0 ≤ ((wrapA .i64 (x10 + x11)) : Int) ∧ (wrapA .i64 (x10 + x11)) < ((x9n : Nat) : Int) then
    ((ldA h p1.1 (p1.2 + Int.toNat (wrapA .i64 (x10 + x11)) * 1)).bind fun v2 =>
    (asI .u8 v2).bind fun n3 =>
    (x2a).bind fun p4 =>
    if 0 ≤ (x11 : Int) ∧ x11 < ((x2n : Nat) : Int) then
    ((ldA h p4.1 (p4.2 + Int.toNat x11 * 1)).bind fun v5 =>
    (asI .u8 v5).bind fun n6 =>
    (x9a).bind fun p7 =>
    if 0 ≤ ((wrapA .i64 (x10 + x11)) : Int) ∧ (wrapA .i64 (x10 + x11)) < ((x9n : Nat) : Int) then
    ((stA h p7.1 (p7.2 + Int.toNat (wrapA .i64 (x10 + x11)) * 1) (.int .u8 (bits .xor .u8 n3 n6)) 1).bind fun b8 =>
    let h9 := AHeap.put h p7.1 (some b8)
    F10_L2' J J call Y lf n0 x2a x2n x2c x7a x7n x7c x9a x9n x9c x10 (wrapA .i64 (x11 + 1)) h9 (nx + 16))
    else none)
    else none)
    else none := by kernel_rfl

theorem F10_J3_eq (call : YldF → CallF) (Y : YldF) (lf : Nat) (n0 : Nat) (x2a : Option (Nat × Nat)) (x2n : Nat) (x2c : Bool) (x7a : Option (Nat × Nat)) (x7n : Nat) (x7c : Bool) (x9a : Option (Nat × Nat)) (x9n : Nat) (x9c : Bool) (x10 : Int) (x11 : Int) (h : AHeap) (nx : Nat) : F10_J3 call Y lf n0 x2a x2n x2c x7a x7n x7c x9a x9n x9c x10 x11 h nx =
    (x9a).bind fun p1 =>
    if 0 ≤ ((wrapA .i64 (x10 + x11)) : Int) ∧ (wrapA .i64 (x10 + x11)) < ((x9n : Nat) : Int) then
    ((ldA h p1.1 (p1.2 + Int.toNat (wrapA .i64 (x10 + x11)) * 1)).bind fun v2 =>
    (asI .u8 v2).bind fun n3 =>
    (x2a).bind fun p4 =>
    if 0 ≤ (x11 : Int) ∧ x11 < ((x2n : Nat) : Int) then
    ((ldA h p4.1 (p4.2 + Int.toNat x11 * 1)).bind fun v5 =>
    (asI .u8 v5).bind fun n6 =>
    (x9a).bind fun p7 =>
    if 0 ≤ ((wrapA .i64 (x10 + x11)) : Int) ∧ (wrapA .i64 (x10 + x11)) < ((x9n : Nat) : Int) then
    ((stA h p7.1 (p7.2 + Int.toNat (wrapA .i64 (x10 + x11)) * 1) (.int .u8 (bits .xor .u8 n3 n6)) 1).bind fun b8 =>
    let h9 := AHeap.put h p7.1 (some b8)
    F10_L2 call Y lf n0 x2a x2n x2c x7a x7n x7c x9a x9n x9c x10 (wrapA .i64 (x11 + 1)) h9 (nx + 16))
    else none)
    else none)
    else none := F10_J3_eq' go1 call Y lf n0 x2a x2n x2c x7a x7n x7c x9a x9n x9c x10 x11 h nx

theorem F10_J4_eq' (J : StepF (AV × AHeap × Nat) → StepF (AV × AHeap × Nat)) (call : YldF → CallF) (Y : YldF) (lf : Nat) (x7a : Option (Nat × Nat)) (x7n : Nat) (x7c : Bool) (x9a : Option (Nat × Nat)) (x9n : Nat) (x9c : Bool) (h : AHeap) (nx : Nat) : F10_J4' go1 J call Y lf x7a x7n x7c x9a x9n x9c h nx =
    (call Y 26 [(.slice x9a x9n x9c)] h (nx + 8)).bind fun r1 =>
    (asTup 2 r1.1).bind fun d2 =>
    (asAgg 13 (d2.getD 0 .bad)).bind fun d3 =>
    (asI .i64 (d3.getD 0 .bad)).bind fun n4 =>
    (asI .i64 (d3.getD 1 .bad)).bind fun n5 =>
    (asI .i64 (d3.getD 2 .bad)).bind fun n6 =>
    (asI .i64 (d3.getD 3 .bad)).bind fun n7 =>
    (asI .i64 (d3.getD 4 .bad)).bind fun n8 =>
    (asI .i64 (d3.getD 5 .bad)).bind fun n9 =>
    (asI .i64 (d3.getD 6 .bad)).bind fun n10 =>
    (asI .i64 (d3.getD 7 .bad)).bind fun n11 =>
    (asI .i64 (d3.getD 8 .bad)).bind fun n12 =>
    (asI .i64 (d3.getD 9 .bad)).bind fun n13 =>
    (asI .i64 (d3.getD 10 .bad)).bind fun n14 =>
    (asI .i64 (d3.getD 11 .bad)).bind fun n15 =>
    (asI .i64 (d3.getD 12 .bad)).bind fun n16 =>
    (asI .i64 (d2.getD 1 .bad)).bind fun n17 =>
    let h18 := AHeap.put r1.2.1 (nx + 5) (some ⟨[(.int .i64 0), (.int .i64 0), (.int .i64 0), (.int .i64 0), (.int .i64 0), (.int .i64 0), (.int .i64 0), (.int .i64 0), (.int .i64 0), (.int .i64 0), (.int .i64 0), (.int .i64 0), (.int .i64 0)], 13, true⟩)
    (stA h18 (nx + 5) 0 (.agg [(.int .i64 n4), (.int .i64 n5), (.int .i64 n6), (.int .i64 n7), (.int .i64 n8), (.int .i64 n9), (.int .i64 n10), (.int .i64 n11), (.int .i64 n12), (.int .i64 n13), (.int .i64 n14), (.int .i64 n15), (.int .i64 n16)]) 13).bind fun b19 =>
    let h20 := AHeap.put h18 (nx + 5) (some b19)
    (call Y 20 [(.slice x7a x7n x7c), (.slice x9a x9n x9c)] h20 (r1.2.2 + 3)).bind fun r21 =>
    (asB r21.1).bind fun t22 =>
    if t22 = true then
    (some ((.bool ((n17 : Int) == 0)), r21.2.1, (r21.2.2 + 3)))
    else
    (if ((n17 : Int) == 11) = true then
    ((ldR r21.2.1 (nx + 5) 0 13).bind fun l23 =>
    (asAgg 13 (AV.agg l23)).bind fun d24 =>
    (asI .i64 (d24.getD 0 .bad)).bind fun n25 =>
    (asI .i64 (d24.getD 1 .bad)).bind fun n26 =>
    (asI .i64 (d24.getD 2 .bad)).bind fun n27 =>
    (asI .i64 (d24.getD 3 .bad)).bind fun n28 =>
    (asI .i64 (d24.getD 4 .bad)).bind fun n29 =>
    (asI .i64 (d24.getD 5 .bad)).bind fun n30 =>
    (asI .i64 (d24.getD 6 .bad)).bind fun n31 =>
    (asI .i64 (d24.getD 7 .bad)).bind fun n32 =>
    (asI .i64 (d24.getD 8 .bad)).bind fun n33 =>
    (asI .i64 (d24.getD 9 .bad)).bind fun n34 =>
    (asI .i64 (d24.getD 10 .bad)).bind fun n35 =>
    (asI .i64 (d24.getD 11 .bad)).bind fun n36 =>
    (asI .i64 (d24.getD 12 .bad)).bind fun n37 =>
    some ((.bool (eqCells [(.int .i64 n25), (.int .i64 n26), (.int .i64 n27), (.int .i64 n28), (.int .i64 n29), (.int .i64 n30), (.int .i64 n31), (.int .i64 n32), (.int .i64 n33), (.int .i64 n34), (.int .i64 n35), (.int .i64 n36), (.int .i64 n37)] [(.int .i64 0), (.int .i64 0), (.int .i64 0), (.int .i64 0), (.int .i64 0), (.int .i64 0), (.int .i64 0), (.int .i64 0), (.int .i64 0), (.int .i64 0), (.int .i64 0), (.int .i64 0), (.int .i64 0)])), r21.2.1, (r21.2.2 + 8)))
    else
    (some ((.bool false), r21.2.1, (r21.2.2 + 8)))) := by kernel_rfl

theorem F10_J4_eq (call : YldF → CallF) (Y : YldF) (lf : Nat) (x7a : Option (Nat × Nat)) (x7n : Nat) (x7c : Bool) (x9a : Option (Nat × Nat)) (x9n : Nat) (x9c : Bool) (h : AHeap) (nx : Nat) : F10_J4 call Y lf x7a x7n x7c x9a x9n x9c h nx =
    (call Y 26 [(.slice x9a x9n x9c)] h (nx + 8)).bind fun r1 =>
    (asTup 2 r1.1).bind fun d2 =>
    (asAgg 13 (d2.getD 0 .bad)).bind fun d3 =>
    (asI .i64 (d3.getD 0 .bad)).bind fun n4 =>
    (asI .i64 (d3.getD 1 .bad)).bind fun n5 =>
    (asI .i64 (d3.getD 2 .bad)).bind fun n6 =>
    (asI .i64 (d3.getD 3 .bad)).bind fun n7 =>
    (asI .i64 (d3.getD 4 .bad)).bind fun n8 =>
    (asI .i64 (d3.getD 5 .bad)).bind fun n9 =>
    (asI .i64 (d3.getD 6 .bad)).bind fun n10 =>
    (asI .i64 (d3.getD 7 .bad)).bind fun n11 =>
    (asI .i64 (d3.getD 8 .bad)).bind fun n12 =>
    (asI .i64 (d3.getD 9 .bad)).bind fun n13 =>
    (asI .i64 (d3.getD 10 .bad)).bind fun n14 =>
    (asI .i64 (d3.getD 11 .bad)).bind fun n15 =>
    (asI .i64 (d3.getD 12 .bad)).bind fun n16 =>
    (asI .i64 (d2.getD 1 .bad)).bind fun n17 =>
    let h18 := AHeap.put r1.2.1 (nx + 5) (some ⟨[(.int .i64 0), (.int .i64 0), (.int .i64 0), (.int .i64 0), (.int .i64 0), (.int .i64 0), (.int .i64 0), (.int .i64 0), (.int .i64 0), (.int .i64 0), (.int .i64 0), (.int .i64 0), (.int .i64 0)], 13, true⟩)
    (stA h18 (nx + 5) 0 (.agg [(.int .i64 n4), (.int .i64 n5), (.int .i64 n6), (.int .i64 n7), (.int .i64 n8), (.int .i64 n9), (.int .i64 n10), (.int .i64 n11), (.int .i64 n12), (.int .i64 n13), (.int .i64 n14), (.int .i64 n15), (.int .i64 n16)]) 13).bind fun b19 =>
    let h20 := AHeap.put h18 (nx + 5) (some b19)
    (call Y 20 [(.slice x7a x7n x7c), (.slice x9a x9n x9c)] h20 (r1.2.2 + 3)).bind fun r21 =>
    (asB r21.1).bind fun t22 =>
    if t22 = true then
    (some ((.bool ((n17 : Int) == 0)), r21.2.1, (r21.2.2 + 3)))
    else
    (if ((n17 : Int) == 11) = true then
    ((ldR r21.2.1 (nx + 5) 0 13).bind fun l23 =>
    (asAgg 13 (AV.agg l23)).bind fun d24 =>
    (asI .i64 (d24.getD 0 .bad)).bind fun n25 =>
    (asI .i64 (d24.getD 1 .bad)).bind fun n26 =>
    (asI .i64 (d24.getD 2 .bad)).bind fun n27 =>
    (asI .i64 (d24.getD 3 .bad)).bind fun n28 =>
    (asI .i64 (d24.getD 4 .bad)).bind fun n29 =>
    (asI .i64 (d24.getD 5 .bad)).bind fun n30 =>
    (asI .i64 (d24.getD 6 .bad)).bind fun n31 =>
    (asI .i64 (d24.getD 7 .bad)).bind fun n32 =>
    (asI .i64 (d24.getD 8 .bad)).bind fun n33 =>
    (asI .i64 (d24.getD 9 .bad)).bind fun n34 =>
    (asI .i64 (d24.getD 10 .bad)).bind fun n35 =>
    (asI .i64 (d24.getD 11 .bad)).bind fun n36 =>
    (asI .i64 (d24.getD 12 .bad)).bind fun n37 =>
    some ((.bool (eqCells [(.int .i64 n25), (.int .i64 n26), (.int .i64 n27), (.int .i64 n28), (.int .i64 n29), (.int .i64 n30), (.int .i64 n31), (.int .i64 n32), (.int .i64 n33), (.int .i64 n34), (.int .i64 n35), (.int .i64 n36), (.int .i64 n37)] [(.int .i64 0), (.int .i64 0), (.int .i64 0), (.int .i64 0), (.int .i64 0), (.int .i64 0), (.int .i64 0), (.int .i64 0), (.int .i64 0), (.int .i64 0), (.int .i64 0), (.int .i64 0), (.int .i64 0)])), r21.2.1, (r21.2.2 + 8)))
    else
    (some ((.bool false), r21.2.1, (r21.2.2 + 8)))) := F10_J4_eq' go1 call Y lf x7a x7n x7c x9a x9n x9c h nx

theorem F10_eq' (J : StepF (AV × AHeap × Nat) → StepF (AV × AHeap × Nat)) (n : Nat) (Y : YldF) (x0_0 : Int) (x0_1 : Int) (x0_2 : Int) (x0_3 : Int) (x0_4 : Int) (x0_5 : Int) (x0_6 : Int) (x0_7 : Int) (x0_8 : Int) (x0_9 : Int) (x0_10 : Int) (x0_11 : Int) (x1 : Int) (x2a : Option (Nat × Nat)) (x2n : Nat) (x2c : Bool) (h : AHeap) (nx : Nat) : rootJ J Try.prog keepT (callP Try.prog keepT n) Y n 10 [(.agg [(.int .i64 x0_0), (.int .i64 x0_1), (.int .i64 x0_2), (.int .i64 x0_3), (.int .i64 x0_4), (.int .i64 x0_5), (.int .i64 x0_6), (.int .i64 x0_7), (.int .i64 x0_8), (.int .i64 x0_9), (.int .i64 x0_10), (.int .i64 x0_11)]), (.int .i64 x1), (.slice x2a x2n x2c)] h nx =
    let h1 := AHeap.put h nx (some ⟨[(.int .i64 x0_0), (.int .i64 x0_1), (.int .i64 x0_2), (.int .i64 x0_3), (.int .i64 x0_4), (.int .i64 x0_5), (.int .i64 x0_6), (.int .i64 x0_7), (.int .i64 x0_8), (.int .i64 x0_9), (.int .i64 x0_10), (.int .i64 x0_11)], 12, true⟩)
    (ldR h1 nx 0 12).bind fun l2 =>
    (asAgg 12 (AV.agg l2)).bind fun d3 =>
    (asI .i64 (d3.getD 0 .bad)).bind fun n4 =>
    (asI .i64 (d3.getD 1 .bad)).bind fun n5 =>
    (asI .i64 (d3.getD 2 .bad)).bind fun n6 =>
    (asI .i64 (d3.getD 3 .bad)).bind fun n7 =>
    (asI .i64 (d3.getD 4 .bad)).bind fun n8 =>
    (asI .i64 (d3.getD 5 .bad)).bind fun n9 =>
    (asI .i64 (d3.getD 6 .bad)).bind fun n10 =>
    (asI .i64 (d3.getD 7 .bad)).bind fun n11 =>
    (asI .i64 (d3.getD 8 .bad)).bind fun n12 =>
    (asI .i64 (d3.getD 9 .bad)).bind fun n13 =>
    (asI .i64 (d3.getD 10 .bad)).bind fun n14 =>
    (asI .i64 (d3.getD 11 .bad)).bind fun n15 =>
    ((callP Try.prog keepT n) Y 24 [(.agg [(.int .i64 n4), (.int .i64 n5), (.int .i64 n6), (.int .i64 n7), (.int .i64 n8), (.int .i64 n9), (.int .i64 n10), (.int .i64 n11), (.int .i64 n12), (.int .i64 n13), (.int .i64 n14), (.int .i64 n15)])] h1 (nx + 10)).bind fun r16 =>
    (asAgg 13 r16.1).bind fun d17 =>
    (asI .i64 (d17.getD 0 .bad)).bind fun n18 =>
    (asI .i64 (d17.getD 1 .bad)).bind fun n19 =>
    (asI .i64 (d17.getD 2 .bad)).bind fun n20 =>
    (asI .i64 (d17.getD 3 .bad)).bind fun n21 =>
    (asI .i64 (d17.getD 4 .bad)).bind fun n22 =>
    (asI .i64 (d17.getD 5 .bad)).bind fun n23 =>
    (asI .i64 (d17.getD 6 .bad)).bind fun n24 =>
    (asI .i64 (d17.getD 7 .bad)).bind fun n25 =>
    (asI .i64 (d17.getD 8 .bad)).bind fun n26 =>
    (asI .i64 (d17.getD 9 .bad)).bind fun n27 =>
    (asI .i64 (d17.getD 10 .bad)).bind fun n28 =>
    (asI .i64 (d17.getD 11 .bad)).bind fun n29 =>
    (asI .i64 (d17.getD 12 .bad)).bind fun n30 =>
    ((callP Try.prog keepT n) Y 25 [(.agg [(.int .i64 n18), (.int .i64 n19), (.int .i64 n20), (.int .i64 n21), (.int .i64 n22), (.int .i64 n23), (.int .i64 n24), (.int .i64 n25), (.int .i64 n26), (.int .i64 n27), (.int .i64 n28), (.int .i64 n29), (.int .i64 n30)])] r16.2.1 r16.2.2).bind fun r31 =>
    (asTup 2 r31.1).bind fun d32 =>
    (asSl (d32.getD 0 .bad)).bind fun s33 =>
    (asI .i64 (d32.getD 1 .bad)).bind fun n34 =>
    if ((n34 : Int) != 0) = true then
    (some ((.bool false), r31.2.1, (r31.2.2 + 8)))
    else
    (if ((((s33.2.1 : Nat) : Int) : Int) != 128) = true then
    (some ((.bool false), r31.2.1, (r31.2.2 + 8)))
    else
    (F10_J1' J J (callP Try.prog keepT n) Y n x1 x2a x2n x2c s33.1 s33.2.1 s33.2.2 r31.2.1 (r31.2.2 + 7))) := by kernel_rfl

/-- quickset/quicksetkeep.LabelTouched -/
theorem F10_eq (n : Nat) (Y : YldF) (x0_0 : Int) (x0_1 : Int) (x0_2 : Int) (x0_3 : Int) (x0_4 : Int) (x0_5 : Int) (x0_6 : Int) (x0_7 : Int) (x0_8 : Int) (x0_9 : Int) (x0_10 : Int) (x0_11 : Int) (x1 : Int) (x2a : Option (Nat × Nat)) (x2n : Nat) (x2c : Bool) (h : AHeap) (nx : Nat) : callP Try.prog keepT (n + 1) Y 10 [(.agg [(.int .i64 x0_0), (.int .i64 x0_1), (.int .i64 x0_2), (.int .i64 x0_3), (.int .i64 x0_4), (.int .i64 x0_5), (.int .i64 x0_6), (.int .i64 x0_7), (.int .i64 x0_8), (.int .i64 x0_9), (.int .i64 x0_10), (.int .i64 x0_11)]), (.int .i64 x1), (.slice x2a x2n x2c)] h nx =
    let h1 := AHeap.put h nx (some ⟨[(.int .i64 x0_0), (.int .i64 x0_1), (.int .i64 x0_2), (.int .i64 x0_3), (.int .i64 x0_4), (.int .i64 x0_5), (.int .i64 x0_6), (.int .i64 x0_7), (.int .i64 x0_8), (.int .i64 x0_9), (.int .i64 x0_10), (.int .i64 x0_11)], 12, true⟩)
    (ldR h1 nx 0 12).bind fun l2 =>
    (asAgg 12 (AV.agg l2)).bind fun d3 =>
    (asI .i64 (d3.getD 0 .bad)).bind fun n4 =>
    (asI .i64 (d3.getD 1 .bad)).bind fun n5 =>
    (asI .i64 (d3.getD 2 .bad)).bind fun n6 =>
    (asI .i64 (d3.getD 3 .bad)).bind fun n7 =>
    (asI .i64 (d3.getD 4 .bad)).bind fun n8 =>
    (asI .i64 (d3.getD 5 .bad)).bind fun n9 =>
    (asI .i64 (d3.getD 6 .bad)).bind fun n10 =>
    (asI .i64 (d3.getD 7 .bad)).bind fun n11 =>
    (asI .i64 (d3.getD 8 .bad)).bind fun n12 =>
    (asI .i64 (d3.getD 9 .bad)).bind fun n13 =>
    (asI .i64 (d3.getD 10 .bad)).bind fun n14 =>
    (asI .i64 (d3.getD 11 .bad)).bind fun n15 =>
    ((callP Try.prog keepT n) Y 24 [(.agg [(.int .i64 n4), (.int .i64 n5), (.int .i64 n6), (.int .i64 n7), (.int .i64 n8), (.int .i64 n9), (.int .i64 n10), (.int .i64 n11), (.int .i64 n12), (.int .i64 n13), (.int .i64 n14), (.int .i64 n15)])] h1 (nx + 10)).bind fun r16 =>
    (asAgg 13 r16.1).bind fun d17 =>
    (asI .i64 (d17.getD 0 .bad)).bind fun n18 =>
    (asI .i64 (d17.getD 1 .bad)).bind fun n19 =>
    (asI .i64 (d17.getD 2 .bad)).bind fun n20 =>
    (asI .i64 (d17.getD 3 .bad)).bind fun n21 =>
    (asI .i64 (d17.getD 4 .bad)).bind fun n22 =>
    (asI .i64 (d17.getD 5 .bad)).bind fun n23 =>
    (asI .i64 (d17.getD 6 .bad)).bind fun n24 =>
    (asI .i64 (d17.getD 7 .bad)).bind fun n25 =>
    (asI .i64 (d17.getD 8 .bad)).bind fun n26 =>
    (asI .i64 (d17.getD 9 .bad)).bind fun n27 =>
    (asI .i64 (d17.getD 10 .bad)).bind fun n28 =>
    (asI .i64 (d17.getD 11 .bad)).bind fun n29 =>
    (asI .i64 (d17.getD 12 .bad)).bind fun n30 =>
    ((callP Try.prog keepT n) Y 25 [(.agg [(.int .i64 n18), (.int .i64 n19), (.int .i64 n20), (.int .i64 n21), (.int .i64 n22), (.int .i64 n23), (.int .i64 n24), (.int .i64 n25), (.int .i64 n26), (.int .i64 n27), (.int .i64 n28), (.int .i64 n29), (.int .i64 n30)])] r16.2.1 r16.2.2).bind fun r31 =>
    (asTup 2 r31.1).bind fun d32 =>
    (asSl (d32.getD 0 .bad)).bind fun s33 =>
    (asI .i64 (d32.getD 1 .bad)).bind fun n34 =>
    if ((n34 : Int) != 0) = true then
    (some ((.bool false), r31.2.1, (r31.2.2 + 8)))
    else
    (if ((((s33.2.1 : Nat) : Int) : Int) != 128) = true then
    (some ((.bool false), r31.2.1, (r31.2.2 + 8)))
    else
    (F10_J1 (callP Try.prog keepT n) Y n x1 x2a x2n x2c s33.1 s33.2.1 s33.2.2 r31.2.1 (r31.2.2 + 7))) := F10_eq' go1 n Y x0_0 x0_1 x0_2 x0_3 x0_4 x0_5 x0_6 x0_7 x0_8 x0_9 x0_10 x0_11 x1 x2a x2n x2c h nx

noncomputable def c11 : Code := (Try.f11.body).getD .skip

noncomputable def r11 : List ResultVar := Try.f11.results.toList

noncomputable def F11_L1' (W J : StepF (AV × AHeap × Nat) → StepF (AV × AHeap × Nat)) (call : YldF → CallF) (Y : YldF) (lf : Nat) (n0 : Nat) (x0a : Option (Nat × Nat)) (x0n : Nat) (x0c : Bool) (x1a : Option (Nat × Nat)) (x1n : Nat) (x1c : Bool) (x2a : Option (Nat × Nat)) (x2n : Nat) (x2c : Bool) (x7a : Option (Nat × Nat)) (x7n : Nat) (x7c : Bool) (x8 : Int) (x9 : Int) (x10 : Int) (h : AHeap) (nx : Nat) : Option (AV × AHeap × Nat) :=
  goK W J drawK (machOf Try.prog) call Y (keepT 11) lf c11 [1, 1, 1, 1, 0, 1, 0, 9] [n0] (retK (machOf Try.prog) ⟨c11, 122, r11, keepT 11⟩) ⟨122, mkL [(0, (.slice x0a x0n x0c)), (1, (.slice x1a x1n x1c)), (2, (.slice x2a x2n x2c)), (7, (.slice x7a x7n x7c)), (8, (.int .i64 x8)), (9, (.int .i64 x9)), (10, (.int .i64 x10))]⟩ h nx

noncomputable def F11_L1 (call : YldF → CallF) (Y : YldF) (lf : Nat) (n0 : Nat) (x0a : Option (Nat × Nat)) (x0n : Nat) (x0c : Bool) (x1a : Option (Nat × Nat)) (x1n : Nat) (x1c : Bool) (x2a : Option (Nat × Nat)) (x2n : Nat) (x2c : Bool) (x7a : Option (Nat × Nat)) (x7n : Nat) (x7c : Bool) (x8 : Int) (x9 : Int) (x10 : Int) (h : AHeap) (nx : Nat) : Option (AV × AHeap × Nat) := F11_L1' go1 go1 call Y lf n0 x0a x0n x0c x1a x1n x1c x2a x2n x2c x7a x7n x7c x8 x9 x10 h nx

noncomputable def F11_J2' (W J : StepF (AV × AHeap × Nat) → StepF (AV × AHeap × Nat)) (call : YldF → CallF) (Y : YldF) (lf : Nat) (n0 : Nat) (x0a : Option (Nat × Nat)) (x0n : Nat) (x0c : Bool) (x1a : Option (Nat × Nat)) (x1n : Nat) (x1c : Bool) (x2a : Option (Nat × Nat)) (x2n : Nat) (x2c : Bool) (x7a : Option (Nat × Nat)) (x7n : Nat) (x7c : Bool) (x8 : Int) (x9 : Int) (x10 : Int) (h : AHeap) (nx : Nat) : Option (AV × AHeap × Nat) :=
  goK W J drawK (machOf Try.prog) call Y (keepT 11) lf c11 [1, 1, 1, 1, 0, 1, 0, 0, 1] [n0] (retK (machOf Try.prog) ⟨c11, 122, r11, keepT 11⟩) ⟨122, mkL [(0, (.slice x0a x0n x0c)), (1, (.slice x1a x1n x1c)), (2, (.slice x2a x2n x2c)), (7, (.slice x7a x7n x7c)), (8, (.int .i64 x8)), (9, (.int .i64 x9)), (10, (.int .i64 x10))]⟩ h nx

noncomputable def F11_J2 (call : YldF → CallF) (Y : YldF) (lf : Nat) (n0 : Nat) (x0a : Option (Nat × Nat)) (x0n : Nat) (x0c : Bool) (x1a : Option (Nat × Nat)) (x1n : Nat) (x1c : Bool) (x2a : Option (Nat × Nat)) (x2n : Nat) (x2c : Bool) (x7a : Option (Nat × Nat)) (x7n : Nat) (x7c : Bool) (x8 : Int) (x9 : Int) (x10 : Int) (h : AHeap) (nx : Nat) : Option (AV × AHeap × Nat) := F11_J2' go1 go1 call Y lf n0 x0a x0n x0c x1a x1n x1c x2a x2n x2c x7a x7n x7c x8 x9 x10 h nx

noncomputable def F11_J3' (W J : StepF (AV × AHeap × Nat) → StepF (AV × AHeap × Nat)) (call : YldF → CallF) (Y : YldF) (lf : Nat) (x7a : Option (Nat × Nat)) (x7n : Nat) (x7c : Bool) (x8 : Int) (x9 : Int) (h : AHeap) (nx : Nat) : Option (AV × AHeap × Nat) :=
  goK W J drawK (machOf Try.prog) call Y (keepT 11) lf c11 [1, 1, 1, 1, 1] [] (retK (machOf Try.prog) ⟨c11, 122, r11, keepT 11⟩) ⟨122, mkL [(7, (.slice x7a x7n x7c)), (8, (.int .i64 x8)), (9, (.int .i64 x9))]⟩ h nx

noncomputable def F11_J3 (call : YldF → CallF) (Y : YldF) (lf : Nat) (x7a : Option (Nat × Nat)) (x7n : Nat) (x7c : Bool) (x8 : Int) (x9 : Int) (h : AHeap) (nx : Nat) : Option (AV × AHeap × Nat) := F11_J3' go1 go1 call Y lf x7a x7n x7c x8 x9 h nx

noncomputable def F11_J4' (W J : StepF (AV × AHeap × Nat) → StepF (AV × AHeap × Nat)) (call : YldF → CallF) (Y : YldF) (lf : Nat) (n0 : Nat) (x0a : Option (Nat × Nat)) (x0n : Nat) (x0c : Bool) (x1a : Option (Nat × Nat)) (x1n : Nat) (x1c : Bool) (x2a : Option (Nat × Nat)) (x2n : Nat) (x2c : Bool) (x7a : Option (Nat × Nat)) (x7n : Nat) (x7c : Bool) (x8 : Int) (x9 : Int) (x10 : Int) (x11 : Option (Nat × Nat)) (x12a : Option (Nat × Nat)) (x12n : Nat) (x12c : Bool) (h : AHeap) (nx : Nat) : Option (AV × AHeap × Nat) :=
  goK W J drawK (machOf Try.prog) call Y (keepT 11) lf c11 [1, 1, 1, 1, 0, 1, 0, 0, 1, 0, 0, 1, 1, 1] [n0] (retK (machOf Try.prog) ⟨c11, 122, r11, keepT 11⟩) ⟨122, mkL [(0, (.slice x0a x0n x0c)), (1, (.slice x1a x1n x1c)), (2, (.slice x2a x2n x2c)), (7, (.slice x7a x7n x7c)), (8, (.int .i64 x8)), (9, (.int .i64 x9)), (10, (.int .i64 x10)), (11, (.ptr x11)), (12, (.slice x12a x12n x12c))]⟩ h nx

noncomputable def F11_J4 (call : YldF → CallF) (Y : YldF) (lf : Nat) (n0 : Nat) (x0a : Option (Nat × Nat)) (x0n : Nat) (x0c : Bool) (x1a : Option (Nat × Nat)) (x1n : Nat) (x1c : Bool) (x2a : Option (Nat × Nat)) (x2n : Nat) (x2c : Bool) (x7a : Option (Nat × Nat)) (x7n : Nat) (x7c : Bool) (x8 : Int) (x9 : Int) (x10 : Int) (x11 : Option (Nat × Nat)) (x12a : Option (Nat × Nat)) (x12n : Nat) (x12c : Bool) (h : AHeap) (nx : Nat) : Option (AV × AHeap × Nat) := F11_J4' go1 go1 call Y lf n0 x0a x0n x0c x1a x1n x1c x2a x2n x2c x7a x7n x7c x8 x9 x10 x11 x12a x12n x12c h nx

noncomputable def F11_J5' (W J : StepF (AV × AHeap × Nat) → StepF (AV × AHeap × Nat)) (call : YldF → CallF) (Y : YldF) (lf : Nat) (n0 : Nat) (x0a : Option (Nat × Nat)) (x0n : Nat) (x0c : Bool) (x1a : Option (Nat × Nat)) (x1n : Nat) (x1c : Bool) (x2a : Option (Nat × Nat)) (x2n : Nat) (x2c : Bool) (x7a : Option (Nat × Nat)) (x7n : Nat) (x7c : Bool) (x8 : Int) (x9 : Int) (x10 : Int) (x12a : Option (Nat × Nat)) (x12n : Nat) (x12c : Bool) (h : AHeap) (nx : Nat) : Option (AV × AHeap × Nat) :=
  goK W J drawK (machOf Try.prog) call Y (keepT 11) lf c11 [1, 1, 1, 1, 0, 1, 0, 0, 1, 0, 0, 1, 1, 1, 1] [n0] (retK (machOf Try.prog) ⟨c11, 122, r11, keepT 11⟩) ⟨122, mkL [(0, (.slice x0a x0n x0c)), (1, (.slice x1a x1n x1c)), (2, (.slice x2a x2n x2c)), (7, (.slice x7a x7n x7c)), (8, (.int .i64 x8)), (9, (.int .i64 x9)), (10, (.int .i64 x10)), (12, (.slice x12a x12n x12c))]⟩ h nx

noncomputable def F11_J5 (call : YldF → CallF) (Y : YldF) (lf : Nat) (n0 : Nat) (x0a : Option (Nat × Nat)) (x0n : Nat) (x0c : Bool) (x1a : Option (Nat × Nat)) (x1n : Nat) (x1c : Bool) (x2a : Option (Nat × Nat)) (x2n : Nat) (x2c : Bool) (x7a : Option (Nat × Nat)) (x7n : Nat) (x7c : Bool) (x8 : Int) (x9 : Int) (x10 : Int) (x12a : Option (Nat × Nat)) (x12n : Nat) (x12c : Bool) (h : AHeap) (nx : Nat) : Option (AV × AHeap × Nat) := F11_J5' go1 go1 call Y lf n0 x0a x0n x0c x1a x1n x1c x2a x2n x2c x7a x7n x7c x8 x9 x10 x12a x12n x12c h nx

theorem F11_L1_eq' (J : StepF (AV × AHeap × Nat) → StepF (AV × AHeap × Nat)) (call : YldF → CallF) (Y : YldF) (lf : Nat) (n0 : Nat) (x0a : Option (Nat × Nat)) (x0n : Nat) (x0c : Bool) (x1a : Option (Nat × Nat)) (x1n : Nat) (x1c : Bool) (x2a : Option (Nat × Nat)) (x2n : Nat) (x2c : Bool) (x7a : Option (Nat × Nat)) (x7n : Nat) (x7c : Bool) (x8 : Int) (x9 : Int) (x10 : Int) (h : AHeap) (nx : Nat) : F11_L1' go1 J call Y lf (n0 + 1) x0a x0n x0c x1a x1n x1c x2a x2n x2c x7a x7n x7c x8 x9 x10 h nx =
    if (decide ((x10 : Int) < ((x0n : Nat) : Int))) = true then
    (if (decide ((x10 : Int) < 12)) = true then
    (F11_J2' J J call Y lf n0 x0a x0n x0c x1a x1n x1c x2a x2n x2c x7a x7n x7c x8 x9 x10 h (nx + 8))
    else
    (F11_J3' J J call Y lf x7a x7n x7c x8 x9 h (nx + 8)))
    else
    (F11_J3' J J call Y lf x7a x7n x7c x8 x9 h (nx + 8)) := by kernel_rfl

theorem F11_L1_eq (call : YldF → CallF) (Y : YldF) (lf : Nat) (n0 : Nat) (x0a : Option (Nat × Nat)) (x0n : Nat) (x0c : Bool) (x1a : Option (Nat × Nat)) (x1n : Nat) (x1c : Bool) (x2a : Option (Nat × Nat)) (x2n : Nat) (x2c : Bool) (x7a : Option (Nat × Nat)) (x7n : Nat) (x7c : Bool) (x8 : Int) (x9 : Int) (x10 : Int) (h : AHeap) (nx : Nat) : F11_L1 call Y lf (n0 + 1) x0a x0n x0c x1a x1n x1c x2a x2n x2c x7a x7n x7c x8 x9 x10 h nx =
    if (decide ((x10 : Int) < ((x0n : Nat) : Int))) = true then
    (if (decide ((x10 : Int) < 12)) = true then
    (F11_J2 call Y lf n0 x0a x0n x0c x1a x1n x1c x2a x2n x2c x7a x7n x7c x8 x9 x10 h (nx + 8))
    else
    (F11_J3 call Y lf x7a x7n x7c x8 x9 h (nx + 8)))
    else
    (F11_J3 call Y lf x7a x7n x7c x8 x9 h (nx + 8)) := F11_L1_eq' go1 call Y lf n0 x0a x0n x0c x1a x1n x1c x2a x2n x2c x7a x7n x7c x8 x9 x10 h nx

theorem F11_L1_zero (call : YldF → CallF) (Y : YldF) (lf : Nat) (x0a : Option (Nat × Nat)) (x0n : Nat) (x0c : Bool) (x1a : Option (Nat × Nat)) (x1n : Nat) (x1c : Bool) (x2a : Option (Nat × Nat)) (x2n : Nat) (x2c : Bool) (x7a : Option (Nat × Nat)) (x7n : Nat) (x7c : Bool) (x8 : Int) (x9 : Int) (x10 : Int) (h : AHeap) (nx : Nat) : F11_L1 call Y lf 0 x0a x0n x0c x1a x1n x1c x2a x2n x2c x7a x7n x7c x8 x9 x10 h nx = none := by kernel_rfl

theorem F11_J2_eq' (J : StepF (AV × AHeap × Nat) → StepF (AV × AHeap × Nat)) (call : YldF → CallF) (Y : YldF) (lf : Nat) (n0 : Nat) (x0a : Option (Nat × Nat)) (x0n : Nat) (x0c : Bool) (x1a : Option (Nat × Nat)) (x1n : Nat) (x1c : Bool) (x2a : Option (Nat × Nat)) (x2n : Nat) (x2c : Bool) (x7a : Option (Nat × Nat)) (x7n : Nat) (x7c : Bool) (x8 : Int) (x9 : Int) (x10 : Int) (h : AHeap) (nx : Nat) : F11_J2' go1 J call Y lf n0 x0a x0n x0c x1a x1n x1c x2a x2n x2c x7a x7n x7c x8 x9 x10 h nx =
    (x0a).bind fun p1 =>
    if 0 ≤ (x10 : Int) ∧ x10 < ((x0n : Nat) : Int) then
    ((ldR h p1.1 (p1.2 + Int.toNat x10 * 12) 12).bind fun l2 =>
    (asAgg 12 (AV.agg l2)).bind fun d3 =>
    (asI .i64 (d3.getD 0 .bad)).bind fun n4 =>
    (asI .i64 (d3.getD 1 .bad)).bind fun n5 =>
    (asI .i64 (d3.getD 2 .bad)).bind fun n6 =>
    (asI .i64 (d3.getD 3 .bad)).bind fun n7 =>
    (asI .i64 (d3.getD 4 .bad)).bind fun n8 =>
    (asI .i64 (d3.getD 5 .bad)).bind fun n9 =>
    (asI .i64 (d3.getD 6 .bad)).bind fun n10 =>
    (asI .i64 (d3.getD 7 .bad)).bind fun n11 =>
    (asI .i64 (d3.getD 8 .bad)).bind fun n12 =>
    (asI .i64 (d3.getD 9 .bad)).bind fun n13 =>
    (asI .i64 (d3.getD 10 .bad)).bind fun n14 =>
    (asI .i64 (d3.getD 11 .bad)).bind fun n15 =>
    (call Y 24 [(.agg [(.int .i64 n4), (.int .i64 n5), (.int .i64 n6), (.int .i64 n7), (.int .i64 n8), (.int .i64 n9), (.int .i64 n10), (.int .i64 n11), (.int .i64 n12), (.int .i64 n13), (.int .i64 n14), (.int .i64 n15)])] h (nx + 7)).bind fun r16 =>
    (asAgg 13 r16.1).bind fun d17 =>
    (asI .i64 (d17.getD 0 .bad)).bind fun n18 =>
    (asI .i64 (d17.getD 1 .bad)).bind fun n19 =>
    (asI .i64 (d17.getD 2 .bad)).bind fun n20 =>
    (asI .i64 (d17.getD 3 .bad)).bind fun n21 =>
    (asI .i64 (d17.getD 4 .bad)).bind fun n22 =>
    (asI .i64 (d17.getD 5 .bad)).bind fun n23 =>
    (asI .i64 (d17.getD 6 .bad)).bind fun n24 =>
    (asI .i64 (d17.getD 7 .bad)).bind fun n25 =>
    (asI .i64 (d17.getD 8 .bad)).bind fun n26 =>
    (asI .i64 (d17.getD 9 .bad)).bind fun n27 =>
    (asI .i64 (d17.getD 10 .bad)).bind fun n28 =>
    (asI .i64 (d17.getD 11 .bad)).bind fun n29 =>
    (asI .i64 (d17.getD 12 .bad)).bind fun n30 =>
    let h31 := AHeap.put r16.2.1 (nx + 5) (some ⟨[(.int .i64 0), (.int .i64 0), (.int .i64 0), (.int .i64 0), (.int .i64 0), (.int .i64 0), (.int .i64 0), (.int .i64 0), (.int .i64 0), (.int .i64 0), (.int .i64 0), (.int .i64 0), (.int .i64 0)], 13, true⟩)
    (stA h31 (nx + 5) 0 (.agg [(.int .i64 n18), (.int .i64 n19), (.int .i64 n20), (.int .i64 n21), (.int .i64 n22), (.int .i64 n23), (.int .i64 n24), (.int .i64 n25), (.int .i64 n26), (.int .i64 n27), (.int .i64 n28), (.int .i64 n29), (.int .i64 n30)]) 13).bind fun b32 =>
    let h33 := AHeap.put h31 (nx + 5) (some b32)
    (ldR h33 (nx + 5) 0 13).bind fun l34 =>
    (asAgg 13 (AV.agg l34)).bind fun d35 =>
    (asI .i64 (d35.getD 0 .bad)).bind fun n36 =>
    (asI .i64 (d35.getD 1 .bad)).bind fun n37 =>
    (asI .i64 (d35.getD 2 .bad)).bind fun n38 =>
    (asI .i64 (d35.getD 3 .bad)).bind fun n39 =>
    (asI .i64 (d35.getD 4 .bad)).bind fun n40 =>
    (asI .i64 (d35.getD 5 .bad)).bind fun n41 =>
    (asI .i64 (d35.getD 6 .bad)).bind fun n42 =>
    (asI .i64 (d35.getD 7 .bad)).bind fun n43 =>
    (asI .i64 (d35.getD 8 .bad)).bind fun n44 =>
    (asI .i64 (d35.getD 9 .bad)).bind fun n45 =>
    (asI .i64 (d35.getD 10 .bad)).bind fun n46 =>
    (asI .i64 (d35.getD 11 .bad)).bind fun n47 =>
    (asI .i64 (d35.getD 12 .bad)).bind fun n48 =>
    (call Y 25 [(.agg [(.int .i64 n36), (.int .i64 n37), (.int .i64 n38), (.int .i64 n39), (.int .i64 n40), (.int .i64 n41), (.int .i64 n42), (.int .i64 n43), (.int .i64 n44), (.int .i64 n45), (.int .i64 n46), (.int .i64 n47), (.int .i64 n48)])] h33 (r16.2.2 + 7)).bind fun r49 =>
    (asTup 2 r49.1).bind fun d50 =>
    (asSl (d50.getD 0 .bad)).bind fun s51 =>
    (asI .i64 (d50.getD 1 .bad)).bind fun n52 =>
    if ((n52 : Int) != 0) = true then
    (some ((.bool false), r49.2.1, (r49.2.2 + 8)))
    else
    (if ((((s51.2.1 : Nat) : Int) : Int) != 128) = true then
    (some ((.bool false), r49.2.1, (r49.2.2 + 8)))
    else
    (F11_J4' J J call Y lf n0 x0a x0n x0c x1a x1n x1c x2a x2n x2c x7a x7n x7c x8 x9 x10 (some ((nx + 5), 0)) s51.1 s51.2.1 s51.2.2 r49.2.1 (r49.2.2 + 7))))
    else none := by kernel_rfl

theorem F11_J2_eq (call : YldF → CallF) (Y : YldF) (lf : Nat) (n0 : Nat) (x0a : Option (Nat × Nat)) (x0n : Nat) (x0c : Bool) (x1a : Option (Nat × Nat)) (x1n : Nat) (x1c : Bool) (x2a : Option (Nat × Nat)) (x2n : Nat) (x2c : Bool) (x7a : Option (Nat × Nat)) (x7n : Nat) (x7c : Bool) (x8 : Int) (x9 : Int) (x10 : Int) (h : AHeap) (nx : Nat) : F11_J2 call Y lf n0 x0a x0n x0c x1a x1n x1c x2a x2n x2c x7a x7n x7c x8 x9 x10 h nx =
    (x0a).bind fun p1 =>
    if 0 ≤ (x10 : Int) ∧ x10 < ((x0n : Nat) : Int) then
    ((ldR h p1.1 (p1.2 + Int.toNat x10 * 12) 12).bind fun l2 =>
    (asAgg 12 (AV.agg l2)).bind fun d3 =>
    (asI .i64 (d3.getD 0 .bad)).bind fun n4 =>
    (asI .i64 (d3.getD 1 .bad)).bind fun n5 =>
    (asI .i64 (d3.getD 2 .bad)).bind fun n6 =>
    (asI .i64 (d3.getD 3 .bad)).bind fun n7 =>
    (asI .i64 (d3.getD 4 .bad)).bind fun n8 =>
    (asI .i64 (d3.getD 5 .bad)).bind fun n9 =>
    (asI .i64 (d3.getD 6 .bad)).bind fun n10 =>
    (asI .i64 (d3.getD 7 .bad)).bind fun n11 =>
    (asI .i64 (d3.getD 8 .bad)).bind fun n12 =>
    (asI .i64 (d3.getD 9 .bad)).bind fun n13 =>
    (asI .i64 (d3.getD 10 .bad)).bind fun n14 =>
    (asI .i64 (d3.getD 11 .bad)).bind fun n15 =>
    (call Y 24 [(.agg [(.int .i64 n4), (.int .i64 n5), (.int .i64 n6), (.int .i64 n7), (.int .i64 n8), (.int .i64 n9), (.int .i64 n10), (.int .i64 n11), (.int .i64 n12), (.int .i64 n13), (.int .i64 n14), (.int .i64 n15)])] h (nx + 7)).bind fun r16 =>
    (asAgg 13 r16.1).bind fun d17 =>
    (asI .i64 (d17.getD 0 .bad)).bind fun n18 =>
    (asI .i64 (d17.getD 1 .bad)).bind fun n19 =>
    (asI .i64 (d17.getD 2 .bad)).bind fun n20 =>
    (asI .i64 (d17.getD 3 .bad)).bind fun n21 =>
    (asI .i64 (d17.getD 4 .bad)).bind fun n22 =>
    (asI .i64 (d17.getD 5 .bad)).bind fun n23 =>
    (asI .i64 (d17.getD 6 .bad)).bind fun n24 =>
    (asI .i64 (d17.getD 7 .bad)).bind fun n25 =>
    (asI .i64 (d17.getD 8 .bad)).bind fun n26 =>
    (asI .i64 (d17.getD 9 .bad)).bind fun n27 =>
    (asI .i64 (d17.getD 10 .bad)).bind fun n28 =>
    (asI .i64 (d17.getD 11 .bad)).bind fun n29 =>
    (asI .i64 (d17.getD 12 .bad)).bind fun n30 =>
    let h31 := AHeap.put r16.2.1 (nx + 5) (some ⟨[(.int .i64 0), (.int .i64 0), (.int .i64 0), (.int .i64 0), (.int .i64 0), (.int .i64 0), (.int .i64 0), (.int .i64 0), (.int .i64 0), (.int .i64 0), (.int .i64 0), (.int .i64 0), (.int .i64 0)], 13, true⟩)
    (stA h31 (nx + 5) 0 (.agg [(.int .i64 n18), (.int .i64 n19), (.int .i64 n20), (.int .i64 n21), (.int .i64 n22), (.int .i64 n23), (.int .i64 n24), (.int .i64 n25), (.int .i64 n26), (.int .i64 n27), (.int .i64 n28), (.int .i64 n29), (.int .i64 n30)]) 13).bind fun b32 =>
    let h33 := AHeap.put h31 (nx + 5) (some b32)
    (ldR h33 (nx + 5) 0 13).bind fun l34 =>
    (asAgg 13 (AV.agg l34)).bind fun d35 =>
    (asI .i64 (d35.getD 0 .bad)).bind fun n36 =>
    (asI .i64 (d35.getD 1 .bad)).bind fun n37 =>
    (asI .i64 (d35.getD 2 .bad)).bind fun n38 =>
    (asI .i64 (d35.getD 3 .bad)).bind fun n39 =>
    (asI .i64 (d35.getD 4 .bad)).bind fun n40 =>
    (asI .i64 (d35.getD 5 .bad)).bind fun n41 =>
    (asI .i64 (d35.getD 6 .bad)).bind fun n42 =>
    (asI .i64 (d35.getD 7 .bad)).bind fun n43 =>
    (asI .i64 (d35.getD 8 .bad)).bind fun n44 =>
    (asI .i64 (d35.getD 9 .bad)).bind fun n45 =>
    (asI .i64 (d35.getD 10 .bad)).bind fun n46 =>
    (asI .i64 (d35.getD 11 .bad)).bind fun n47 =>
    (asI .i64 (d35.getD 12 .bad)).bind fun n48 =>
    (call Y 25 [(.agg [(.int .i64 n36), (.int .i64 n37), (.int .i64 n38), (.int .i64 n39), (.int .i64 n40), (.int .i64 n41), (.int .i64 n42), (.int .i64 n43), (.int .i64 n44), (.int .i64 n45), (.int .i64 n46), (.int .i64 n47), (.int .i64 n48)])] h33 (r16.2.2 + 7)).bind fun r49 =>
    (asTup 2 r49.1).bind fun d50 =>
    (asSl (d50.getD 0 .bad)).bind fun s51 =>
    (asI .i64 (d50.getD 1 .bad)).bind fun n52 =>
    if ((n52 : Int) != 0) = true then
    (some ((.bool false), r49.2.1, (r49.2.2 + 8)))
    else
    (if ((((s51.2.1 : Nat) : Int) : Int) != 128) = true then
    (some ((.bool false), r49.2.1, (r49.2.2 + 8)))
    else
    (F11_J4 call Y lf n0 x0a x0n x0c x1a x1n x1c x2a x2n x2c x7a x7n x7c x8 x9 x10 (some ((nx + 5), 0)) s51.1 s51.2.1 s51.2.2 r49.2.1 (r49.2.2 + 7))))
    else none := F11_J2_eq' go1 call Y lf n0 x0a x0n x0c x1a x1n x1c x2a x2n x2c x7a x7n x7c x8 x9 x10 h nx

theorem F11_J3_eq' (J : StepF (AV × AHeap × Nat) → StepF (AV × AHeap × Nat)) (call : YldF → CallF) (Y : YldF) (lf : Nat) (x7a : Option (Nat × Nat)) (x7n : Nat) (x7c : Bool) (x8 : Int) (x9 : Int) (h : AHeap) (nx : Nat) : F11_J3' go1 J call Y lf x7a x7n x7c x8 x9 h nx =
    (call Y 28 [(.slice x7a x7n x7c)] h (nx + 10)).bind fun r1 =>
    (asTup 3 r1.1).bind fun d2 =>
    (asAgg 13 (d2.getD 0 .bad)).bind fun d3 =>
    (asI .i64 (d3.getD 0 .bad)).bind fun n4 =>
    (asI .i64 (d3.getD 1 .bad)).bind fun n5 =>
    (asI .i64 (d3.getD 2 .bad)).bind fun n6 =>
    (asI .i64 (d3.getD 3 .bad)).bind fun n7 =>
    (asI .i64 (d3.getD 4 .bad)).bind fun n8 =>
    (asI .i64 (d3.getD 5 .bad)).bind fun n9 =>
    (asI .i64 (d3.getD 6 .bad)).bind fun n10 =>
    (asI .i64 (d3.getD 7 .bad)).bind fun n11 =>
    (asI .i64 (d3.getD 8 .bad)).bind fun n12 =>
    (asI .i64 (d3.getD 9 .bad)).bind fun n13 =>
    (asI .i64 (d3.getD 10 .bad)).bind fun n14 =>
    (asI .i64 (d3.getD 11 .bad)).bind fun n15 =>
    (asI .i64 (d3.getD 12 .bad)).bind fun n16 =>
    (asI .i64 (d2.getD 1 .bad)).bind fun n17 =>
    (asI .i64 (d2.getD 2 .bad)).bind fun n18 =>
    let h19 := AHeap.put r1.2.1 (nx + 6) (some ⟨[(.int .i64 0), (.int .i64 0), (.int .i64 0), (.int .i64 0), (.int .i64 0), (.int .i64 0), (.int .i64 0), (.int .i64 0), (.int .i64 0), (.int .i64 0), (.int .i64 0), (.int .i64 0), (.int .i64 0)], 13, true⟩)
    (stA h19 (nx + 6) 0 (.agg [(.int .i64 n4), (.int .i64 n5), (.int .i64 n6), (.int .i64 n7), (.int .i64 n8), (.int .i64 n9), (.int .i64 n10), (.int .i64 n11), (.int .i64 n12), (.int .i64 n13), (.int .i64 n14), (.int .i64 n15), (.int .i64 n16)]) 13).bind fun b20 =>
    let h21 := AHeap.put h19 (nx + 6) (some b20)
    if (decide ((x9 : Int) < 0)) = true then
    (if ((n18 : Int) == 6) = true then
    (some ((.bool ((n17 : Int) == 0)), h21, (r1.2.2 + 9)))
    else
    (some ((.bool false), h21, (r1.2.2 + 9))))
    else
    (if ((n18 : Int) == 0) = true then
    (if ((n17 : Int) == x9) = true then
    ((ldA h21 (nx + 6) 4).bind fun v22 =>
    (asI .i64 v22).bind fun n23 =>
    some ((.bool ((n23 : Int) == x8)), h21, (r1.2.2 + 16)))
    else
    (some ((.bool false), h21, (r1.2.2 + 16))))
    else
    (some ((.bool false), h21, (r1.2.2 + 16)))) := by kernel_rfl

theorem F11_J3_eq (call : YldF → CallF) (Y : YldF) (lf : Nat) (x7a : Option (Nat × Nat)) (x7n : Nat) (x7c : Bool) (x8 : Int) (x9 : Int) (h : AHeap) (nx : Nat) : F11_J3 call Y lf x7a x7n x7c x8 x9 h nx =
    (call Y 28 [(.slice x7a x7n x7c)] h (nx + 10)).bind fun r1 =>
    (asTup 3 r1.1).bind fun d2 =>
    (asAgg 13 (d2.getD 0 .bad)).bind fun d3 =>
    (asI .i64 (d3.getD 0 .bad)).bind fun n4 =>
    (asI .i64 (d3.getD 1 .bad)).bind fun n5 =>
    (asI .i64 (d3.getD 2 .bad)).bind fun n6 =>
    (asI .i64 (d3.getD 3 .bad)).bind fun n7 =>
    (asI .i64 (d3.getD 4 .bad)).bind fun n8 =>
    (asI .i64 (d3.getD 5 .bad)).bind fun n9 =>
    (asI .i64 (d3.getD 6 .bad)).bind fun n10 =>
    (asI .i64 (d3.getD 7 .bad)).bind fun n11 =>
    (asI .i64 (d3.getD 8 .bad)).bind fun n12 =>
    (asI .i64 (d3.getD 9 .bad)).bind fun n13 =>
    (asI .i64 (d3.getD 10 .bad)).bind fun n14 =>
    (asI .i64 (d3.getD 11 .bad)).bind fun n15 =>
    (asI .i64 (d3.getD 12 .bad)).bind fun n16 =>
    (asI .i64 (d2.getD 1 .bad)).bind fun n17 =>
    (asI .i64 (d2.getD 2 .bad)).bind fun n18 =>
    let h19 := AHeap.put r1.2.1 (nx + 6) (some ⟨[(.int .i64 0), (.int .i64 0), (.int .i64 0), (.int .i64 0), (.int .i64 0), (.int .i64 0), (.int .i64 0), (.int .i64 0), (.int .i64 0), (.int .i64 0), (.int .i64 0), (.int .i64 0), (.int .i64 0)], 13, true⟩)
    (stA h19 (nx + 6) 0 (.agg [(.int .i64 n4), (.int .i64 n5), (.int .i64 n6), (.int .i64 n7), (.int .i64 n8), (.int .i64 n9), (.int .i64 n10), (.int .i64 n11), (.int .i64 n12), (.int .i64 n13), (.int .i64 n14), (.int .i64 n15), (.int .i64 n16)]) 13).bind fun b20 =>
    let h21 := AHeap.put h19 (nx + 6) (some b20)
    if (decide ((x9 : Int) < 0)) = true then
    (if ((n18 : Int) == 6) = true then
    (some ((.bool ((n17 : Int) == 0)), h21, (r1.2.2 + 9)))
    else
    (some ((.bool false), h21, (r1.2.2 + 9))))
    else
    (if ((n18 : Int) == 0) = true then
    (if ((n17 : Int) == x9) = true then
    ((ldA h21 (nx + 6) 4).bind fun v22 =>
    (asI .i64 v22).bind fun n23 =>
    some ((.bool ((n23 : Int) == x8)), h21, (r1.2.2 + 16)))
    else
    (some ((.bool false), h21, (r1.2.2 + 16))))
    else
    (some ((.bool false), h21, (r1.2.2 + 16)))) := F11_J3_eq' go1 call Y lf x7a x7n x7c x8 x9 h nx

theorem F11_J4_eq' (J : StepF (AV × AHeap × Nat) → StepF (AV × AHeap × Nat)) (call : YldF → CallF) (Y : YldF) (lf : Nat) (n0 : Nat) (x0a : Option (Nat × Nat)) (x0n : Nat) (x0c : Bool) (x1a : Option (Nat × Nat)) (x1n : Nat) (x1c : Bool) (x2a : Option (Nat × Nat)) (x2n : Nat) (x2c : Bool) (x7a : Option (Nat × Nat)) (x7n : Nat) (x7c : Bool) (x8 : Int) (x9 : Int) (x10 : Int) (x11 : Option (Nat × Nat)) (x12a : Option (Nat × Nat)) (x12n : Nat) (x12c : Bool) (h : AHeap) (nx : Nat) : F11_J4' go1 J call Y lf n0 x0a x0n x0c x1a x1n x1c x2a x2n x2c x7a x7n x7c x8 x9 x10 x11 x12a x12n x12c h nx =
    if (decide ((x10 : Int) < ((x1n : Nat) : Int))) = true then
    ((x1a).bind fun p1 =>
    if 0 ≤ (x10 : Int) ∧ x10 < ((x1n : Nat) : Int) then
    ((ldA h p1.1 (p1.2 + Int.toNat x10 * 1)).bind fun v2 =>
    (asB v2).bind fun t3 =>
    if t3 = true then
    ((x11).bind fun p4 =>
    (ldA h p4.1 (p4.2 + 5)).bind fun v5 =>
    (asI .i64 v5).bind fun n6 =>
    (call Y 15 [(.int .i64 n6), (.int .i64 96)] h (nx + 20)).bind fun r7 =>
    (asI .i64 r7.1).bind fun n8 =>
    (x12a).bind fun p9 =>
    if 0 ≤ (n8 : Int) ∧ n8 < ((x12n : Nat) : Int) then
    ((ldA r7.2.1 p9.1 (p9.2 + Int.toNat n8 * 1)).bind fun v10 =>
    (asI .u8 v10).bind fun n11 =>
    (x12a).bind fun p12 =>
    if 0 ≤ (n8 : Int) ∧ n8 < ((x12n : Nat) : Int) then
    ((stA r7.2.1 p12.1 (p12.2 + Int.toNat n8 * 1) (.int .u8 (bits .xor .u8 n11 1)) 1).bind fun b13 =>
    let h14 := AHeap.put r7.2.1 p12.1 (some b13)
    F11_J5' J J call Y lf n0 x0a x0n x0c x1a x1n x1c x2a x2n x2c x7a x7n x7c x8 x9 x10 x12a x12n x12c h14 r7.2.2)
    else none)
    else none)
    else
    ((x11).bind fun p15 =>
    (ldA h p15.1 (p15.2 + 4)).bind fun v16 =>
    (asI .i64 v16).bind fun n17 =>
    if (decide ((n17 : Int) > x8)) = true then
    ((x11).bind fun p18 =>
    (ldA h p18.1 (p18.2 + 4)).bind fun v19 =>
    (asI .i64 v19).bind fun n20 =>
    F11_J5' J J call Y lf n0 x0a x0n x0c x1a x1n x1c x2a x2n x2c x7a x7n x7c n20 ((x7n : Nat) : Int) x10 x12a x12n x12c h (nx + 20))
    else
    (F11_J5' J J call Y lf n0 x0a x0n x0c x1a x1n x1c x2a x2n x2c x7a x7n x7c x8 x9 x10 x12a x12n x12c h (nx + 14))))
    else none)
    else
    ((x11).bind fun p21 =>
    (ldA h p21.1 (p21.2 + 4)).bind fun v22 =>
    (asI .i64 v22).bind fun n23 =>
    if (decide ((n23 : Int) > x8)) = true then
    ((x11).bind fun p24 =>
    (ldA h p24.1 (p24.2 + 4)).bind fun v25 =>
    (asI .i64 v25).bind fun n26 =>
    F11_J5' J J call Y lf n0 x0a x0n x0c x1a x1n x1c x2a x2n x2c x7a x7n x7c n26 ((x7n : Nat) : Int) x10 x12a x12n x12c h (nx + 20))
    else
    (F11_J5' J J call Y lf n0 x0a x0n x0c x1a x1n x1c x2a x2n x2c x7a x7n x7c x8 x9 x10 x12a x12n x12c h (nx + 14))) := by kernel_rfl

theorem F11_J4_eq (call : YldF → CallF) (Y : YldF) (lf : Nat) (n0 : Nat) (x0a : Option (Nat × Nat)) (x0n : Nat) (x0c : Bool) (x1a : Option (Nat × Nat)) (x1n : Nat) (x1c : Bool) (x2a : Option (Nat × Nat)) (x2n : Nat) (x2c : Bool) (x7a : Option (Nat × Nat)) (x7n : Nat) (x7c : Bool) (x8 : Int) (x9 : Int) (x10 : Int) (x11 : Option (Nat × Nat)) (x12a : Option (Nat × Nat)) (x12n : Nat) (x12c : Bool) (h : AHeap) (nx : Nat) : F11_J4 call Y lf n0 x0a x0n x0c x1a x1n x1c x2a x2n x2c x7a x7n x7c x8 x9 x10 x11 x12a x12n x12c h nx =
    if (decide ((x10 : Int) < ((x1n : Nat) : Int))) = true then
    ((x1a).bind fun p1 =>
    if 0 ≤ (x10 : Int) ∧ x10 < ((x1n : Nat) : Int) then
    ((ldA h p1.1 (p1.2 + Int.toNat x10 * 1)).bind fun v2 =>
    (asB v2).bind fun t3 =>
    if t3 = true then
    ((x11).bind fun p4 =>
    (ldA h p4.1 (p4.2 + 5)).bind fun v5 =>
    (asI .i64 v5).bind fun n6 =>
    (call Y 15 [(.int .i64 n6), (.int .i64 96)] h (nx + 20)).bind fun r7 =>
    (asI .i64 r7.1).bind fun n8 =>
    (x12a).bind fun p9 =>
    if 0 ≤ (n8 : Int) ∧ n8 < ((x12n : Nat) : Int) then
    ((ldA r7.2.1 p9.1 (p9.2 + Int.toNat n8 * 1)).bind fun v10 =>
    (asI .u8 v10).bind fun n11 =>
    (x12a).bind fun p12 =>
    if 0 ≤ (n8 : Int) ∧ n8 < ((x12n : Nat) : Int) then
    ((stA r7.2.1 p12.1 (p12.2 + Int.toNat n8 * 1) (.int .u8 (bits .xor .u8 n11 1)) 1).bind fun b13 =>
    let h14 := AHeap.put r7.2.1 p12.1 (some b13)
    F11_J5 call Y lf n0 x0a x0n x0c x1a x1n x1c x2a x2n x2c x7a x7n x7c x8 x9 x10 x12a x12n x12c h14 r7.2.2)
    else none)
    else none)
    else
    ((x11).bind fun p15 =>
    (ldA h p15.1 (p15.2 + 4)).bind fun v16 =>
    (asI .i64 v16).bind fun n17 =>
    if (decide ((n17 : Int) > x8)) = true then
    ((x11).bind fun p18 =>
    (ldA h p18.1 (p18.2 + 4)).bind fun v19 =>
    (asI .i64 v19).bind fun n20 =>
    F11_J5 call Y lf n0 x0a x0n x0c x1a x1n x1c x2a x2n x2c x7a x7n x7c n20 ((x7n : Nat) : Int) x10 x12a x12n x12c h (nx + 20))
    else
    (F11_J5 call Y lf n0 x0a x0n x0c x1a x1n x1c x2a x2n x2c x7a x7n x7c x8 x9 x10 x12a x12n x12c h (nx + 14))))
    else none)
    else
    ((x11).bind fun p21 =>
    (ldA h p21.1 (p21.2 + 4)).bind fun v22 =>
    (asI .i64 v22).bind fun n23 =>
    if (decide ((n23 : Int) > x8)) = true then
    ((x11).bind fun p24 =>
    (ldA h p24.1 (p24.2 + 4)).bind fun v25 =>
    (asI .i64 v25).bind fun n26 =>
    F11_J5 call Y lf n0 x0a x0n x0c x1a x1n x1c x2a x2n x2c x7a x7n x7c n26 ((x7n : Nat) : Int) x10 x12a x12n x12c h (nx + 20))
    else
    (F11_J5 call Y lf n0 x0a x0n x0c x1a x1n x1c x2a x2n x2c x7a x7n x7c x8 x9 x10 x12a x12n x12c h (nx + 14))) := F11_J4_eq' go1 call Y lf n0 x0a x0n x0c x1a x1n x1c x2a x2n x2c x7a x7n x7c x8 x9 x10 x11 x12a x12n x12c h nx

theorem F11_J5_eq' (J : StepF (AV × AHeap × Nat) → StepF (AV × AHeap × Nat)) (call : YldF → CallF) (Y : YldF) (lf : Nat) (n0 : Nat) (x0a : Option (Nat × Nat)) (x0n : Nat) (x0c : Bool) (x1a : Option (Nat × Nat)) (x1n : Nat) (x1c : Bool) (x2a : Option (Nat × Nat)) (x2n : Nat) (x2c : Bool) (x7a : Option (Nat × Nat)) (x7n : Nat) (x7c : Bool) (x8 : Int) (x9 : Int) (x10 : Int) (x12a : Option (Nat × Nat)) (x12n : Nat) (x12c : Bool) (h : AHeap) (nx : Nat) : F11_J5' go1 J call Y lf n0 x0a x0n x0c x1a x1n x1c x2a x2n x2c x7a x7n x7c x8 x9 x10 x12a x12n x12c h nx =
    let h1 := AHeap.put h (nx + 2) (some ⟨[(.slice x12a x12n x12c)], 1, true⟩)
    (srcS h1 (some ((nx + 2), 0)) 1 1).bind fun q2 =>
    (appD h1 x7a x7n x7c 1 24 (nx + 3) q2).bind fun e3 =>
    let h4 := AHeap.puts h1 e3.sets
    if (decide ((x10 : Int) < ((x2n : Nat) : Int))) = true then
    ((x2a).bind fun p5 =>
    if 0 ≤ (x10 : Int) ∧ x10 < ((x2n : Nat) : Int) then
    ((ldA h4 p5.1 (p5.2 + Int.toNat x10 * 1)).bind fun v6 =>
    (asSl v6).bind fun s7 =>
    if ((((s7.2.1 : Nat) : Int) : Int) != 128) = true then
    ((x2a).bind fun p8 =>
    if 0 ≤ (x10 : Int) ∧ x10 < ((x2n : Nat) : Int) then
    ((ldA h4 p8.1 (p8.2 + Int.toNat x10 * 1)).bind fun v9 =>
    (asSl v9).bind fun s10 =>
    (srcS h4 s10.1 s10.2.1 1).bind fun q11 =>
    (appD h4 none 0 false 1 1 (nx + 22) q11).bind fun e12 =>
    let h13 := AHeap.puts h4 e12.sets
    let h14 := AHeap.put h13 (nx + 23) (some ⟨[(.slice e12.a e12.n e12.c)], 1, true⟩)
    (srcS h14 (some ((nx + 23), 0)) 1 1).bind fun q15 =>
    (appD h14 e3.a e3.n e3.c 1 24 (nx + 24) q15).bind fun e16 =>
    let h17 := AHeap.puts h14 e16.sets
    F11_L1' J J call Y lf n0 x0a x0n x0c x1a x1n x1c x2a x2n x2c e16.a e16.n e16.c x8 x9 (wrapA .i64 (x10 + 1)) h17 (nx + 29))
    else none)
    else
    (F11_L1' J J call Y lf n0 x0a x0n x0c x1a x1n x1c x2a x2n x2c e3.a e3.n e3.c x8 x9 (wrapA .i64 (x10 + 1)) h4 (nx + 20)))
    else none)
    else
    (F11_L1' J J call Y lf n0 x0a x0n x0c x1a x1n x1c x2a x2n x2c e3.a e3.n e3.c x8 x9 (wrapA .i64 (x10 + 1)) h4 (nx + 20)) := by kernel_rfl

theorem F11_J5_eq (call : YldF → CallF) (Y : YldF) (lf : Nat) (n0 : Nat) (x0a : Option (Nat × Nat)) (x0n : Nat) (x0c : Bool) (x1a : Option (Nat × Nat)) (x1n : Nat) (x1c : Bool) (x2a : Option (Nat × Nat)) (x2n : Nat) (x2c : Bool) (x7a : Option (Nat × Nat)) (x7n : Nat) (x7c : Bool) (x8 : Int) (x9 : Int) (x10 : Int) (x12a : Option (Nat × Nat)) (x12n : Nat) (x12c : Bool) (h : AHeap) (nx : Nat) : F11_J5 call Y lf n0 x0a x0n x0c x1a x1n x1c x2a x2n x2c x7a x7n x7c x8 x9 x10 x12a x12n x12c h nx =
    let h1 := AHeap.put h (nx + 2) (some ⟨[(.slice x12a x12n x12c)], 1, true⟩)
    (srcS h1 (some ((nx + 2), 0)) 1 1).bind fun q2 =>
    (appD h1 x7a x7n x7c 1 24 (nx + 3) q2).bind fun e3 =>
    let h4 := AHeap.puts h1 e3.sets
    if (decide ((x10 : Int) < ((x2n : Nat) : Int))) = true then
    ((x2a).bind fun p5 =>
    if 0 ≤ (x10 : Int) ∧ x10 < ((x2n : Nat) : Int) then
    ((ldA h4 p5.1 (p5.2 + Int.toNat x10 * 1)).bind fun v6 =>
    (asSl v6).bind fun s7 =>
    if ((((s7.2.1 : Nat) : Int) : Int) != 128) = true then
    ((x2a).bind fun p8 =>
    if 0 ≤ (x10 : Int) ∧ x10 < ((x2n : Nat) : Int) then
    ((ldA h4 p8.1 (p8.2 + Int.toNat x10 * 1)).bind fun v9 =>
    (asSl v9).bind fun s10 =>
    (srcS h4 s10.1 s10.2.1 1).bind fun q11 =>
    (appD h4 none 0 false 1 1 (nx + 22) q11).bind fun e12 =>
    let h13 := AHeap.puts h4 e12.sets
    let h14 := AHeap.put h13 (nx + 23) (some ⟨[(.slice e12.a e12.n e12.c)], 1, true⟩)
    (srcS h14 (some ((nx + 23), 0)) 1 1).bind fun q15 =>
    (appD h14 e3.a e3.n e3.c 1 24 (nx + 24) q15).bind fun e16 =>
    let h17 := AHeap.puts h14 e16.sets
    F11_L1 call Y lf n0 x0a x0n x0c x1a x1n x1c x2a x2n x2c e16.a e16.n e16.c x8 x9 (wrapA .i64 (x10 + 1)) h17 (nx + 29))
    else none)
    else
    (F11_L1 call Y lf n0 x0a x0n x0c x1a x1n x1c x2a x2n x2c e3.a e3.n e3.c x8 x9 (wrapA .i64 (x10 + 1)) h4 (nx + 20)))
    else none)
    else
    (F11_L1 call Y lf n0 x0a x0n x0c x1a x1n x1c x2a x2n x2c e3.a e3.n e3.c x8 x9 (wrapA .i64 (x10 + 1)) h4 (nx + 20)) := F11_J5_eq' go1 call Y lf n0 x0a x0n x0c x1a x1n x1c x2a x2n x2c x7a x7n x7c x8 x9 x10 x12a x12n x12c h nx

theorem F11_eq' (J : StepF (AV × AHeap × Nat) → StepF (AV × AHeap × Nat)) (n : Nat) (Y : YldF) (x0a : Option (Nat × Nat)) (x0n : Nat) (x0c : Bool) (x1a : Option (Nat × Nat)) (x1n : Nat) (x1c : Bool) (x2a : Option (Nat × Nat)) (x2n : Nat) (x2c : Bool) (h : AHeap) (nx : Nat) : rootJ J Try.prog keepT (callP Try.prog keepT n) Y n 11 [(.slice x0a x0n x0c), (.slice x1a x1n x1c), (.slice x2a x2n x2c)] h nx =
    F11_L1' J J (callP Try.prog keepT n) Y n n x0a x0n x0c x1a x1n x1c x2a x2n x2c none 0 false (-1) (-1) 0 h (nx + 5) := by kernel_rfl

/-- quickset/quicksetkeep.BestNewest -/
theorem F11_eq (n : Nat) (Y : YldF) (x0a : Option (Nat × Nat)) (x0n : Nat) (x0c : Bool) (x1a : Option (Nat × Nat)) (x1n : Nat) (x1c : Bool) (x2a : Option (Nat × Nat)) (x2n : Nat) (x2c : Bool) (h : AHeap) (nx : Nat) : callP Try.prog keepT (n + 1) Y 11 [(.slice x0a x0n x0c), (.slice x1a x1n x1c), (.slice x2a x2n x2c)] h nx =
    F11_L1 (callP Try.prog keepT n) Y n n x0a x0n x0c x1a x1n x1c x2a x2n x2c none 0 false (-1) (-1) 0 h (nx + 5) := F11_eq' go1 n Y x0a x0n x0c x1a x1n x1c x2a x2n x2c h nx

noncomputable def c12 : Code := (Try.f12.body).getD .skip

noncomputable def r12 : List ResultVar := Try.f12.results.toList

noncomputable def F12_L1' (W J : StepF (AV × AHeap × Nat) → StepF (AV × AHeap × Nat)) (call : YldF → CallF) (Y : YldF) (lf : Nat) (n0 : Nat) (x5 : Int) (x6a : Option (Nat × Nat)) (x6n : Nat) (x6c : Bool) (x7a : Option (Nat × Nat)) (x7n : Nat) (x7c : Bool) (x10a : Option (Nat × Nat)) (x10n : Nat) (x10c : Bool) (x11a : Option (Nat × Nat)) (x11n : Nat) (x11c : Bool) (x12 : Int) (h : AHeap) (nx : Nat) : Option (AV × AHeap × Nat) :=
  goK W J drawK (machOf Try.prog) call Y (keepT 12) lf c12 [1, 1, 1, 1, 1, 1, 0, 1, 0, 9] [n0] (retK (machOf Try.prog) ⟨c12, 158, r12, keepT 12⟩) ⟨158, mkL [(5, (.int .i64 x5)), (6, (.slice x6a x6n x6c)), (7, (.slice x7a x7n x7c)), (10, (.slice x10a x10n x10c)), (11, (.slice x11a x11n x11c)), (12, (.int .i64 x12))]⟩ h nx

noncomputable def F12_L1 (call : YldF → CallF) (Y : YldF) (lf : Nat) (n0 : Nat) (x5 : Int) (x6a : Option (Nat × Nat)) (x6n : Nat) (x6c : Bool) (x7a : Option (Nat × Nat)) (x7n : Nat) (x7c : Bool) (x10a : Option (Nat × Nat)) (x10n : Nat) (x10c : Bool) (x11a : Option (Nat × Nat)) (x11n : Nat) (x11c : Bool) (x12 : Int) (h : AHeap) (nx : Nat) : Option (AV × AHeap × Nat) := F12_L1' go1 go1 call Y lf n0 x5 x6a x6n x6c x7a x7n x7c x10a x10n x10c x11a x11n x11c x12 h nx

noncomputable def F12_L2' (W J : StepF (AV × AHeap × Nat) → StepF (AV × AHeap × Nat)) (call : YldF → CallF) (Y : YldF) (lf : Nat) (n0 : Nat) (n1 : Nat) (x5 : Int) (x6a : Option (Nat × Nat)) (x6n : Nat) (x6c : Bool) (x7a : Option (Nat × Nat)) (x7n : Nat) (x7c : Bool) (x10a : Option (Nat × Nat)) (x10n : Nat) (x10c : Bool) (x11a : Option (Nat × Nat)) (x11n : Nat) (x11c : Bool) (x12 : Int) (x13 : Int) (h : AHeap) (nx : Nat) : Option (AV × AHeap × Nat) :=
  goK W J drawK (machOf Try.prog) call Y (keepT 12) lf c12 [1, 1, 1, 1, 1, 1, 0, 1, 0, 0, 1, 0, 0, 1, 0, 9] [n0, n1] (retK (machOf Try.prog) ⟨c12, 158, r12, keepT 12⟩) ⟨158, mkL [(5, (.int .i64 x5)), (6, (.slice x6a x6n x6c)), (7, (.slice x7a x7n x7c)), (10, (.slice x10a x10n x10c)), (11, (.slice x11a x11n x11c)), (12, (.int .i64 x12)), (13, (.int .i64 x13))]⟩ h nx

noncomputable def F12_L2 (call : YldF → CallF) (Y : YldF) (lf : Nat) (n0 : Nat) (n1 : Nat) (x5 : Int) (x6a : Option (Nat × Nat)) (x6n : Nat) (x6c : Bool) (x7a : Option (Nat × Nat)) (x7n : Nat) (x7c : Bool) (x10a : Option (Nat × Nat)) (x10n : Nat) (x10c : Bool) (x11a : Option (Nat × Nat)) (x11n : Nat) (x11c : Bool) (x12 : Int) (x13 : Int) (h : AHeap) (nx : Nat) : Option (AV × AHeap × Nat) := F12_L2' go1 go1 call Y lf n0 n1 x5 x6a x6n x6c x7a x7n x7c x10a x10n x10c x11a x11n x11c x12 x13 h nx

noncomputable def F12_L3' (W J : StepF (AV × AHeap × Nat) → StepF (AV × AHeap × Nat)) (call : YldF → CallF) (Y : YldF) (lf : Nat) (n0 : Nat) (x5 : Int) (x10a : Option (Nat × Nat)) (x10n : Nat) (x10c : Bool) (x11a : Option (Nat × Nat)) (x11n : Nat) (x11c : Bool) (x15 : Int) (h : AHeap) (nx : Nat) : Option (AV × AHeap × Nat) :=
  goK W J drawK (machOf Try.prog) call Y (keepT 12) lf c12 [1, 1, 1, 1, 1, 1, 1, 0, 1, 0, 9] [n0] (retK (machOf Try.prog) ⟨c12, 158, r12, keepT 12⟩) ⟨158, mkL [(5, (.int .i64 x5)), (10, (.slice x10a x10n x10c)), (11, (.slice x11a x11n x11c)), (15, (.int .i64 x15))]⟩ h nx

noncomputable def F12_L3 (call : YldF → CallF) (Y : YldF) (lf : Nat) (n0 : Nat) (x5 : Int) (x10a : Option (Nat × Nat)) (x10n : Nat) (x10c : Bool) (x11a : Option (Nat × Nat)) (x11n : Nat) (x11c : Bool) (x15 : Int) (h : AHeap) (nx : Nat) : Option (AV × AHeap × Nat) := F12_L3' go1 go1 call Y lf n0 x5 x10a x10n x10c x11a x11n x11c x15 h nx

noncomputable def F12_J4' (W J : StepF (AV × AHeap × Nat) → StepF (AV × AHeap × Nat)) (call : YldF → CallF) (Y : YldF) (lf : Nat) (n0 : Nat) (n1 : Nat) (x5 : Int) (x6a : Option (Nat × Nat)) (x6n : Nat) (x6c : Bool) (x7a : Option (Nat × Nat)) (x7n : Nat) (x7c : Bool) (x10a : Option (Nat × Nat)) (x10n : Nat) (x10c : Bool) (x11a : Option (Nat × Nat)) (x11n : Nat) (x11c : Bool) (x12 : Int) (x13 : Int) (h : AHeap) (nx : Nat) : Option (AV × AHeap × Nat) :=
  goK W J drawK (machOf Try.prog) call Y (keepT 12) lf c12 [1, 1, 1, 1, 1, 1, 0, 1, 0, 0, 1, 0, 0, 1, 0, 0, 1] [n0, n1] (retK (machOf Try.prog) ⟨c12, 158, r12, keepT 12⟩) ⟨158, mkL [(5, (.int .i64 x5)), (6, (.slice x6a x6n x6c)), (7, (.slice x7a x7n x7c)), (10, (.slice x10a x10n x10c)), (11, (.slice x11a x11n x11c)), (12, (.int .i64 x12)), (13, (.int .i64 x13))]⟩ h nx

noncomputable def F12_J4 (call : YldF → CallF) (Y : YldF) (lf : Nat) (n0 : Nat) (n1 : Nat) (x5 : Int) (x6a : Option (Nat × Nat)) (x6n : Nat) (x6c : Bool) (x7a : Option (Nat × Nat)) (x7n : Nat) (x7c : Bool) (x10a : Option (Nat × Nat)) (x10n : Nat) (x10c : Bool) (x11a : Option (Nat × Nat)) (x11n : Nat) (x11c : Bool) (x12 : Int) (x13 : Int) (h : AHeap) (nx : Nat) : Option (AV × AHeap × Nat) := F12_J4' go1 go1 call Y lf n0 n1 x5 x6a x6n x6c x7a x7n x7c x10a x10n x10c x11a x11n x11c x12 x13 h nx

noncomputable def F12_J5' (W J : StepF (AV × AHeap × Nat) → StepF (AV × AHeap × Nat)) (call : YldF → CallF) (Y : YldF) (lf : Nat) (n0 : Nat) (n1 : Nat) (x5 : Int) (x6a : Option (Nat × Nat)) (x6n : Nat) (x6c : Bool) (x7a : Option (Nat × Nat)) (x7n : Nat) (x7c : Bool) (x10a : Option (Nat × Nat)) (x10n : Nat) (x10c : Bool) (x11a : Option (Nat × Nat)) (x11n : Nat) (x11c : Bool) (x12 : Int) (x13 : Int) (x14 : Int) (h : AHeap) (nx : Nat) : Option (AV × AHeap × Nat) :=
  goK W J drawK (machOf Try.prog) call Y (keepT 12) lf c12 [1, 1, 1, 1, 1, 1, 0, 1, 0, 0, 1, 0, 0, 1, 0, 0, 1, 0, 0, 1, 1] [n0, n1] (retK (machOf Try.prog) ⟨c12, 158, r12, keepT 12⟩) ⟨158, mkL [(5, (.int .i64 x5)), (6, (.slice x6a x6n x6c)), (7, (.slice x7a x7n x7c)), (10, (.slice x10a x10n x10c)), (11, (.slice x11a x11n x11c)), (12, (.int .i64 x12)), (13, (.int .i64 x13)), (14, (.int .i64 x14))]⟩ h nx

noncomputable def F12_J5 (call : YldF → CallF) (Y : YldF) (lf : Nat) (n0 : Nat) (n1 : Nat) (x5 : Int) (x6a : Option (Nat × Nat)) (x6n : Nat) (x6c : Bool) (x7a : Option (Nat × Nat)) (x7n : Nat) (x7c : Bool) (x10a : Option (Nat × Nat)) (x10n : Nat) (x10c : Bool) (x11a : Option (Nat × Nat)) (x11n : Nat) (x11c : Bool) (x12 : Int) (x13 : Int) (x14 : Int) (h : AHeap) (nx : Nat) : Option (AV × AHeap × Nat) := F12_J5' go1 go1 call Y lf n0 n1 x5 x6a x6n x6c x7a x7n x7c x10a x10n x10c x11a x11n x11c x12 x13 x14 h nx

noncomputable def F12_J6' (W J : StepF (AV × AHeap × Nat) → StepF (AV × AHeap × Nat)) (call : YldF → CallF) (Y : YldF) (lf : Nat) (n0 : Nat) (n1 : Nat) (x5 : Int) (x6a : Option (Nat × Nat)) (x6n : Nat) (x6c : Bool) (x7a : Option (Nat × Nat)) (x7n : Nat) (x7c : Bool) (x10a : Option (Nat × Nat)) (x10n : Nat) (x10c : Bool) (x11a : Option (Nat × Nat)) (x11n : Nat) (x11c : Bool) (x12 : Int) (x13 : Int) (x14 : Int) (h : AHeap) (nx : Nat) : Option (AV × AHeap × Nat) :=
  goK W J drawK (machOf Try.prog) call Y (keepT 12) lf c12 [1, 1, 1, 1, 1, 1, 0, 1, 0, 0, 1, 0, 0, 1, 0, 0, 1, 0, 0, 1, 1, 1] [n0, n1] (retK (machOf Try.prog) ⟨c12, 158, r12, keepT 12⟩) ⟨158, mkL [(5, (.int .i64 x5)), (6, (.slice x6a x6n x6c)), (7, (.slice x7a x7n x7c)), (10, (.slice x10a x10n x10c)), (11, (.slice x11a x11n x11c)), (12, (.int .i64 x12)), (13, (.int .i64 x13)), (14, (.int .i64 x14))]⟩ h nx

noncomputable def F12_J6 (call : YldF → CallF) (Y : YldF) (lf : Nat) (n0 : Nat) (n1 : Nat) (x5 : Int) (x6a : Option (Nat × Nat)) (x6n : Nat) (x6c : Bool) (x7a : Option (Nat × Nat)) (x7n : Nat) (x7c : Bool) (x10a : Option (Nat × Nat)) (x10n : Nat) (x10c : Bool) (x11a : Option (Nat × Nat)) (x11n : Nat) (x11c : Bool) (x12 : Int) (x13 : Int) (x14 : Int) (h : AHeap) (nx : Nat) : Option (AV × AHeap × Nat) := F12_J6' go1 go1 call Y lf n0 n1 x5 x6a x6n x6c x7a x7n x7c x10a x10n x10c x11a x11n x11c x12 x13 x14 h nx

theorem F12_L1_eq' (J : StepF (AV × AHeap × Nat) → StepF (AV × AHeap × Nat)) (call : YldF → CallF) (Y : YldF) (lf : Nat) (n0 : Nat) (x5 : Int) (x6a : Option (Nat × Nat)) (x6n : Nat) (x6c : Bool) (x7a : Option (Nat × Nat)) (x7n : Nat) (x7c : Bool) (x10a : Option (Nat × Nat)) (x10n : Nat) (x10c : Bool) (x11a : Option (Nat × Nat)) (x11n : Nat) (x11c : Bool) (x12 : Int) (h : AHeap) (nx : Nat) : F12_L1' go1 J call Y lf (n0 + 1) x5 x6a x6n x6c x7a x7n x7c x10a x10n x10c x11a x11n x11c x12 h nx =
    if (decide ((x12 : Int) < ((x6n : Nat) : Int))) = true then
    (F12_L2' J J call Y lf n0 lf x5 x6a x6n x6c x7a x7n x7c x10a x10n x10c x11a x11n x11c x12 0 h (nx + 5))
    else
    (F12_L3' J J call Y lf lf x5 x10a x10n x10c x11a x11n x11c 0 h (nx + 5)) := by kernel_rfl

theorem F12_L1_eq (call : YldF → CallF) (Y : YldF) (lf : Nat) (n0 : Nat) (x5 : Int) (x6a : Option (Nat × Nat)) (x6n : Nat) (x6c : Bool) (x7a : Option (Nat × Nat)) (x7n : Nat) (x7c : Bool) (x10a : Option (Nat × Nat)) (x10n : Nat) (x10c : Bool) (x11a : Option (Nat × Nat)) (x11n : Nat) (x11c : Bool) (x12 : Int) (h : AHeap) (nx : Nat) : F12_L1 call Y lf (n0 + 1) x5 x6a x6n x6c x7a x7n x7c x10a x10n x10c x11a x11n x11c x12 h nx =
    if (decide ((x12 : Int) < ((x6n : Nat) : Int))) = true then
    (F12_L2 call Y lf n0 lf x5 x6a x6n x6c x7a x7n x7c x10a x10n x10c x11a x11n x11c x12 0 h (nx + 5))
    else
    (F12_L3 call Y lf lf x5 x10a x10n x10c x11a x11n x11c 0 h (nx + 5)) := F12_L1_eq' go1 call Y lf n0 x5 x6a x6n x6c x7a x7n x7c x10a x10n x10c x11a x11n x11c x12 h nx

theorem F12_L1_zero (call : YldF → CallF) (Y : YldF) (lf : Nat) (x5 : Int) (x6a : Option (Nat × Nat)) (x6n : Nat) (x6c : Bool) (x7a : Option (Nat × Nat)) (x7n : Nat) (x7c : Bool) (x10a : Option (Nat × Nat)) (x10n : Nat) (x10c : Bool) (x11a : Option (Nat × Nat)) (x11n : Nat) (x11c : Bool) (x12 : Int) (h : AHeap) (nx : Nat) : F12_L1 call Y lf 0 x5 x6a x6n x6c x7a x7n x7c x10a x10n x10c x11a x11n x11c x12 h nx = none := by kernel_rfl

theorem F12_L2_eq' (J : StepF (AV × AHeap × Nat) → StepF (AV × AHeap × Nat)) (call : YldF → CallF) (Y : YldF) (lf : Nat) (n0 : Nat) (n1 : Nat) (x5 : Int) (x6a : Option (Nat × Nat)) (x6n : Nat) (x6c : Bool) (x7a : Option (Nat × Nat)) (x7n : Nat) (x7c : Bool) (x10a : Option (Nat × Nat)) (x10n : Nat) (x10c : Bool) (x11a : Option (Nat × Nat)) (x11n : Nat) (x11c : Bool) (x12 : Int) (x13 : Int) (h : AHeap) (nx : Nat) : F12_L2' go1 J call Y lf n0 (n1 + 1) x5 x6a x6n x6c x7a x7n x7c x10a x10n x10c x11a x11n x11c x12 x13 h nx =
    (x6a).bind fun p1 =>
    if 0 ≤ (x12 : Int) ∧ x12 < ((x6n : Nat) : Int) then
    ((ldA h p1.1 ((p1.2 + Int.toNat x12 * 3) + 2)).bind fun v2 =>
    (asI .i64 v2).bind fun n3 =>
    if (decide ((x13 : Int) < n3)) = true then
    ((x7a).bind fun p4 =>
    if 0 ≤ (x12 : Int) ∧ x12 < ((x7n : Nat) : Int) then
    ((ldA h p4.1 (p4.2 + Int.toNat x12 * 3)).bind fun v5 =>
    (asI .i64 v5).bind fun n6 =>
    if ((n6 : Int) == 0) = true then
    (F12_J4' J J call Y lf n0 n1 x5 x6a x6n x6c x7a x7n x7c x10a x10n x10c x11a x11n x11c x12 x13 h (nx + 15))
    else
    (F12_L1' J J call Y lf n0 x5 x6a x6n x6c x7a x7n x7c x10a x10n x10c x11a x11n x11c (wrapA .i64 (x12 + 1)) h (nx + 18)))
    else none)
    else
    (F12_L1' J J call Y lf n0 x5 x6a x6n x6c x7a x7n x7c x10a x10n x10c x11a x11n x11c (wrapA .i64 (x12 + 1)) h (nx + 18)))
    else none := by kernel_rfl

theorem F12_L2_eq (call : YldF → CallF) (Y : YldF) (lf : Nat) (n0 : Nat) (n1 : Nat) (x5 : Int) (x6a : Option (Nat × Nat)) (x6n : Nat) (x6c : Bool) (x7a : Option (Nat × Nat)) (x7n : Nat) (x7c : Bool) (x10a : Option (Nat × Nat)) (x10n : Nat) (x10c : Bool) (x11a : Option (Nat × Nat)) (x11n : Nat) (x11c : Bool) (x12 : Int) (x13 : Int) (h : AHeap) (nx : Nat) : F12_L2 call Y lf n0 (n1 + 1) x5 x6a x6n x6c x7a x7n x7c x10a x10n x10c x11a x11n x11c x12 x13 h nx =
    (x6a).bind fun p1 =>
    if 0 ≤ (x12 : Int) ∧ x12 < ((x6n : Nat) : Int) then
    ((ldA h p1.1 ((p1.2 + Int.toNat x12 * 3) + 2)).bind fun v2 =>
    (asI .i64 v2).bind fun n3 =>
    if (decide ((x13 : Int) < n3)) = true then
    ((x7a).bind fun p4 =>
    if 0 ≤ (x12 : Int) ∧ x12 < ((x7n : Nat) : Int) then
    ((ldA h p4.1 (p4.2 + Int.toNat x12 * 3)).bind fun v5 =>
    (asI .i64 v5).bind fun n6 =>
    if ((n6 : Int) == 0) = true then
    (F12_J4 call Y lf n0 n1 x5 x6a x6n x6c x7a x7n x7c x10a x10n x10c x11a x11n x11c x12 x13 h (nx + 15))
    else
    (F12_L1 call Y lf n0 x5 x6a x6n x6c x7a x7n x7c x10a x10n x10c x11a x11n x11c (wrapA .i64 (x12 + 1)) h (nx + 18)))
    else none)
    else
    (F12_L1 call Y lf n0 x5 x6a x6n x6c x7a x7n x7c x10a x10n x10c x11a x11n x11c (wrapA .i64 (x12 + 1)) h (nx + 18)))
    else none := F12_L2_eq' go1 call Y lf n0 n1 x5 x6a x6n x6c x7a x7n x7c x10a x10n x10c x11a x11n x11c x12 x13 h nx

theorem F12_L2_zero (call : YldF → CallF) (Y : YldF) (lf : Nat) (n0 : Nat) (x5 : Int) (x6a : Option (Nat × Nat)) (x6n : Nat) (x6c : Bool) (x7a : Option (Nat × Nat)) (x7n : Nat) (x7c : Bool) (x10a : Option (Nat × Nat)) (x10n : Nat) (x10c : Bool) (x11a : Option (Nat × Nat)) (x11n : Nat) (x11c : Bool) (x12 : Int) (x13 : Int) (h : AHeap) (nx : Nat) : F12_L2 call Y lf n0 0 x5 x6a x6n x6c x7a x7n x7c x10a x10n x10c x11a x11n x11c x12 x13 h nx = none := by kernel_rfl

theorem F12_L3_eq' (J : StepF (AV × AHeap × Nat) → StepF (AV × AHeap × Nat)) (call : YldF → CallF) (Y : YldF) (lf : Nat) (n0 : Nat) (x5 : Int) (x10a : Option (Nat × Nat)) (x10n : Nat) (x10c : Bool) (x11a : Option (Nat × Nat)) (x11n : Nat) (x11c : Bool) (x15 : Int) (h : AHeap) (nx : Nat) : F12_L3' go1 J call Y lf (n0 + 1) x5 x10a x10n x10c x11a x11n x11c x15 h nx =
    if (decide ((x15 : Int) < x5)) = true then
    ((x10a).bind fun p1 =>
    if 0 ≤ (x15 : Int) ∧ x15 < ((x10n : Nat) : Int) then
    ((ldA h p1.1 (p1.2 + Int.toNat x15 * 1)).bind fun v2 =>
    (asB v2).bind fun t3 =>
    if t3 = true then
    (let h4 := AHeap.put h (nx + 10) (some ⟨[(.int .i64 2), (.int .i64 x15), (.int .i64 1)], 3, true⟩)
    (srcS h4 (some ((nx + 10), 0)) 1 3).bind fun q5 =>
    (appD h4 x11a x11n x11c 3 24 (nx + 11) q5).bind fun e6 =>
    let h7 := AHeap.puts h4 e6.sets
    F12_L3' J J call Y lf n0 x5 x10a x10n x10c e6.a e6.n e6.c (wrapA .i64 (x15 + 1)) h7 (nx + 16))
    else
    (F12_L3' J J call Y lf n0 x5 x10a x10n x10c x11a x11n x11c (wrapA .i64 (x15 + 1)) h (nx + 10)))
    else none)
    else
    (let h8 := AHeap.put h (nx + 6) (some ⟨[(.int .i64 3), (.int .i64 0), (.int .i64 0), (.int .i64 3), (.int .i64 0), (.int .i64 0)], 3, true⟩)
    (srcS h8 (some ((nx + 6), 0)) 2 3).bind fun q9 =>
    (appD h8 x11a x11n x11c 3 24 (nx + 7) q9).bind fun e10 =>
    let h11 := AHeap.puts h8 e10.sets
    (call Y 17 [(.int .i64 x5), (.slice e10.a e10.n e10.c)] h11 (nx + 19)).bind fun r12 =>
    (asTup 3 r12.1).bind fun d13 =>
    (asSl (d13.getD 0 .bad)).bind fun s14 =>
    (asSl (d13.getD 1 .bad)).bind fun s15 =>
    (asI .i64 (d13.getD 2 .bad)).bind fun n16 =>
    (call Y 29 [(.int .i64 x5), (.slice s15.1 s15.2.1 s15.2.2)] r12.2.1 (r12.2.2 + 8)).bind fun r17 =>
    (asTup 2 r17.1).bind fun d18 =>
    (asSl (d18.getD 0 .bad)).bind fun s19 =>
    (asI .i64 (d18.getD 1 .bad)).bind fun n20 =>
    if ((n16 : Int) == 0) = true then
    (if ((n20 : Int) == 0) = true then
    (if ((((s14.2.1 : Nat) : Int) : Int) == ((e10.n : Nat) : Int)) = true then
    ((s14.1).bind fun p21 =>
    if 0 ≤ ((wrapA .i64 (((s14.2.1 : Nat) : Int) - 1)) : Int) ∧ (wrapA .i64 (((s14.2.1 : Nat) : Int) - 1)) < ((s14.2.1 : Nat) : Int) then
    ((ldA r17.2.1 p21.1 ((p21.2 + Int.toNat (wrapA .i64 (((s14.2.1 : Nat) : Int) - 1)) * 3) + 2)).bind fun v22 =>
    (asI .i64 v22).bind fun n23 =>
    if ((n23 : Int) == x5) = true then
    (some ((.bool ((((s19.2.1 : Nat) : Int) : Int) == 0)), r17.2.1, (r17.2.2 + 30)))
    else
    (some ((.bool false), r17.2.1, (r17.2.2 + 30))))
    else none)
    else
    (some ((.bool false), r17.2.1, (r17.2.2 + 30))))
    else
    (some ((.bool false), r17.2.1, (r17.2.2 + 30))))
    else
    (some ((.bool false), r17.2.1, (r17.2.2 + 30)))) := by kernel_rfl

theorem F12_L3_eq (call : YldF → CallF) (Y : YldF) (lf : Nat) (n0 : Nat) (x5 : Int) (x10a : Option (Nat × Nat)) (x10n : Nat) (x10c : Bool) (x11a : Option (Nat × Nat)) (x11n : Nat) (x11c : Bool) (x15 : Int) (h : AHeap) (nx : Nat) : F12_L3 call Y lf (n0 + 1) x5 x10a x10n x10c x11a x11n x11c x15 h nx =
    if (decide ((x15 : Int) < x5)) = true then
    ((x10a).bind fun p1 =>
    if 0 ≤ (x15 : Int) ∧ x15 < ((x10n : Nat) : Int) then
    ((ldA h p1.1 (p1.2 + Int.toNat x15 * 1)).bind fun v2 =>
    (asB v2).bind fun t3 =>
    if t3 = true then
    (let h4 := AHeap.put h (nx + 10) (some ⟨[(.int .i64 2), (.int .i64 x15), (.int .i64 1)], 3, true⟩)
    (srcS h4 (some ((nx + 10), 0)) 1 3).bind fun q5 =>
    (appD h4 x11a x11n x11c 3 24 (nx + 11) q5).bind fun e6 =>
    let h7 := AHeap.puts h4 e6.sets
    F12_L3 call Y lf n0 x5 x10a x10n x10c e6.a e6.n e6.c (wrapA .i64 (x15 + 1)) h7 (nx + 16))
    else
    (F12_L3 call Y lf n0 x5 x10a x10n x10c x11a x11n x11c (wrapA .i64 (x15 + 1)) h (nx + 10)))
    else none)
    else
    (let h8 := AHeap.put h (nx + 6) (some ⟨[(.int .i64 3), (.int .i64 0), (.int .i64 0), (.int .i64 3), (.int .i64 0), (.int .i64 0)], 3, true⟩)
    (srcS h8 (some ((nx + 6), 0)) 2 3).bind fun q9 =>
    (appD h8 x11a x11n x11c 3 24 (nx + 7) q9).bind fun e10 =>
    let h11 := AHeap.puts h8 e10.sets
    (call Y 17 [(.int .i64 x5), (.slice e10.a e10.n e10.c)] h11 (nx + 19)).bind fun r12 =>
    (asTup 3 r12.1).bind fun d13 =>
    (asSl (d13.getD 0 .bad)).bind fun s14 =>
    (asSl (d13.getD 1 .bad)).bind fun s15 =>
    (asI .i64 (d13.getD 2 .bad)).bind fun n16 =>
    (call Y 29 [(.int .i64 x5), (.slice s15.1 s15.2.1 s15.2.2)] r12.2.1 (r12.2.2 + 8)).bind fun r17 =>
    (asTup 2 r17.1).bind fun d18 =>
    (asSl (d18.getD 0 .bad)).bind fun s19 =>
    (asI .i64 (d18.getD 1 .bad)).bind fun n20 =>
    if ((n16 : Int) == 0) = true then
    (if ((n20 : Int) == 0) = true then
    (if ((((s14.2.1 : Nat) : Int) : Int) == ((e10.n : Nat) : Int)) = true then
    ((s14.1).bind fun p21 =>
    if 0 ≤ ((wrapA .i64 (((s14.2.1 : Nat) : Int) - 1)) : Int) ∧ (wrapA .i64 (((s14.2.1 : Nat) : Int) - 1)) < ((s14.2.1 : Nat) : Int) then
    ((ldA r17.2.1 p21.1 ((p21.2 + Int.toNat (wrapA .i64 (((s14.2.1 : Nat) : Int) - 1)) * 3) + 2)).bind fun v22 =>
    (asI .i64 v22).bind fun n23 =>
    if ((n23 : Int) == x5) = true then
    (some ((.bool ((((s19.2.1 : Nat) : Int) : Int) == 0)), r17.2.1, (r17.2.2 + 30)))
    else
    (some ((.bool false), r17.2.1, (r17.2.2 + 30))))
    else none)
    else
    (some ((.bool false), r17.2.1, (r17.2.2 + 30))))
    else
    (some ((.bool false), r17.2.1, (r17.2.2 + 30))))
    else
    (some ((.bool false), r17.2.1, (r17.2.2 + 30)))) := F12_L3_eq' go1 call Y lf n0 x5 x10a x10n x10c x11a x11n x11c x15 h nx

theorem F12_L3_zero (call : YldF → CallF) (Y : YldF) (lf : Nat) (x5 : Int) (x10a : Option (Nat × Nat)) (x10n : Nat) (x10c : Bool) (x11a : Option (Nat × Nat)) (x11n : Nat) (x11c : Bool) (x15 : Int) (h : AHeap) (nx : Nat) : F12_L3 call Y lf 0 x5 x10a x10n x10c x11a x11n x11c x15 h nx = none := by kernel_rfl

theorem F12_J4_eq' (J : StepF (AV × AHeap × Nat) → StepF (AV × AHeap × Nat)) (call : YldF → CallF) (Y : YldF) (lf : Nat) (n0 : Nat) (n1 : Nat) (x5 : Int) (x6a : Option (Nat × Nat)) (x6n : Nat) (x6c : Bool) (x7a : Option (Nat × Nat)) (x7n : Nat) (x7c : Bool) (x10a : Option (Nat × Nat)) (x10n : Nat) (x10c : Bool) (x11a : Option (Nat × Nat)) (x11n : Nat) (x11c : Bool) (x12 : Int) (x13 : Int) (h : AHeap) (nx : Nat) : F12_J4' go1 J call Y lf n0 n1 x5 x6a x6n x6c x7a x7n x7c x10a x10n x10c x11a x11n x11c x12 x13 h nx =
    (x6a).bind fun p1 =>
    if 0 ≤ (x12 : Int) ∧ x12 < ((x6n : Nat) : Int) then
    ((ldA h p1.1 ((p1.2 + Int.toNat x12 * 3) + 1)).bind fun v2 =>
    (asI .i64 v2).bind fun n3 =>
    (x6a).bind fun p4 =>
    if 0 ≤ (x12 : Int) ∧ x12 < ((x6n : Nat) : Int) then
    ((ldA h p4.1 (p4.2 + Int.toNat x12 * 3)).bind fun v5 =>
    (asI .i64 v5).bind fun n6 =>
    if ((n6 : Int) == 1) = true then
    ((x7a).bind fun p7 =>
    if 0 ≤ (x12 : Int) ∧ x12 < ((x7n : Nat) : Int) then
    ((ldA h p7.1 ((p7.2 + Int.toNat x12 * 3) + 1)).bind fun v8 =>
    (asI .i64 v8).bind fun n9 =>
    F12_J5' J J call Y lf n0 n1 x5 x6a x6n x6c x7a x7n x7c x10a x10n x10c x11a x11n x11c x12 x13 (wrapA .i64 (n9 + x13)) h (nx + 22))
    else none)
    else
    (F12_J5' J J call Y lf n0 n1 x5 x6a x6n x6c x7a x7n x7c x10a x10n x10c x11a x11n x11c x12 x13 (wrapA .i64 (n3 + x13)) h (nx + 14)))
    else none)
    else none := by kernel_rfl

theorem F12_J4_eq (call : YldF → CallF) (Y : YldF) (lf : Nat) (n0 : Nat) (n1 : Nat) (x5 : Int) (x6a : Option (Nat × Nat)) (x6n : Nat) (x6c : Bool) (x7a : Option (Nat × Nat)) (x7n : Nat) (x7c : Bool) (x10a : Option (Nat × Nat)) (x10n : Nat) (x10c : Bool) (x11a : Option (Nat × Nat)) (x11n : Nat) (x11c : Bool) (x12 : Int) (x13 : Int) (h : AHeap) (nx : Nat) : F12_J4 call Y lf n0 n1 x5 x6a x6n x6c x7a x7n x7c x10a x10n x10c x11a x11n x11c x12 x13 h nx =
    (x6a).bind fun p1 =>
    if 0 ≤ (x12 : Int) ∧ x12 < ((x6n : Nat) : Int) then
    ((ldA h p1.1 ((p1.2 + Int.toNat x12 * 3) + 1)).bind fun v2 =>
    (asI .i64 v2).bind fun n3 =>
    (x6a).bind fun p4 =>
    if 0 ≤ (x12 : Int) ∧ x12 < ((x6n : Nat) : Int) then
    ((ldA h p4.1 (p4.2 + Int.toNat x12 * 3)).bind fun v5 =>
    (asI .i64 v5).bind fun n6 =>
    if ((n6 : Int) == 1) = true then
    ((x7a).bind fun p7 =>
    if 0 ≤ (x12 : Int) ∧ x12 < ((x7n : Nat) : Int) then
    ((ldA h p7.1 ((p7.2 + Int.toNat x12 * 3) + 1)).bind fun v8 =>
    (asI .i64 v8).bind fun n9 =>
    F12_J5 call Y lf n0 n1 x5 x6a x6n x6c x7a x7n x7c x10a x10n x10c x11a x11n x11c x12 x13 (wrapA .i64 (n9 + x13)) h (nx + 22))
    else none)
    else
    (F12_J5 call Y lf n0 n1 x5 x6a x6n x6c x7a x7n x7c x10a x10n x10c x11a x11n x11c x12 x13 (wrapA .i64 (n3 + x13)) h (nx + 14)))
    else none)
    else none := F12_J4_eq' go1 call Y lf n0 n1 x5 x6a x6n x6c x7a x7n x7c x10a x10n x10c x11a x11n x11c x12 x13 h nx

theorem F12_J5_eq' (J : StepF (AV × AHeap × Nat) → StepF (AV × AHeap × Nat)) (call : YldF → CallF) (Y : YldF) (lf : Nat) (n0 : Nat) (n1 : Nat) (x5 : Int) (x6a : Option (Nat × Nat)) (x6n : Nat) (x6c : Bool) (x7a : Option (Nat × Nat)) (x7n : Nat) (x7c : Bool) (x10a : Option (Nat × Nat)) (x10n : Nat) (x10c : Bool) (x11a : Option (Nat × Nat)) (x11n : Nat) (x11c : Bool) (x12 : Int) (x13 : Int) (x14 : Int) (h : AHeap) (nx : Nat) : F12_J5' go1 J call Y lf n0 n1 x5 x6a x6n x6c x7a x7n x7c x10a x10n x10c x11a x11n x11c x12 x13 x14 h nx =
    if (decide ((x14 : Int) < 0)) = true then
    (some ((.bool false), h, (nx + 8)))
    else
    (if (decide ((x14 : Int) ≥ x5)) = true then
    (some ((.bool false), h, (nx + 8)))
    else
    (F12_J6' J J call Y lf n0 n1 x5 x6a x6n x6c x7a x7n x7c x10a x10n x10c x11a x11n x11c x12 x13 x14 h (nx + 7))) := by kernel_rfl

theorem F12_J5_eq (call : YldF → CallF) (Y : YldF) (lf : Nat) (n0 : Nat) (n1 : Nat) (x5 : Int) (x6a : Option (Nat × Nat)) (x6n : Nat) (x6c : Bool) (x7a : Option (Nat × Nat)) (x7n : Nat) (x7c : Bool) (x10a : Option (Nat × Nat)) (x10n : Nat) (x10c : Bool) (x11a : Option (Nat × Nat)) (x11n : Nat) (x11c : Bool) (x12 : Int) (x13 : Int) (x14 : Int) (h : AHeap) (nx : Nat) : F12_J5 call Y lf n0 n1 x5 x6a x6n x6c x7a x7n x7c x10a x10n x10c x11a x11n x11c x12 x13 x14 h nx =
    if (decide ((x14 : Int) < 0)) = true then
    (some ((.bool false), h, (nx + 8)))
    else
    (if (decide ((x14 : Int) ≥ x5)) = true then
    (some ((.bool false), h, (nx + 8)))
    else
    (F12_J6 call Y lf n0 n1 x5 x6a x6n x6c x7a x7n x7c x10a x10n x10c x11a x11n x11c x12 x13 x14 h (nx + 7))) := F12_J5_eq' go1 call Y lf n0 n1 x5 x6a x6n x6c x7a x7n x7c x10a x10n x10c x11a x11n x11c x12 x13 x14 h nx

theorem F12_J6_eq' (J : StepF (AV × AHeap × Nat) → StepF (AV × AHeap × Nat)) (call : YldF → CallF) (Y : YldF) (lf : Nat) (n0 : Nat) (n1 : Nat) (x5 : Int) (x6a : Option (Nat × Nat)) (x6n : Nat) (x6c : Bool) (x7a : Option (Nat × Nat)) (x7n : Nat) (x7c : Bool) (x10a : Option (Nat × Nat)) (x10n : Nat) (x10c : Bool) (x11a : Option (Nat × Nat)) (x11n : Nat) (x11c : Bool) (x12 : Int) (x13 : Int) (x14 : Int) (h : AHeap) (nx : Nat) : F12_J6' go1 J call Y lf n0 n1 x5 x6a x6n x6c x7a x7n x7c x10a x10n x10c x11a x11n x11c x12 x13 x14 h nx =
    (x6a).bind fun p1 =>
    if 0 ≤ (x12 : Int) ∧ x12 < ((x6n : Nat) : Int) then
    ((ldA h p1.1 (p1.2 + Int.toNat x12 * 3)).bind fun v2 =>
    (asI .i64 v2).bind fun n3 =>
    (x10a).bind fun p4 =>
    if 0 ≤ (x14 : Int) ∧ x14 < ((x10n : Nat) : Int) then
    ((stA h p4.1 (p4.2 + Int.toNat x14 * 1) (.bool ((n3 : Int) == 1)) 1).bind fun b5 =>
    let h6 := AHeap.put h p4.1 (some b5)
    F12_L2' J J call Y lf n0 n1 x5 x6a x6n x6c x7a x7n x7c x10a x10n x10c x11a x11n x11c x12 (wrapA .i64 (x13 + 1)) h6 (nx + 13))
    else none)
    else none := by kernel_rfl

theorem F12_J6_eq (call : YldF → CallF) (Y : YldF) (lf : Nat) (n0 : Nat) (n1 : Nat) (x5 : Int) (x6a : Option (Nat × Nat)) (x6n : Nat) (x6c : Bool) (x7a : Option (Nat × Nat)) (x7n : Nat) (x7c : Bool) (x10a : Option (Nat × Nat)) (x10n : Nat) (x10c : Bool) (x11a : Option (Nat × Nat)) (x11n : Nat) (x11c : Bool) (x12 : Int) (x13 : Int) (x14 : Int) (h : AHeap) (nx : Nat) : F12_J6 call Y lf n0 n1 x5 x6a x6n x6c x7a x7n x7c x10a x10n x10c x11a x11n x11c x12 x13 x14 h nx =
    (x6a).bind fun p1 =>
    if 0 ≤ (x12 : Int) ∧ x12 < ((x6n : Nat) : Int) then
    ((ldA h p1.1 (p1.2 + Int.toNat x12 * 3)).bind fun v2 =>
    (asI .i64 v2).bind fun n3 =>
    (x10a).bind fun p4 =>
    if 0 ≤ (x14 : Int) ∧ x14 < ((x10n : Nat) : Int) then
    ((stA h p4.1 (p4.2 + Int.toNat x14 * 1) (.bool ((n3 : Int) == 1)) 1).bind fun b5 =>
    let h6 := AHeap.put h p4.1 (some b5)
    F12_L2 call Y lf n0 n1 x5 x6a x6n x6c x7a x7n x7c x10a x10n x10c x11a x11n x11c x12 (wrapA .i64 (x13 + 1)) h6 (nx + 13))
    else none)
    else none := F12_J6_eq' go1 call Y lf n0 n1 x5 x6a x6n x6c x7a x7n x7c x10a x10n x10c x11a x11n x11c x12 x13 x14 h nx

theorem F12_eq' (J : StepF (AV × AHeap × Nat) → StepF (AV × AHeap × Nat)) (n : Nat) (Y : YldF) (x0a : Option (Nat × Nat)) (x0n : Nat) (x0c : Bool) (x1 : Int) (h : AHeap) (nx : Nat) : rootJ J Try.prog keepT (callP Try.prog keepT n) Y n 12 [(.slice x0a x0n x0c), (.int .i64 x1)] h nx =
    ((callP Try.prog keepT n) Y 15 [(.int .i64 x1), (.int .i64 100)] h (nx + 5)).bind fun r1 =>
    (asI .i64 r1.1).bind fun n2 =>
    ((callP Try.prog keepT n) Y 16 [(.slice x0a x0n x0c), (.int .i64 40), (.int .i64 (wrapA .i64 (1 + n2)))] r1.2.1 (r1.2.2 + 12)).bind fun r3 =>
    (asTup 4 r3.1).bind fun d4 =>
    (asSl (d4.getD 0 .bad)).bind fun s5 =>
    (asSl (d4.getD 1 .bad)).bind fun s6 =>
    (asSl (d4.getD 2 .bad)).bind fun s7 =>
    (asB (d4.getD 3 .bad)).bind fun t8 =>
    if (!t8) = true then
    (some ((.bool false), r3.2.1, (r3.2.2 + 3)))
    else
    (if (decide (0 ≤ ((wrapA .i64 (1 + n2)) : Int)) && decide (((wrapA .i64 (1 + n2)) : Int) ≤ (wrapA .i64 (1 + n2))) && decide (((1 : Nat) : Int) * (wrapA .i64 (1 + n2)) ≤ 281474976710656) && decide (((wrapA .i64 (1 + n2)) : Int) ≤ 9223372036854775807) && 1 != 0) = true then
    (let h9 := AHeap.put r3.2.1 (r3.2.2 + 3) (some ⟨(madeA [(.bool false)] (Int.toNat (wrapA .i64 (1 + n2)) * 1)), 1, true⟩)
    (srcS h9 s5.1 s5.2.1 3).bind fun q10 =>
    (appD h9 none 0 false 3 24 (r3.2.2 + 6) q10).bind fun e11 =>
    let h12 := AHeap.puts h9 e11.sets
    F12_L1' J J (callP Try.prog keepT n) Y n n (wrapA .i64 (1 + n2)) s5.1 s5.2.1 s5.2.2 s6.1 s6.2.1 s6.2.2 (some ((r3.2.2 + 3), 0)) (Int.toNat (wrapA .i64 (1 + n2))) ((wrapA .i64 (1 + n2)) == (wrapA .i64 (1 + n2))) e11.a e11.n e11.c 0 h12 (r3.2.2 + 9))
    else none) := by kernel_rfl

/-- quickset/quicksetkeep.GiveBack -/
theorem F12_eq (n : Nat) (Y : YldF) (x0a : Option (Nat × Nat)) (x0n : Nat) (x0c : Bool) (x1 : Int) (h : AHeap) (nx : Nat) : callP Try.prog keepT (n + 1) Y 12 [(.slice x0a x0n x0c), (.int .i64 x1)] h nx =
    ((callP Try.prog keepT n) Y 15 [(.int .i64 x1), (.int .i64 100)] h (nx + 5)).bind fun r1 =>
    (asI .i64 r1.1).bind fun n2 =>
    ((callP Try.prog keepT n) Y 16 [(.slice x0a x0n x0c), (.int .i64 40), (.int .i64 (wrapA .i64 (1 + n2)))] r1.2.1 (r1.2.2 + 12)).bind fun r3 =>
    (asTup 4 r3.1).bind fun d4 =>
    (asSl (d4.getD 0 .bad)).bind fun s5 =>
    (asSl (d4.getD 1 .bad)).bind fun s6 =>
    (asSl (d4.getD 2 .bad)).bind fun s7 =>
    (asB (d4.getD 3 .bad)).bind fun t8 =>
    if (!t8) = true then
    (some ((.bool false), r3.2.1, (r3.2.2 + 3)))
    else
    (if (decide (0 ≤ ((wrapA .i64 (1 + n2)) : Int)) && decide (((wrapA .i64 (1 + n2)) : Int) ≤ (wrapA .i64 (1 + n2))) && decide (((1 : Nat) : Int) * (wrapA .i64 (1 + n2)) ≤ 281474976710656) && decide (((wrapA .i64 (1 + n2)) : Int) ≤ 9223372036854775807) && 1 != 0) = true then
    (let h9 := AHeap.put r3.2.1 (r3.2.2 + 3) (some ⟨(madeA [(.bool false)] (Int.toNat (wrapA .i64 (1 + n2)) * 1)), 1, true⟩)
    (srcS h9 s5.1 s5.2.1 3).bind fun q10 =>
    (appD h9 none 0 false 3 24 (r3.2.2 + 6) q10).bind fun e11 =>
    let h12 := AHeap.puts h9 e11.sets
    F12_L1 (callP Try.prog keepT n) Y n n (wrapA .i64 (1 + n2)) s5.1 s5.2.1 s5.2.2 s6.1 s6.2.1 s6.2.2 (some ((r3.2.2 + 3), 0)) (Int.toNat (wrapA .i64 (1 + n2))) ((wrapA .i64 (1 + n2)) == (wrapA .i64 (1 + n2))) e11.a e11.n e11.c 0 h12 (r3.2.2 + 9))
    else none) := F12_eq' go1 n Y x0a x0n x0c x1 h nx

noncomputable def c13 : Code := (Try.f13.body).getD .skip

noncomputable def r13 : List ResultVar := Try.f13.results.toList

noncomputable def F13_J1' (W J : StepF (AV × AHeap × Nat) → StepF (AV × AHeap × Nat)) (call : YldF → CallF) (Y : YldF) (lf : Nat) (x15 : Int) (x16 : Int) (x18a : Option (Nat × Nat)) (x18n : Nat) (x18c : Bool) (h : AHeap) (nx : Nat) : Option (AV × AHeap × Nat) :=
  goK W J drawK (machOf Try.prog) call Y (keepT 13) lf c13 [1, 1, 1, 1, 1, 1, 1, 1, 1, 1] [] (retK (machOf Try.prog) ⟨c13, 112, r13, keepT 13⟩) ⟨112, mkL [(15, (.int .i64 x15)), (16, (.int .i64 x16)), (18, (.slice x18a x18n x18c))]⟩ h nx

noncomputable def F13_J1 (call : YldF → CallF) (Y : YldF) (lf : Nat) (x15 : Int) (x16 : Int) (x18a : Option (Nat × Nat)) (x18n : Nat) (x18c : Bool) (h : AHeap) (nx : Nat) : Option (AV × AHeap × Nat) := F13_J1' go1 go1 call Y lf x15 x16 x18a x18n x18c h nx

theorem F13_J1_eq' (J : StepF (AV × AHeap × Nat) → StepF (AV × AHeap × Nat)) (call : YldF → CallF) (Y : YldF) (lf : Nat) (x15 : Int) (x16 : Int) (x18a : Option (Nat × Nat)) (x18n : Nat) (x18c : Bool) (h : AHeap) (nx : Nat) : F13_J1' go1 J call Y lf x15 x16 x18a x18n x18c h nx =
    (x18a).bind fun p1 =>
    if 0 ≤ ((wrapA .i64 (((x18n : Nat) : Int) - 1)) : Int) ∧ (wrapA .i64 (((x18n : Nat) : Int) - 1)) < ((x18n : Nat) : Int) then
    ((ldR h p1.1 (p1.2 + Int.toNat (wrapA .i64 (((x18n : Nat) : Int) - 1)) * 3) 3).bind fun l2 =>
    (asAgg 3 (AV.agg l2)).bind fun d3 =>
    (asI .i64 (d3.getD 0 .bad)).bind fun n4 =>
    (asI .i64 (d3.getD 1 .bad)).bind fun n5 =>
    (asI .i64 (d3.getD 2 .bad)).bind fun n6 =>
    let h7 := AHeap.put h (nx + 6) (some ⟨[(.int .i64 0), (.int .i64 0), (.int .i64 0)], 3, true⟩)
    (stA h7 (nx + 6) 0 (.agg [(.int .i64 n4), (.int .i64 n5), (.int .i64 n6)]) 3).bind fun b8 =>
    let h9 := AHeap.put h7 (nx + 6) (some b8)
    if ((x16 : Int) == 6) = true then
    ((ldA h9 (nx + 6) 0).bind fun v10 =>
    (asI .i64 v10).bind fun n11 =>
    if ((n11 : Int) == 8) = true then
    ((ldA h9 (nx + 6) 1).bind fun v12 =>
    (asI .i64 v12).bind fun n13 =>
    some ((.bool ((n13 : Int) == 0)), h9, (nx + 19)))
    else
    (some ((.bool false), h9, (nx + 19))))
    else
    (if ((x16 : Int) == 0) = true then
    ((ldA h9 (nx + 6) 0).bind fun v14 =>
    (asI .i64 v14).bind fun n15 =>
    if ((n15 : Int) == 0) = true then
    ((ldA h9 (nx + 6) 1).bind fun v16 =>
    (asI .i64 v16).bind fun n17 =>
    some ((.bool ((n17 : Int) == x15)), h9, (nx + 24)))
    else
    (some ((.bool false), h9, (nx + 24))))
    else
    (some ((.bool false), h9, (nx + 24)))))
    else none := by kernel_rfl

theorem F13_J1_eq (call : YldF → CallF) (Y : YldF) (lf : Nat) (x15 : Int) (x16 : Int) (x18a : Option (Nat × Nat)) (x18n : Nat) (x18c : Bool) (h : AHeap) (nx : Nat) : F13_J1 call Y lf x15 x16 x18a x18n x18c h nx =
    (x18a).bind fun p1 =>
    if 0 ≤ ((wrapA .i64 (((x18n : Nat) : Int) - 1)) : Int) ∧ (wrapA .i64 (((x18n : Nat) : Int) - 1)) < ((x18n : Nat) : Int) then
    ((ldR h p1.1 (p1.2 + Int.toNat (wrapA .i64 (((x18n : Nat) : Int) - 1)) * 3) 3).bind fun l2 =>
    (asAgg 3 (AV.agg l2)).bind fun d3 =>
    (asI .i64 (d3.getD 0 .bad)).bind fun n4 =>
    (asI .i64 (d3.getD 1 .bad)).bind fun n5 =>
    (asI .i64 (d3.getD 2 .bad)).bind fun n6 =>
    let h7 := AHeap.put h (nx + 6) (some ⟨[(.int .i64 0), (.int .i64 0), (.int .i64 0)], 3, true⟩)
    (stA h7 (nx + 6) 0 (.agg [(.int .i64 n4), (.int .i64 n5), (.int .i64 n6)]) 3).bind fun b8 =>
    let h9 := AHeap.put h7 (nx + 6) (some b8)
    if ((x16 : Int) == 6) = true then
    ((ldA h9 (nx + 6) 0).bind fun v10 =>
    (asI .i64 v10).bind fun n11 =>
    if ((n11 : Int) == 8) = true then
    ((ldA h9 (nx + 6) 1).bind fun v12 =>
    (asI .i64 v12).bind fun n13 =>
    some ((.bool ((n13 : Int) == 0)), h9, (nx + 19)))
    else
    (some ((.bool false), h9, (nx + 19))))
    else
    (if ((x16 : Int) == 0) = true then
    ((ldA h9 (nx + 6) 0).bind fun v14 =>
    (asI .i64 v14).bind fun n15 =>
    if ((n15 : Int) == 0) = true then
    ((ldA h9 (nx + 6) 1).bind fun v16 =>
    (asI .i64 v16).bind fun n17 =>
    some ((.bool ((n17 : Int) == x15)), h9, (nx + 24)))
    else
    (some ((.bool false), h9, (nx + 24))))
    else
    (some ((.bool false), h9, (nx + 24)))))
    else none := F13_J1_eq' go1 call Y lf x15 x16 x18a x18n x18c h nx

theorem F13_eq' (J : StepF (AV × AHeap × Nat) → StepF (AV × AHeap × Nat)) (n : Nat) (Y : YldF) (x0a : Option (Nat × Nat)) (x0n : Nat) (x0c : Bool) (x1 : Int) (x2 : Int) (h : AHeap) (nx : Nat) : rootJ J Try.prog keepT (callP Try.prog keepT n) Y n 13 [(.slice x0a x0n x0c), (.int .i64 x1), (.int .i64 x2)] h nx =
    ((callP Try.prog keepT n) Y 15 [(.int .i64 x1), (.int .i64 100)] h (nx + 5)).bind fun r1 =>
    (asI .i64 r1.1).bind fun n2 =>
    ((callP Try.prog keepT n) Y 16 [(.slice x0a x0n x0c), (.int .i64 40), (.int .i64 (wrapA .i64 (1 + n2)))] r1.2.1 (r1.2.2 + 12)).bind fun r3 =>
    (asTup 4 r3.1).bind fun d4 =>
    (asSl (d4.getD 0 .bad)).bind fun s5 =>
    (asSl (d4.getD 1 .bad)).bind fun s6 =>
    (asSl (d4.getD 2 .bad)).bind fun s7 =>
    (asB (d4.getD 3 .bad)).bind fun t8 =>
    if (!t8) = true then
    (some ((.bool false), r3.2.1, (r3.2.2 + 3)))
    else
    (((callP Try.prog keepT n) Y 15 [(.int .i64 x2), (.int .i64 (wrapA .i64 (1 + n2)))] r3.2.1 (r3.2.2 + 7)).bind fun r9 =>
    (asI .i64 r9.1).bind fun n10 =>
    (srcS r9.2.1 s7.1 s7.2.1 3).bind fun q11 =>
    (appD r9.2.1 none 0 false 3 24 (r9.2.2 + 2) q11).bind fun e12 =>
    let h13 := AHeap.puts r9.2.1 e12.sets
    ((callP Try.prog keepT n) Y 30 [(.int .i64 (wrapA .i64 (1 + n2))), (.slice e12.a e12.n e12.c)] h13 (r9.2.2 + 9)).bind fun r14 =>
    (asTup 2 r14.1).bind fun d15 =>
    (asSl (d15.getD 0 .bad)).bind fun s16 =>
    (asI .i64 (d15.getD 1 .bad)).bind fun n17 =>
    ((callP Try.prog keepT n) Y 31 [(.slice s16.1 s16.2.1 s16.2.2), (.int .i64 (wrapA .i64 (1 + n10)))] r14.2.1 (r14.2.2 + 8)).bind fun r18 =>
    (asTup 2 r18.1).bind fun d19 =>
    (asI .i64 (d19.getD 0 .bad)).bind fun n20 =>
    (asI .i64 (d19.getD 1 .bad)).bind fun n21 =>
    (srcS r18.2.1 s5.1 s5.2.1 3).bind fun q22 =>
    (appD r18.2.1 none 0 false 3 24 (r18.2.2 + 1) q22).bind fun e23 =>
    let h24 := AHeap.puts r18.2.1 e23.sets
    let h25 := AHeap.put h24 (r18.2.2 + 4) (some ⟨[(.int .i64 1), (.int .i64 0), (.int .i64 (wrapA .i64 (1 + n10)))], 3, true⟩)
    (srcS h25 (some ((r18.2.2 + 4), 0)) 1 3).bind fun q26 =>
    (appD h25 e23.a e23.n e23.c 3 24 (r18.2.2 + 5) q26).bind fun e27 =>
    let h28 := AHeap.puts h25 e27.sets
    ((callP Try.prog keepT n) Y 17 [(.int .i64 (wrapA .i64 (1 + n2))), (.slice e27.a e27.n e27.c)] h28 (r18.2.2 + 17)).bind fun r29 =>
    (asTup 3 r29.1).bind fun d30 =>
    (asSl (d30.getD 0 .bad)).bind fun s31 =>
    (asSl (d30.getD 1 .bad)).bind fun s32 =>
    (asI .i64 (d30.getD 2 .bad)).bind fun n33 =>
    if ((n17 : Int) != 0) = true then
    (some ((.bool false), r29.2.1, (r29.2.2 + 19)))
    else
    (if ((n33 : Int) != 0) = true then
    (some ((.bool false), r29.2.1, (r29.2.2 + 19)))
    else
    (if ((((s31.2.1 : Nat) : Int) : Int) != ((e27.n : Nat) : Int)) = true then
    (some ((.bool false), r29.2.1, (r29.2.2 + 19)))
    else
    (((callP Try.prog keepT n) Y 32 [(.slice s16.1 s16.2.1 s16.2.2)] r29.2.1 (r29.2.2 + 18)).bind fun r34 =>
    (asB r34.1).bind fun t35 =>
    if (!t35) = true then
    (some ((.bool false), r34.2.1, (r34.2.2 + 1)))
    else
    (F13_J1' J J (callP Try.prog keepT n) Y n n20 n21 s31.1 s31.2.1 s31.2.2 r34.2.1 r34.2.2))))) := by kernel_rfl

/-- quickset/quicksetkeep.TakeLeast -/
theorem F13_eq (n : Nat) (Y : YldF) (x0a : Option (Nat × Nat)) (x0n : Nat) (x0c : Bool) (x1 : Int) (x2 : Int) (h : AHeap) (nx : Nat) : callP Try.prog keepT (n + 1) Y 13 [(.slice x0a x0n x0c), (.int .i64 x1), (.int .i64 x2)] h nx =
    ((callP Try.prog keepT n) Y 15 [(.int .i64 x1), (.int .i64 100)] h (nx + 5)).bind fun r1 =>
    (asI .i64 r1.1).bind fun n2 =>
    ((callP Try.prog keepT n) Y 16 [(.slice x0a x0n x0c), (.int .i64 40), (.int .i64 (wrapA .i64 (1 + n2)))] r1.2.1 (r1.2.2 + 12)).bind fun r3 =>
    (asTup 4 r3.1).bind fun d4 =>
    (asSl (d4.getD 0 .bad)).bind fun s5 =>
    (asSl (d4.getD 1 .bad)).bind fun s6 =>
    (asSl (d4.getD 2 .bad)).bind fun s7 =>
    (asB (d4.getD 3 .bad)).bind fun t8 =>
    if (!t8) = true then
    (some ((.bool false), r3.2.1, (r3.2.2 + 3)))
    else
    (((callP Try.prog keepT n) Y 15 [(.int .i64 x2), (.int .i64 (wrapA .i64 (1 + n2)))] r3.2.1 (r3.2.2 + 7)).bind fun r9 =>
    (asI .i64 r9.1).bind fun n10 =>
    (srcS r9.2.1 s7.1 s7.2.1 3).bind fun q11 =>
    (appD r9.2.1 none 0 false 3 24 (r9.2.2 + 2) q11).bind fun e12 =>
    let h13 := AHeap.puts r9.2.1 e12.sets
    ((callP Try.prog keepT n) Y 30 [(.int .i64 (wrapA .i64 (1 + n2))), (.slice e12.a e12.n e12.c)] h13 (r9.2.2 + 9)).bind fun r14 =>
    (asTup 2 r14.1).bind fun d15 =>
    (asSl (d15.getD 0 .bad)).bind fun s16 =>
    (asI .i64 (d15.getD 1 .bad)).bind fun n17 =>
    ((callP Try.prog keepT n) Y 31 [(.slice s16.1 s16.2.1 s16.2.2), (.int .i64 (wrapA .i64 (1 + n10)))] r14.2.1 (r14.2.2 + 8)).bind fun r18 =>
    (asTup 2 r18.1).bind fun d19 =>
    (asI .i64 (d19.getD 0 .bad)).bind fun n20 =>
    (asI .i64 (d19.getD 1 .bad)).bind fun n21 =>
    (srcS r18.2.1 s5.1 s5.2.1 3).bind fun q22 =>
    (appD r18.2.1 none 0 false 3 24 (r18.2.2 + 1) q22).bind fun e23 =>
    let h24 := AHeap.puts r18.2.1 e23.sets
    let h25 := AHeap.put h24 (r18.2.2 + 4) (some ⟨[(.int .i64 1), (.int .i64 0), (.int .i64 (wrapA .i64 (1 + n10)))], 3, true⟩)
    (srcS h25 (some ((r18.2.2 + 4), 0)) 1 3).bind fun q26 =>
    (appD h25 e23.a e23.n e23.c 3 24 (r18.2.2 + 5) q26).bind fun e27 =>
    let h28 := AHeap.puts h25 e27.sets
    ((callP Try.prog keepT n) Y 17 [(.int .i64 (wrapA .i64 (1 + n2))), (.slice e27.a e27.n e27.c)] h28 (r18.2.2 + 17)).bind fun r29 =>
    (asTup 3 r29.1).bind fun d30 =>
    (asSl (d30.getD 0 .bad)).bind fun s31 =>
    (asSl (d30.getD 1 .bad)).bind fun s32 =>
    (asI .i64 (d30.getD 2 .bad)).bind fun n33 =>
    if ((n17 : Int) != 0) = true then
    (some ((.bool false), r29.2.1, (r29.2.2 + 19)))
    else
    (if ((n33 : Int) != 0) = true then
    (some ((.bool false), r29.2.1, (r29.2.2 + 19)))
    else
    (if ((((s31.2.1 : Nat) : Int) : Int) != ((e27.n : Nat) : Int)) = true then
    (some ((.bool false), r29.2.1, (r29.2.2 + 19)))
    else
    (((callP Try.prog keepT n) Y 32 [(.slice s16.1 s16.2.1 s16.2.2)] r29.2.1 (r29.2.2 + 18)).bind fun r34 =>
    (asB r34.1).bind fun t35 =>
    if (!t35) = true then
    (some ((.bool false), r34.2.1, (r34.2.2 + 1)))
    else
    (F13_J1 (callP Try.prog keepT n) Y n n20 n21 s31.1 s31.2.1 s31.2.2 r34.2.1 r34.2.2))))) := F13_eq' go1 n Y x0a x0n x0c x1 x2 h nx

end Go.Proofs.Ytbekpkapkaifiaa.T

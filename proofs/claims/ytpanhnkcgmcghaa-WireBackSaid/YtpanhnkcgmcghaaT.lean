/-
  The table of types, printed by our program (Typ.lean), checked.
-/
import Derived.Test.YtpanhnkcgmcghaaE33
import Derived.Test.YtpanhnkcgmcghaaProg
import Derived.KernelRfl
namespace Go.J

def tys : List (Nat × TyI) := [
  (2, ⟨(.int .i64), 1, 8, (.int .i64), some (.int .i64), true⟩),
  (3, ⟨(.int .i64), 1, 8, (.int .i64), some (.int .i64), true⟩),
  (4, ⟨.bool, 1, 1, .bool, some .bool, true⟩),
  (5, ⟨(.int .u8), 1, 1, (.int .u8), some .u8, true⟩),
  (6, ⟨(.int .u8), 1, 1, (.int .u8), some .u8, true⟩),
  (7, ⟨(.st [(2, 0), (3, 1), (4, 2), (6, 3)]), 4, 24, (.cons (.int .i64) (.cons (.int .i64) (.cons .bool (.cons (.int .u8) .nil)))), some (.cons (.int .i64) (.cons (.int .i64) (.cons .bool (.cons .u8 .nil)))), true⟩),
  (8, ⟨(.st [(2, 0), (3, 1), (4, 2), (6, 3)]), 4, 24, (.cons (.int .i64) (.cons (.int .i64) (.cons .bool (.cons (.int .u8) .nil)))), some (.cons (.int .i64) (.cons (.int .i64) (.cons .bool (.cons .u8 .nil)))), true⟩),
  (9, ⟨.str, 1, 16, .str, some .str, true⟩),
  (10, ⟨.str, 1, 16, .str, some .str, true⟩),
  (11, ⟨.str, 1, 16, .str, some .str, true⟩),
  (12, ⟨(.int .u64), 1, 8, (.int .u64), some (.int .u64), true⟩),
  (15, ⟨(.ptr 93), 1, 8, .nilp, none, true⟩),
  (16, ⟨(.ptr 96), 1, 8, .nilp, none, true⟩),
  (17, ⟨(.ptr 104), 1, 8, .nilp, none, true⟩),
  (20, ⟨.other, 1, 16, .nilf, none, true⟩),
  (21, ⟨(.int .i32), 1, 4, (.int .i32), some (.int .i32), true⟩),
  (22, ⟨(.ptr 73), 1, 8, .nilp, none, true⟩),
  (24, ⟨(.sl 5), 1, 24, .nils, some (.rd .u8), true⟩),
  (28, ⟨(.int .u32), 1, 4, (.int .u32), some (.int .u32), true⟩),
  (34, ⟨(.int .u64), 1, 8, (.int .u64), some (.int .u64), true⟩),
  (40, ⟨(.int .u64), 1, 8, (.int .u64), some (.int .u64), true⟩),
  (45, ⟨(.sl 50), 1, 24, .nils, some (.rd (.cons (.int .i64) (.cons (.int .i64) .nil))), true⟩),
  (46, ⟨(.ptr 48), 1, 8, .nilp, none, true⟩),
  (47, ⟨(.st [(24, 0), (3, 1), (4, 2)]), 3, 40, (.cons .nils (.cons (.int .i64) (.cons .bool .nil))), some (.cons (.rd .u8) (.cons (.int .i64) (.cons .bool .nil))), true⟩),
  (48, ⟨(.st [(24, 0), (3, 1), (4, 2)]), 3, 40, (.cons .nils (.cons (.int .i64) (.cons .bool .nil))), some (.cons (.rd .u8) (.cons (.int .i64) (.cons .bool .nil))), true⟩),
  (49, ⟨(.st [(3, 0), (3, 1)]), 2, 16, (.cons (.int .i64) (.cons (.int .i64) .nil)), some (.cons (.int .i64) (.cons (.int .i64) .nil)), true⟩),
  (50, ⟨(.st [(3, 0), (3, 1)]), 2, 16, (.cons (.int .i64) (.cons (.int .i64) .nil)), some (.cons (.int .i64) (.cons (.int .i64) .nil)), true⟩),
  (51, ⟨(.ar 32 5), 32, 32, (.arr .u8 32), some (.ar 32 .u8), true⟩),
  (52, ⟨(.ar 32 5), 32, 32, (.arr .u8 32), some (.ar 32 .u8), true⟩),
  (56, ⟨(.st [(3, 0), (3, 1), (3, 2), (3, 3), (3, 4), (3, 5), (3, 6), (3, 7), (3, 8), (3, 9), (3, 10), (3, 11), (3, 12), (3, 13), (52, 14)]), 46, 144, (.cons (.int .i64) (.cons (.int .i64) (.cons (.int .i64) (.cons (.int .i64) (.cons (.int .i64) (.cons (.int .i64) (.cons (.int .i64) (.cons (.int .i64) (.cons (.int .i64) (.cons (.int .i64) (.cons (.int .i64) (.cons (.int .i64) (.cons (.int .i64) (.cons (.int .i64) (.cons (.arr .u8 32) .nil))))))))))))))), some (.cons (.int .i64) (.cons (.int .i64) (.cons (.int .i64) (.cons (.int .i64) (.cons (.int .i64) (.cons (.int .i64) (.cons (.int .i64) (.cons (.int .i64) (.cons (.int .i64) (.cons (.int .i64) (.cons (.int .i64) (.cons (.int .i64) (.cons (.int .i64) (.cons (.int .i64) (.cons (.ar 32 .u8) .nil))))))))))))))), true⟩),
  (57, ⟨(.st [(3, 0), (3, 1), (3, 2), (3, 3), (3, 4), (3, 5), (3, 6), (3, 7), (3, 8), (3, 9), (3, 10), (3, 11), (3, 12), (3, 13), (52, 14)]), 46, 144, (.cons (.int .i64) (.cons (.int .i64) (.cons (.int .i64) (.cons (.int .i64) (.cons (.int .i64) (.cons (.int .i64) (.cons (.int .i64) (.cons (.int .i64) (.cons (.int .i64) (.cons (.int .i64) (.cons (.int .i64) (.cons (.int .i64) (.cons (.int .i64) (.cons (.int .i64) (.cons (.arr .u8 32) .nil))))))))))))))), some (.cons (.int .i64) (.cons (.int .i64) (.cons (.int .i64) (.cons (.int .i64) (.cons (.int .i64) (.cons (.int .i64) (.cons (.int .i64) (.cons (.int .i64) (.cons (.int .i64) (.cons (.int .i64) (.cons (.int .i64) (.cons (.int .i64) (.cons (.int .i64) (.cons (.int .i64) (.cons (.ar 32 .u8) .nil))))))))))))))), true⟩),
  (59, ⟨(.int .i64), 1, 8, (.int .i64), some (.int .i64), true⟩),
  (60, ⟨(.st [(3, 0), (59, 1), (3, 2), (3, 3), (3, 4), (3, 5), (3, 6), (3, 7), (3, 8), (3, 9), (52, 10)]), 42, 112, (.cons (.int .i64) (.cons (.int .i64) (.cons (.int .i64) (.cons (.int .i64) (.cons (.int .i64) (.cons (.int .i64) (.cons (.int .i64) (.cons (.int .i64) (.cons (.int .i64) (.cons (.int .i64) (.cons (.arr .u8 32) .nil))))))))))), some (.cons (.int .i64) (.cons (.int .i64) (.cons (.int .i64) (.cons (.int .i64) (.cons (.int .i64) (.cons (.int .i64) (.cons (.int .i64) (.cons (.int .i64) (.cons (.int .i64) (.cons (.int .i64) (.cons (.ar 32 .u8) .nil))))))))))), true⟩),
  (61, ⟨(.st [(3, 0), (59, 1), (3, 2), (3, 3), (3, 4), (3, 5), (3, 6), (3, 7), (3, 8), (3, 9), (52, 10)]), 42, 112, (.cons (.int .i64) (.cons (.int .i64) (.cons (.int .i64) (.cons (.int .i64) (.cons (.int .i64) (.cons (.int .i64) (.cons (.int .i64) (.cons (.int .i64) (.cons (.int .i64) (.cons (.int .i64) (.cons (.arr .u8 32) .nil))))))))))), some (.cons (.int .i64) (.cons (.int .i64) (.cons (.int .i64) (.cons (.int .i64) (.cons (.int .i64) (.cons (.int .i64) (.cons (.int .i64) (.cons (.int .i64) (.cons (.int .i64) (.cons (.int .i64) (.cons (.ar 32 .u8) .nil))))))))))), true⟩),
  (72, ⟨(.st [(24, 0), (3, 1), (4, 2)]), 3, 40, (.cons .nils (.cons (.int .i64) (.cons .bool .nil))), some (.cons (.rd .u8) (.cons (.int .i64) (.cons .bool .nil))), true⟩),
  (73, ⟨(.st [(24, 0), (3, 1), (4, 2)]), 3, 40, (.cons .nils (.cons (.int .i64) (.cons .bool .nil))), some (.cons (.rd .u8) (.cons (.int .i64) (.cons .bool .nil))), true⟩),
  (77, ⟨(.sl 83), 1, 24, .nils, none, true⟩),
  (80, ⟨(.ptr 57), 1, 8, .nilp, none, true⟩),
  (81, ⟨(.ptr 3), 1, 8, .nilp, none, true⟩),
  (82, ⟨(.st [(81, 0), (3, 1), (3, 2), (3, 3)]), 4, 32, (.cons .nilp (.cons (.int .i64) (.cons (.int .i64) (.cons (.int .i64) .nil)))), none, true⟩),
  (83, ⟨(.st [(81, 0), (3, 1), (3, 2), (3, 3)]), 4, 32, (.cons .nilp (.cons (.int .i64) (.cons (.int .i64) (.cons (.int .i64) .nil)))), none, true⟩),
  (85, ⟨(.sl 3), 1, 24, .nils, some (.rd (.int .i64)), true⟩),
  (94, ⟨(.ar 0 16), 0, 0, .nil, none, true⟩),
  (97, ⟨(.int .u8), 1, 1, (.int .u8), some .u8, true⟩),
  (98, ⟨(.int .u8), 1, 1, (.int .u8), some .u8, true⟩),
  (100, ⟨(.ptr 5), 1, 8, .nilp, none, true⟩),
  (101, ⟨(.int .i32), 1, 4, (.int .i32), some (.int .i32), true⟩),
  (102, ⟨(.int .i32), 1, 4, (.int .i32), some (.int .i32), true⟩)]
theorem tysOk : tysB Go.Proofs.Try.prog tys = true := by kernel_rfl
theorem mixOk : Go.Proofs.Try.prog.follows .mixedOrders = true := by kernel_rfl

end Go.J

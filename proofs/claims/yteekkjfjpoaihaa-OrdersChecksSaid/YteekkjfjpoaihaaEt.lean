/- The type table of this program. -/
import Derived.Test.YteekkjfjpoaihaaEc
set_option linter.all false
namespace Go.Proofs.Yteekkjfjpoaihaa.Eng
open Go
def tabL : List (Nat × TI) := [
  (3, ⟨.int .i64, 1, 8, some (.s (.int .i64 0))⟩),
  (4, ⟨.bool, 1, 1, some (.s (.bool false))⟩),
  (5, ⟨.int .u8, 1, 1, some (.s (.int .u8 0))⟩),
  (9, ⟨.string, 1, 16, none⟩),
  (22, ⟨.slice 38, 1, 24, some (.s (.nils))⟩),
  (25, ⟨.int .i64, 1, 8, some (.s (.int .i64 0))⟩),
  (30, ⟨.func #[] #[4] false, 1, 8, some (.s (.nilf))⟩),
  (38, ⟨.array 2 3, 2, 16, some (.pb [.int .i64 0, .int .i64 0] 0 ff)⟩),
  (41, ⟨.slice 3, 1, 24, some (.s (.nils))⟩),
  (48, ⟨.array 2 41, 2, 48, some (.pb [.nils, .nils] 0 ff)⟩),
  (63, ⟨.int .u64, 1, 8, some (.s (.int .u64 0))⟩),
  (64, ⟨.pointer 115, 1, 8, some (.s (.nilp))⟩),
  (68, ⟨.array 7 4, 7, 7, some (.pb [] 7 ff)⟩),
  (70, ⟨.array 7 68, 49, 49, some (.pb [] 49 ff)⟩),
  (71, ⟨.func #[3] #[] false, 1, 8, some (.s (.nilf))⟩),
  (73, ⟨.map 77 4, 1, 8, some (.s (.nilm))⟩),
  (74, ⟨.slice 77, 1, 24, some (.s (.nils))⟩),
  (77, ⟨.struct #[⟨"a", 3, 0, false, "", "girouette/orders", 0⟩, ⟨"b", 3, 1, false, "", "girouette/orders", 8⟩], 2, 16, some (.pb [.int .i64 0, .int .i64 0] 0 ff)⟩),
  (78, ⟨.map 77 77, 1, 8, some (.s (.nilm))⟩),
  (92, ⟨.func #[3] #[4] false, 1, 8, some (.s (.nilf))⟩),
  (95, ⟨.array 64 4, 64, 64, some (.pb [] 64 ff)⟩),
  (101, ⟨.map 95 4, 1, 8, some (.s (.nilm))⟩),
  (103, ⟨.struct #[⟨"n", 3, 0, false, "", "girouette/shells", 0⟩, ⟨"pieces", 41, 1, false, "", "girouette/shells", 8⟩, ⟨"faces", 95, 2, false, "", "girouette/shells", 32⟩], 66, 96, some (.pb [.int .i64 0, .nils] 64 ff)⟩),
  (108, ⟨.struct #[⟨"small", 3, 0, false, "", "girouette/shells", 0⟩, ⟨"great", 3, 1, false, "", "girouette/shells", 8⟩], 2, 16, some (.pb [.int .i64 0, .int .i64 0] 0 ff)⟩),
  (115, ⟨.struct #[⟨"n", 3, 0, false, "", "girouette/orders", 0⟩, ⟨"near", 70, 1, false, "", "girouette/orders", 8⟩], 50, 64, some (.pb [.int .i64 0] 49 ff)⟩),
  (131, ⟨.func #[3] #[3] false, 1, 8, some (.s (.nilf))⟩),
  (140, ⟨.int .u64, 1, 8, some (.s (.int .u64 0))⟩),
  (141, ⟨.slice 140, 1, 24, some (.s (.nils))⟩),
  (143, ⟨.pointer 160, 1, 8, some (.s (.nilp))⟩),
  (149, ⟨.slice 70, 1, 24, some (.s (.nils))⟩),
  (150, ⟨.map 38 3, 1, 8, some (.s (.nilm))⟩),
  (160, ⟨.struct #[⟨"n", 3, 0, false, "", "girouette/labels", 0⟩, ⟨"edges", 22, 1, false, "", "girouette/labels", 8⟩], 2, 32, some (.pb [.int .i64 0, .nils] 0 ff)⟩),
  (161, ⟨.func #[41] #[4] false, 1, 8, some (.s (.nilf))⟩),
  (163, ⟨.array 26 4, 26, 26, some (.pb [] 26 ff)⟩),
  (166, ⟨.slice 4, 1, 24, some (.s (.nils))⟩),
  (168, ⟨.int .u32, 1, 4, some (.s (.int .u32 0))⟩),
  (171, ⟨.int .i64, 1, 8, some (.s (.int .i64 0))⟩),
  (177, ⟨.int .u64, 1, 8, some (.s (.int .u64 0))⟩)]
noncomputable def T : Tab := alGet tabL
end Go.Proofs.Yteekkjfjpoaihaa.Eng

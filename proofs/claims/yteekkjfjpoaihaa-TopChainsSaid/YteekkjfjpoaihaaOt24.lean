/- A part of the proof of topChains_holds. -/
import Derived.Test.YteekkjfjpoaihaaOt13
set_option linter.all false
namespace Go.Proofs.Yteekkjfjpoaihaa.Eng
open Go Go.Proofs
theorem rcH30 : RunH 5 [3, 9, 21] := exec_cview envP1 (inr := false) (fun _ => rfl) (k := 200) (ids := [9]) (by kernel_rfl) (by kernel_rfl) (by kernel_rfl)
theorem rcX30 : RunX 5 [3, 9, 21] := exec_cview envP1 (inr := false) (fun _ => rfl) (k := 200) (ids := [30]) (by kernel_rfl) (by kernel_rfl) (by kernel_rfl)
theorem rcH31 : RunH 5 [11, 21] := exec_cview envP1 (inr := false) (fun _ => rfl) (k := 200) (ids := [9]) (by kernel_rfl) (by kernel_rfl) (by kernel_rfl)
theorem rcX31 : RunX 5 [11, 21] := exec_cview envP1 (inr := false) (fun _ => rfl) (k := 200) (ids := [30]) (by kernel_rfl) (by kernel_rfl) (by kernel_rfl)
theorem rcH32 : RunH 5 [9, 19, 21] := exec_cview envP1 (inr := false) (fun _ => rfl) (k := 200) (ids := [9]) (by kernel_rfl) (by kernel_rfl) (by kernel_rfl)
theorem rcX32 : RunX 5 [9, 19, 21] := exec_cview envP1 (inr := false) (fun _ => rfl) (k := 200) (ids := [30]) (by kernel_rfl) (by kernel_rfl) (by kernel_rfl)
theorem rcH33 : RunH 5 [9, 23] := exec_cview envP1 (inr := false) (fun _ => rfl) (k := 200) (ids := [9]) (by kernel_rfl) (by kernel_rfl) (by kernel_rfl)
theorem rcX33 : RunX 5 [9, 23] := exec_cview envP1 (inr := false) (fun _ => rfl) (k := 200) (ids := [30]) (by kernel_rfl) (by kernel_rfl) (by kernel_rfl)
theorem rcH34 : RunH 5 [11, 19, 21] := exec_cview envP1 (inr := false) (fun _ => rfl) (k := 200) (ids := [9]) (by kernel_rfl) (by kernel_rfl) (by kernel_rfl)
theorem rcX34 : RunX 5 [11, 19, 21] := exec_cview envP1 (inr := false) (fun _ => rfl) (k := 200) (ids := [30]) (by kernel_rfl) (by kernel_rfl) (by kernel_rfl)
theorem rcH35 : RunH 5 [11, 23] := exec_cview envP1 (inr := false) (fun _ => rfl) (k := 200) (ids := [9]) (by kernel_rfl) (by kernel_rfl) (by kernel_rfl)
theorem rcX35 : RunX 5 [11, 23] := exec_cview envP1 (inr := false) (fun _ => rfl) (k := 200) (ids := [30]) (by kernel_rfl) (by kernel_rfl) (by kernel_rfl)
theorem rcH36 : RunH 5 [3, 13, 21] := exec_cview envP1 (inr := false) (fun _ => rfl) (k := 200) (ids := [9]) (by kernel_rfl) (by kernel_rfl) (by kernel_rfl)
theorem rcX36 : RunX 5 [3, 13, 21] := exec_cview envP1 (inr := false) (fun _ => rfl) (k := 200) (ids := [30]) (by kernel_rfl) (by kernel_rfl) (by kernel_rfl)
theorem rcH37 : RunH 5 [11, 13, 21] := exec_cview envP1 (inr := false) (fun _ => rfl) (k := 200) (ids := [9]) (by kernel_rfl) (by kernel_rfl) (by kernel_rfl)
theorem rcX37 : RunX 5 [11, 13, 21] := exec_cview envP1 (inr := false) (fun _ => rfl) (k := 200) (ids := [30]) (by kernel_rfl) (by kernel_rfl) (by kernel_rfl)
theorem rcH38 : RunH 5 [13, 19, 21] := exec_cview envP1 (inr := false) (fun _ => rfl) (k := 200) (ids := [9]) (by kernel_rfl) (by kernel_rfl) (by kernel_rfl)
theorem rcX38 : RunX 5 [13, 19, 21] := exec_cview envP1 (inr := false) (fun _ => rfl) (k := 200) (ids := [30]) (by kernel_rfl) (by kernel_rfl) (by kernel_rfl)
theorem rcH39 : RunH 5 [11, 13, 19, 21] := exec_cview envP1 (inr := false) (fun _ => rfl) (k := 200) (ids := [9]) (by kernel_rfl) (by kernel_rfl) (by kernel_rfl)
theorem rcX39 : RunX 5 [11, 13, 19, 21] := exec_cview envP1 (inr := false) (fun _ => rfl) (k := 200) (ids := [30]) (by kernel_rfl) (by kernel_rfl) (by kernel_rfl)
theorem rcH40 : RunH 5 [13, 14, 21, 22] := exec_cview envP1 (inr := false) (fun _ => rfl) (k := 200) (ids := [9]) (by kernel_rfl) (by kernel_rfl) (by kernel_rfl)
theorem rcX40 : RunX 5 [13, 14, 21, 22] := exec_cview envP1 (inr := false) (fun _ => rfl) (k := 200) (ids := [30]) (by kernel_rfl) (by kernel_rfl) (by kernel_rfl)
theorem rcH41 : RunH 5 [15, 23] := exec_cview envP1 (inr := false) (fun _ => rfl) (k := 200) (ids := [9]) (by kernel_rfl) (by kernel_rfl) (by kernel_rfl)
theorem rcX41 : RunX 5 [15, 23] := exec_cview envP1 (inr := false) (fun _ => rfl) (k := 200) (ids := [30]) (by kernel_rfl) (by kernel_rfl) (by kernel_rfl)
theorem rcH42 : RunH 5 [3, 5, 25] := exec_cview envP1 (inr := false) (fun _ => rfl) (k := 200) (ids := [9]) (by kernel_rfl) (by kernel_rfl) (by kernel_rfl)
theorem rcX42 : RunX 5 [3, 5, 25] := exec_cview envP1 (inr := false) (fun _ => rfl) (k := 200) (ids := [30]) (by kernel_rfl) (by kernel_rfl) (by kernel_rfl)
theorem rcH43 : RunH 5 [7, 25] := exec_cview envP1 (inr := false) (fun _ => rfl) (k := 200) (ids := [9]) (by kernel_rfl) (by kernel_rfl) (by kernel_rfl)
theorem rcX43 : RunX 5 [7, 25] := exec_cview envP1 (inr := false) (fun _ => rfl) (k := 200) (ids := [30]) (by kernel_rfl) (by kernel_rfl) (by kernel_rfl)
theorem rcH44 : RunH 5 [5, 19, 25] := exec_cview envP1 (inr := false) (fun _ => rfl) (k := 200) (ids := [9]) (by kernel_rfl) (by kernel_rfl) (by kernel_rfl)
theorem rcX44 : RunX 5 [5, 19, 25] := exec_cview envP1 (inr := false) (fun _ => rfl) (k := 200) (ids := [30]) (by kernel_rfl) (by kernel_rfl) (by kernel_rfl)
def tabX3 : List (Nat × List Int) := [(5, [3, 9, 21]), (5, [11, 21]), (5, [9, 19, 21]), (5, [9, 23]), (5, [11, 19, 21]), (5, [11, 23]), (5, [3, 13, 21]), (5, [11, 13, 21]), (5, [13, 19, 21]), (5, [11, 13, 19, 21]), (5, [13, 14, 21, 22]), (5, [15, 23]), (5, [3, 5, 25]), (5, [7, 25]), (5, [5, 19, 25])]
theorem tabX3_ok : AllL (fun e => RunH e.1 e.2 ∧ RunX e.1 e.2) tabX3 := ⟨⟨rcH30, rcX30⟩, ⟨rcH31, rcX31⟩, ⟨rcH32, rcX32⟩, ⟨rcH33, rcX33⟩, ⟨rcH34, rcX34⟩, ⟨rcH35, rcX35⟩, ⟨rcH36, rcX36⟩, ⟨rcH37, rcX37⟩, ⟨rcH38, rcX38⟩, ⟨rcH39, rcX39⟩, ⟨rcH40, rcX40⟩, ⟨rcH41, rcX41⟩, ⟨rcH42, rcX42⟩, ⟨rcH43, rcX43⟩, ⟨rcH44, rcX44⟩, trivial⟩
end Go.Proofs.Yteekkjfjpoaihaa.Eng

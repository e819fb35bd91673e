/- A part of the proof of topChains_holds. -/
import Derived.Test.YteekkjfjpoaihaaOt13
set_option linter.all false
namespace Go.Proofs.Yteekkjfjpoaihaa.Eng
open Go Go.Proofs
theorem rcH60 : RunH 5 [22, 25] := exec_cview envP1 (inr := false) (fun _ => rfl) (k := 200) (ids := [9]) (by kernel_rfl) (by kernel_rfl) (by kernel_rfl)
theorem rcX60 : RunX 5 [22, 25] := exec_cview envP1 (inr := false) (fun _ => rfl) (k := 200) (ids := [30]) (by kernel_rfl) (by kernel_rfl) (by kernel_rfl)
theorem rcH61 : RunH 5 [21, 22, 25] := exec_cview envP1 (inr := false) (fun _ => rfl) (k := 200) (ids := [9]) (by kernel_rfl) (by kernel_rfl) (by kernel_rfl)
theorem rcX61 : RunX 5 [21, 22, 25] := exec_cview envP1 (inr := false) (fun _ => rfl) (k := 200) (ids := [30]) (by kernel_rfl) (by kernel_rfl) (by kernel_rfl)
theorem rcH62 : RunH 5 [23, 25] := exec_cview envP1 (inr := false) (fun _ => rfl) (k := 200) (ids := [9]) (by kernel_rfl) (by kernel_rfl) (by kernel_rfl)
theorem rcX62 : RunX 5 [23, 25] := exec_cview envP1 (inr := false) (fun _ => rfl) (k := 200) (ids := [30]) (by kernel_rfl) (by kernel_rfl) (by kernel_rfl)
theorem rcH63 : RunH 5 [17, 20, 26] := exec_cview envP1 (inr := false) (fun _ => rfl) (k := 200) (ids := [9]) (by kernel_rfl) (by kernel_rfl) (by kernel_rfl)
theorem rcX63 : RunX 5 [17, 20, 26] := exec_cview envP1 (inr := false) (fun _ => rfl) (k := 200) (ids := [30]) (by kernel_rfl) (by kernel_rfl) (by kernel_rfl)
theorem rcH64 : RunH 5 [21, 26] := exec_cview envP1 (inr := false) (fun _ => rfl) (k := 200) (ids := [9]) (by kernel_rfl) (by kernel_rfl) (by kernel_rfl)
theorem rcX64 : RunX 5 [21, 26] := exec_cview envP1 (inr := false) (fun _ => rfl) (k := 200) (ids := [30]) (by kernel_rfl) (by kernel_rfl) (by kernel_rfl)
theorem rcH65 : RunH 5 [20, 25, 26] := exec_cview envP1 (inr := false) (fun _ => rfl) (k := 200) (ids := [9]) (by kernel_rfl) (by kernel_rfl) (by kernel_rfl)
theorem rcX65 : RunX 5 [20, 25, 26] := exec_cview envP1 (inr := false) (fun _ => rfl) (k := 200) (ids := [30]) (by kernel_rfl) (by kernel_rfl) (by kernel_rfl)
theorem rcH66 : RunH 5 [20, 27] := exec_cview envP1 (inr := false) (fun _ => rfl) (k := 200) (ids := [9]) (by kernel_rfl) (by kernel_rfl) (by kernel_rfl)
theorem rcX66 : RunX 5 [20, 27] := exec_cview envP1 (inr := false) (fun _ => rfl) (k := 200) (ids := [30]) (by kernel_rfl) (by kernel_rfl) (by kernel_rfl)
theorem rcH67 : RunH 5 [21, 25, 26] := exec_cview envP1 (inr := false) (fun _ => rfl) (k := 200) (ids := [9]) (by kernel_rfl) (by kernel_rfl) (by kernel_rfl)
theorem rcX67 : RunX 5 [21, 25, 26] := exec_cview envP1 (inr := false) (fun _ => rfl) (k := 200) (ids := [30]) (by kernel_rfl) (by kernel_rfl) (by kernel_rfl)
theorem rcH68 : RunH 5 [21, 27] := exec_cview envP1 (inr := false) (fun _ => rfl) (k := 200) (ids := [9]) (by kernel_rfl) (by kernel_rfl) (by kernel_rfl)
theorem rcX68 : RunX 5 [21, 27] := exec_cview envP1 (inr := false) (fun _ => rfl) (k := 200) (ids := [30]) (by kernel_rfl) (by kernel_rfl) (by kernel_rfl)
theorem rcH69 : RunH 5 [17, 22, 26] := exec_cview envP1 (inr := false) (fun _ => rfl) (k := 200) (ids := [9]) (by kernel_rfl) (by kernel_rfl) (by kernel_rfl)
theorem rcX69 : RunX 5 [17, 22, 26] := exec_cview envP1 (inr := false) (fun _ => rfl) (k := 200) (ids := [30]) (by kernel_rfl) (by kernel_rfl) (by kernel_rfl)
theorem rcH70 : RunH 5 [21, 22, 26] := exec_cview envP1 (inr := false) (fun _ => rfl) (k := 200) (ids := [9]) (by kernel_rfl) (by kernel_rfl) (by kernel_rfl)
theorem rcX70 : RunX 5 [21, 22, 26] := exec_cview envP1 (inr := false) (fun _ => rfl) (k := 200) (ids := [30]) (by kernel_rfl) (by kernel_rfl) (by kernel_rfl)
theorem rcH71 : RunH 5 [22, 25, 26] := exec_cview envP1 (inr := false) (fun _ => rfl) (k := 200) (ids := [9]) (by kernel_rfl) (by kernel_rfl) (by kernel_rfl)
theorem rcX71 : RunX 5 [22, 25, 26] := exec_cview envP1 (inr := false) (fun _ => rfl) (k := 200) (ids := [30]) (by kernel_rfl) (by kernel_rfl) (by kernel_rfl)
theorem rcH72 : RunH 5 [21, 22, 25, 26] := exec_cview envP1 (inr := false) (fun _ => rfl) (k := 200) (ids := [9]) (by kernel_rfl) (by kernel_rfl) (by kernel_rfl)
theorem rcX72 : RunX 5 [21, 22, 25, 26] := exec_cview envP1 (inr := false) (fun _ => rfl) (k := 200) (ids := [30]) (by kernel_rfl) (by kernel_rfl) (by kernel_rfl)
theorem rcH73 : RunH 5 [23, 27] := exec_cview envP1 (inr := false) (fun _ => rfl) (k := 200) (ids := [9]) (by kernel_rfl) (by kernel_rfl) (by kernel_rfl)
theorem rcX73 : RunX 5 [23, 27] := exec_cview envP1 (inr := false) (fun _ => rfl) (k := 200) (ids := [30]) (by kernel_rfl) (by kernel_rfl) (by kernel_rfl)
theorem rcH74 : RunH 5 [3, 29] := exec_cview envP1 (inr := false) (fun _ => rfl) (k := 200) (ids := [9]) (by kernel_rfl) (by kernel_rfl) (by kernel_rfl)
theorem rcX74 : RunX 5 [3, 29] := exec_cview envP1 (inr := false) (fun _ => rfl) (k := 200) (ids := [30]) (by kernel_rfl) (by kernel_rfl) (by kernel_rfl)
def tabX5 : List (Nat × List Int) := [(5, [22, 25]), (5, [21, 22, 25]), (5, [23, 25]), (5, [17, 20, 26]), (5, [21, 26]), (5, [20, 25, 26]), (5, [20, 27]), (5, [21, 25, 26]), (5, [21, 27]), (5, [17, 22, 26]), (5, [21, 22, 26]), (5, [22, 25, 26]), (5, [21, 22, 25, 26]), (5, [23, 27]), (5, [3, 29])]
theorem tabX5_ok : AllL (fun e => RunH e.1 e.2 ∧ RunX e.1 e.2) tabX5 := ⟨⟨rcH60, rcX60⟩, ⟨rcH61, rcX61⟩, ⟨rcH62, rcX62⟩, ⟨rcH63, rcX63⟩, ⟨rcH64, rcX64⟩, ⟨rcH65, rcX65⟩, ⟨rcH66, rcX66⟩, ⟨rcH67, rcX67⟩, ⟨rcH68, rcX68⟩, ⟨rcH69, rcX69⟩, ⟨rcH70, rcX70⟩, ⟨rcH71, rcX71⟩, ⟨rcH72, rcX72⟩, ⟨rcH73, rcX73⟩, ⟨rcH74, rcX74⟩, trivial⟩
end Go.Proofs.Yteekkjfjpoaihaa.Eng

/- A part of the proof of topChains_holds. -/
import Derived.Test.YteekkjfjpoaihaaOt13
set_option linter.all false
namespace Go.Proofs.Yteekkjfjpoaihaa.Eng
open Go Go.Proofs
theorem rcH45 : RunH 5 [7, 19, 25] := exec_cview envP1 (inr := false) (fun _ => rfl) (k := 200) (ids := [9]) (by kernel_rfl) (by kernel_rfl) (by kernel_rfl)
theorem rcX45 : RunX 5 [7, 19, 25] := exec_cview envP1 (inr := false) (fun _ => rfl) (k := 200) (ids := [30]) (by kernel_rfl) (by kernel_rfl) (by kernel_rfl)
theorem rcH46 : RunH 5 [5, 27] := exec_cview envP1 (inr := false) (fun _ => rfl) (k := 200) (ids := [9]) (by kernel_rfl) (by kernel_rfl) (by kernel_rfl)
theorem rcX46 : RunX 5 [5, 27] := exec_cview envP1 (inr := false) (fun _ => rfl) (k := 200) (ids := [30]) (by kernel_rfl) (by kernel_rfl) (by kernel_rfl)
theorem rcH47 : RunH 5 [7, 27] := exec_cview envP1 (inr := false) (fun _ => rfl) (k := 200) (ids := [9]) (by kernel_rfl) (by kernel_rfl) (by kernel_rfl)
theorem rcX47 : RunX 5 [7, 27] := exec_cview envP1 (inr := false) (fun _ => rfl) (k := 200) (ids := [30]) (by kernel_rfl) (by kernel_rfl) (by kernel_rfl)
theorem rcH48 : RunH 5 [3, 21, 25] := exec_cview envP1 (inr := false) (fun _ => rfl) (k := 200) (ids := [9]) (by kernel_rfl) (by kernel_rfl) (by kernel_rfl)
theorem rcX48 : RunX 5 [3, 21, 25] := exec_cview envP1 (inr := false) (fun _ => rfl) (k := 200) (ids := [30]) (by kernel_rfl) (by kernel_rfl) (by kernel_rfl)
theorem rcH49 : RunH 5 [17, 18, 20, 24] := exec_cview envP1 (inr := false) (fun _ => rfl) (k := 200) (ids := [9]) (by kernel_rfl) (by kernel_rfl) (by kernel_rfl)
theorem rcX49 : RunX 5 [17, 18, 20, 24] := exec_cview envP1 (inr := false) (fun _ => rfl) (k := 200) (ids := [30]) (by kernel_rfl) (by kernel_rfl) (by kernel_rfl)
theorem rcH50 : RunH 5 [19, 20, 24] := exec_cview envP1 (inr := false) (fun _ => rfl) (k := 200) (ids := [9]) (by kernel_rfl) (by kernel_rfl) (by kernel_rfl)
theorem rcX50 : RunX 5 [19, 20, 24] := exec_cview envP1 (inr := false) (fun _ => rfl) (k := 200) (ids := [30]) (by kernel_rfl) (by kernel_rfl) (by kernel_rfl)
theorem rcH51 : RunH 5 [18, 21, 24] := exec_cview envP1 (inr := false) (fun _ => rfl) (k := 200) (ids := [9]) (by kernel_rfl) (by kernel_rfl) (by kernel_rfl)
theorem rcX51 : RunX 5 [18, 21, 24] := exec_cview envP1 (inr := false) (fun _ => rfl) (k := 200) (ids := [30]) (by kernel_rfl) (by kernel_rfl) (by kernel_rfl)
theorem rcH52 : RunH 5 [19, 21, 24] := exec_cview envP1 (inr := false) (fun _ => rfl) (k := 200) (ids := [9]) (by kernel_rfl) (by kernel_rfl) (by kernel_rfl)
theorem rcX52 : RunX 5 [19, 21, 24] := exec_cview envP1 (inr := false) (fun _ => rfl) (k := 200) (ids := [30]) (by kernel_rfl) (by kernel_rfl) (by kernel_rfl)
theorem rcH53 : RunH 5 [18, 20, 25] := exec_cview envP1 (inr := false) (fun _ => rfl) (k := 200) (ids := [9]) (by kernel_rfl) (by kernel_rfl) (by kernel_rfl)
theorem rcX53 : RunX 5 [18, 20, 25] := exec_cview envP1 (inr := false) (fun _ => rfl) (k := 200) (ids := [30]) (by kernel_rfl) (by kernel_rfl) (by kernel_rfl)
theorem rcH54 : RunH 5 [19, 20, 25] := exec_cview envP1 (inr := false) (fun _ => rfl) (k := 200) (ids := [9]) (by kernel_rfl) (by kernel_rfl) (by kernel_rfl)
theorem rcX54 : RunX 5 [19, 20, 25] := exec_cview envP1 (inr := false) (fun _ => rfl) (k := 200) (ids := [30]) (by kernel_rfl) (by kernel_rfl) (by kernel_rfl)
theorem rcH55 : RunH 5 [18, 21, 25] := exec_cview envP1 (inr := false) (fun _ => rfl) (k := 200) (ids := [9]) (by kernel_rfl) (by kernel_rfl) (by kernel_rfl)
theorem rcX55 : RunX 5 [18, 21, 25] := exec_cview envP1 (inr := false) (fun _ => rfl) (k := 200) (ids := [30]) (by kernel_rfl) (by kernel_rfl) (by kernel_rfl)
theorem rcH56 : RunH 5 [19, 21, 25] := exec_cview envP1 (inr := false) (fun _ => rfl) (k := 200) (ids := [9]) (by kernel_rfl) (by kernel_rfl) (by kernel_rfl)
theorem rcX56 : RunX 5 [19, 21, 25] := exec_cview envP1 (inr := false) (fun _ => rfl) (k := 200) (ids := [30]) (by kernel_rfl) (by kernel_rfl) (by kernel_rfl)
theorem rcH57 : RunH 5 [17, 22, 24] := exec_cview envP1 (inr := false) (fun _ => rfl) (k := 200) (ids := [9]) (by kernel_rfl) (by kernel_rfl) (by kernel_rfl)
theorem rcX57 : RunX 5 [17, 22, 24] := exec_cview envP1 (inr := false) (fun _ => rfl) (k := 200) (ids := [30]) (by kernel_rfl) (by kernel_rfl) (by kernel_rfl)
theorem rcH58 : RunH 5 [21, 22, 24] := exec_cview envP1 (inr := false) (fun _ => rfl) (k := 200) (ids := [9]) (by kernel_rfl) (by kernel_rfl) (by kernel_rfl)
theorem rcX58 : RunX 5 [21, 22, 24] := exec_cview envP1 (inr := false) (fun _ => rfl) (k := 200) (ids := [30]) (by kernel_rfl) (by kernel_rfl) (by kernel_rfl)
theorem rcH59 : RunH 5 [23, 24] := exec_cview envP1 (inr := false) (fun _ => rfl) (k := 200) (ids := [9]) (by kernel_rfl) (by kernel_rfl) (by kernel_rfl)
theorem rcX59 : RunX 5 [23, 24] := exec_cview envP1 (inr := false) (fun _ => rfl) (k := 200) (ids := [30]) (by kernel_rfl) (by kernel_rfl) (by kernel_rfl)
def tabX4 : List (Nat × List Int) := [(5, [7, 19, 25]), (5, [5, 27]), (5, [7, 27]), (5, [3, 21, 25]), (5, [17, 18, 20, 24]), (5, [19, 20, 24]), (5, [18, 21, 24]), (5, [19, 21, 24]), (5, [18, 20, 25]), (5, [19, 20, 25]), (5, [18, 21, 25]), (5, [19, 21, 25]), (5, [17, 22, 24]), (5, [21, 22, 24]), (5, [23, 24])]
theorem tabX4_ok : AllL (fun e => RunH e.1 e.2 ∧ RunX e.1 e.2) tabX4 := ⟨⟨rcH45, rcX45⟩, ⟨rcH46, rcX46⟩, ⟨rcH47, rcX47⟩, ⟨rcH48, rcX48⟩, ⟨rcH49, rcX49⟩, ⟨rcH50, rcX50⟩, ⟨rcH51, rcX51⟩, ⟨rcH52, rcX52⟩, ⟨rcH53, rcX53⟩, ⟨rcH54, rcX54⟩, ⟨rcH55, rcX55⟩, ⟨rcH56, rcX56⟩, ⟨rcH57, rcX57⟩, ⟨rcH58, rcX58⟩, ⟨rcH59, rcX59⟩, trivial⟩
end Go.Proofs.Yteekkjfjpoaihaa.Eng

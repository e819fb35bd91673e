/- A part of the proof of topChains_holds. -/
import Derived.Test.YteekkjfjpoaihaaOt13
set_option linter.all false
namespace Go.Proofs.Yteekkjfjpoaihaa.Eng
open Go Go.Proofs
theorem rcH75 : RunH 5 [17, 18, 28] := exec_cview envP1 (inr := false) (fun _ => rfl) (k := 200) (ids := [9]) (by kernel_rfl) (by kernel_rfl) (by kernel_rfl)
theorem rcX75 : RunX 5 [17, 18, 28] := exec_cview envP1 (inr := false) (fun _ => rfl) (k := 200) (ids := [30]) (by kernel_rfl) (by kernel_rfl) (by kernel_rfl)
theorem rcH76 : RunH 5 [19, 28] := exec_cview envP1 (inr := false) (fun _ => rfl) (k := 200) (ids := [9]) (by kernel_rfl) (by kernel_rfl) (by kernel_rfl)
theorem rcX76 : RunX 5 [19, 28] := exec_cview envP1 (inr := false) (fun _ => rfl) (k := 200) (ids := [30]) (by kernel_rfl) (by kernel_rfl) (by kernel_rfl)
theorem rcH77 : RunH 5 [18, 25, 28] := exec_cview envP1 (inr := false) (fun _ => rfl) (k := 200) (ids := [9]) (by kernel_rfl) (by kernel_rfl) (by kernel_rfl)
theorem rcX77 : RunX 5 [18, 25, 28] := exec_cview envP1 (inr := false) (fun _ => rfl) (k := 200) (ids := [30]) (by kernel_rfl) (by kernel_rfl) (by kernel_rfl)
theorem rcH78 : RunH 5 [19, 25, 28] := exec_cview envP1 (inr := false) (fun _ => rfl) (k := 200) (ids := [9]) (by kernel_rfl) (by kernel_rfl) (by kernel_rfl)
theorem rcX78 : RunX 5 [19, 25, 28] := exec_cview envP1 (inr := false) (fun _ => rfl) (k := 200) (ids := [30]) (by kernel_rfl) (by kernel_rfl) (by kernel_rfl)
theorem rcH79 : RunH 5 [18, 29] := exec_cview envP1 (inr := false) (fun _ => rfl) (k := 200) (ids := [9]) (by kernel_rfl) (by kernel_rfl) (by kernel_rfl)
theorem rcX79 : RunX 5 [18, 29] := exec_cview envP1 (inr := false) (fun _ => rfl) (k := 200) (ids := [30]) (by kernel_rfl) (by kernel_rfl) (by kernel_rfl)
theorem rcH80 : RunH 5 [19, 29] := exec_cview envP1 (inr := false) (fun _ => rfl) (k := 200) (ids := [9]) (by kernel_rfl) (by kernel_rfl) (by kernel_rfl)
theorem rcX80 : RunX 5 [19, 29] := exec_cview envP1 (inr := false) (fun _ => rfl) (k := 200) (ids := [30]) (by kernel_rfl) (by kernel_rfl) (by kernel_rfl)
theorem rcH81 : RunH 5 [17, 26, 28] := exec_cview envP1 (inr := false) (fun _ => rfl) (k := 200) (ids := [9]) (by kernel_rfl) (by kernel_rfl) (by kernel_rfl)
theorem rcX81 : RunX 5 [17, 26, 28] := exec_cview envP1 (inr := false) (fun _ => rfl) (k := 200) (ids := [30]) (by kernel_rfl) (by kernel_rfl) (by kernel_rfl)
theorem rcH82 : RunH 5 [25, 26, 28] := exec_cview envP1 (inr := false) (fun _ => rfl) (k := 200) (ids := [9]) (by kernel_rfl) (by kernel_rfl) (by kernel_rfl)
theorem rcX82 : RunX 5 [25, 26, 28] := exec_cview envP1 (inr := false) (fun _ => rfl) (k := 200) (ids := [30]) (by kernel_rfl) (by kernel_rfl) (by kernel_rfl)
theorem rcH83 : RunH 5 [27, 28] := exec_cview envP1 (inr := false) (fun _ => rfl) (k := 200) (ids := [9]) (by kernel_rfl) (by kernel_rfl) (by kernel_rfl)
theorem rcX83 : RunX 5 [27, 28] := exec_cview envP1 (inr := false) (fun _ => rfl) (k := 200) (ids := [30]) (by kernel_rfl) (by kernel_rfl) (by kernel_rfl)
theorem rcH84 : RunH 5 [26, 29] := exec_cview envP1 (inr := false) (fun _ => rfl) (k := 200) (ids := [9]) (by kernel_rfl) (by kernel_rfl) (by kernel_rfl)
theorem rcX84 : RunX 5 [26, 29] := exec_cview envP1 (inr := false) (fun _ => rfl) (k := 200) (ids := [30]) (by kernel_rfl) (by kernel_rfl) (by kernel_rfl)
theorem rcH85 : RunH 5 [27, 29] := exec_cview envP1 (inr := false) (fun _ => rfl) (k := 200) (ids := [9]) (by kernel_rfl) (by kernel_rfl) (by kernel_rfl)
theorem rcX85 : RunX 5 [27, 29] := exec_cview envP1 (inr := false) (fun _ => rfl) (k := 200) (ids := [30]) (by kernel_rfl) (by kernel_rfl) (by kernel_rfl)
theorem rcH86 : RunH 5 [17, 30] := exec_cview envP1 (inr := false) (fun _ => rfl) (k := 200) (ids := [9]) (by kernel_rfl) (by kernel_rfl) (by kernel_rfl)
theorem rcX86 : RunX 5 [17, 30] := exec_cview envP1 (inr := false) (fun _ => rfl) (k := 200) (ids := [30]) (by kernel_rfl) (by kernel_rfl) (by kernel_rfl)
theorem rcH87 : RunH 5 [25, 30] := exec_cview envP1 (inr := false) (fun _ => rfl) (k := 200) (ids := [9]) (by kernel_rfl) (by kernel_rfl) (by kernel_rfl)
theorem rcX87 : RunX 5 [25, 30] := exec_cview envP1 (inr := false) (fun _ => rfl) (k := 200) (ids := [30]) (by kernel_rfl) (by kernel_rfl) (by kernel_rfl)
theorem rcH88 : RunH 5 [29, 30] := exec_cview envP1 (inr := false) (fun _ => rfl) (k := 200) (ids := [9]) (by kernel_rfl) (by kernel_rfl) (by kernel_rfl)
theorem rcX88 : RunX 5 [29, 30] := exec_cview envP1 (inr := false) (fun _ => rfl) (k := 200) (ids := [30]) (by kernel_rfl) (by kernel_rfl) (by kernel_rfl)
theorem rcH89 : RunH 5 [31] := exec_cview envP1 (inr := false) (fun _ => rfl) (k := 200) (ids := [9]) (by kernel_rfl) (by kernel_rfl) (by kernel_rfl)
theorem rcX89 : RunX 5 [31] := exec_cview envP1 (inr := false) (fun _ => rfl) (k := 200) (ids := [30]) (by kernel_rfl) (by kernel_rfl) (by kernel_rfl)
def tabX6 : List (Nat × List Int) := [(5, [17, 18, 28]), (5, [19, 28]), (5, [18, 25, 28]), (5, [19, 25, 28]), (5, [18, 29]), (5, [19, 29]), (5, [17, 26, 28]), (5, [25, 26, 28]), (5, [27, 28]), (5, [26, 29]), (5, [27, 29]), (5, [17, 30]), (5, [25, 30]), (5, [29, 30]), (5, [31])]
theorem tabX6_ok : AllL (fun e => RunH e.1 e.2 ∧ RunX e.1 e.2) tabX6 := ⟨⟨rcH75, rcX75⟩, ⟨rcH76, rcX76⟩, ⟨rcH77, rcX77⟩, ⟨rcH78, rcX78⟩, ⟨rcH79, rcX79⟩, ⟨rcH80, rcX80⟩, ⟨rcH81, rcX81⟩, ⟨rcH82, rcX82⟩, ⟨rcH83, rcX83⟩, ⟨rcH84, rcX84⟩, ⟨rcH85, rcX85⟩, ⟨rcH86, rcX86⟩, ⟨rcH87, rcX87⟩, ⟨rcH88, rcX88⟩, ⟨rcH89, rcX89⟩, trivial⟩
end Go.Proofs.Yteekkjfjpoaihaa.Eng

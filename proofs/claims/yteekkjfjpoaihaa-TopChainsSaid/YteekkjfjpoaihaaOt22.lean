/- A part of the proof of topChains_holds. -/
import Derived.Test.YteekkjfjpoaihaaOt13
set_option linter.all false
namespace Go.Proofs.Yteekkjfjpoaihaa.Eng
open Go Go.Proofs
theorem rcH0 : RunH 2 [3] := exec_cview envP1 (inr := false) (fun _ => rfl) (k := 200) (ids := [9]) (by kernel_rfl) (by kernel_rfl) (by kernel_rfl)
theorem rcX0 : RunX 2 [3] := exec_cview envP1 (inr := false) (fun _ => rfl) (k := 200) (ids := [30]) (by kernel_rfl) (by kernel_rfl) (by kernel_rfl)
theorem rcH1 : RunH 3 [3, 5] := exec_cview envP1 (inr := false) (fun _ => rfl) (k := 200) (ids := [9]) (by kernel_rfl) (by kernel_rfl) (by kernel_rfl)
theorem rcX1 : RunX 3 [3, 5] := exec_cview envP1 (inr := false) (fun _ => rfl) (k := 200) (ids := [30]) (by kernel_rfl) (by kernel_rfl) (by kernel_rfl)
theorem rcH2 : RunH 3 [5, 6] := exec_cview envP1 (inr := false) (fun _ => rfl) (k := 200) (ids := [9]) (by kernel_rfl) (by kernel_rfl) (by kernel_rfl)
theorem rcX2 : RunX 3 [5, 6] := exec_cview envP1 (inr := false) (fun _ => rfl) (k := 200) (ids := [30]) (by kernel_rfl) (by kernel_rfl) (by kernel_rfl)
theorem rcH3 : RunH 3 [7] := exec_cview envP1 (inr := false) (fun _ => rfl) (k := 200) (ids := [9]) (by kernel_rfl) (by kernel_rfl) (by kernel_rfl)
theorem rcX3 : RunX 3 [7] := exec_cview envP1 (inr := false) (fun _ => rfl) (k := 200) (ids := [30]) (by kernel_rfl) (by kernel_rfl) (by kernel_rfl)
theorem rcH4 : RunH 4 [3, 5, 9] := exec_cview envP1 (inr := false) (fun _ => rfl) (k := 200) (ids := [9]) (by kernel_rfl) (by kernel_rfl) (by kernel_rfl)
theorem rcX4 : RunX 4 [3, 5, 9] := exec_cview envP1 (inr := false) (fun _ => rfl) (k := 200) (ids := [30]) (by kernel_rfl) (by kernel_rfl) (by kernel_rfl)
theorem rcH5 : RunH 4 [7, 9] := exec_cview envP1 (inr := false) (fun _ => rfl) (k := 200) (ids := [9]) (by kernel_rfl) (by kernel_rfl) (by kernel_rfl)
theorem rcX5 : RunX 4 [7, 9] := exec_cview envP1 (inr := false) (fun _ => rfl) (k := 200) (ids := [30]) (by kernel_rfl) (by kernel_rfl) (by kernel_rfl)
theorem rcH6 : RunH 4 [5, 11] := exec_cview envP1 (inr := false) (fun _ => rfl) (k := 200) (ids := [9]) (by kernel_rfl) (by kernel_rfl) (by kernel_rfl)
theorem rcX6 : RunX 4 [5, 11] := exec_cview envP1 (inr := false) (fun _ => rfl) (k := 200) (ids := [30]) (by kernel_rfl) (by kernel_rfl) (by kernel_rfl)
theorem rcH7 : RunH 4 [7, 11] := exec_cview envP1 (inr := false) (fun _ => rfl) (k := 200) (ids := [9]) (by kernel_rfl) (by kernel_rfl) (by kernel_rfl)
theorem rcX7 : RunX 4 [7, 11] := exec_cview envP1 (inr := false) (fun _ => rfl) (k := 200) (ids := [30]) (by kernel_rfl) (by kernel_rfl) (by kernel_rfl)
theorem rcH8 : RunH 4 [3, 13] := exec_cview envP1 (inr := false) (fun _ => rfl) (k := 200) (ids := [9]) (by kernel_rfl) (by kernel_rfl) (by kernel_rfl)
theorem rcX8 : RunX 4 [3, 13] := exec_cview envP1 (inr := false) (fun _ => rfl) (k := 200) (ids := [30]) (by kernel_rfl) (by kernel_rfl) (by kernel_rfl)
theorem rcH9 : RunH 4 [9, 10, 12] := exec_cview envP1 (inr := false) (fun _ => rfl) (k := 200) (ids := [9]) (by kernel_rfl) (by kernel_rfl) (by kernel_rfl)
theorem rcX9 : RunX 4 [9, 10, 12] := exec_cview envP1 (inr := false) (fun _ => rfl) (k := 200) (ids := [30]) (by kernel_rfl) (by kernel_rfl) (by kernel_rfl)
theorem rcH10 : RunH 4 [11, 12] := exec_cview envP1 (inr := false) (fun _ => rfl) (k := 200) (ids := [9]) (by kernel_rfl) (by kernel_rfl) (by kernel_rfl)
theorem rcX10 : RunX 4 [11, 12] := exec_cview envP1 (inr := false) (fun _ => rfl) (k := 200) (ids := [30]) (by kernel_rfl) (by kernel_rfl) (by kernel_rfl)
theorem rcH11 : RunH 4 [10, 13] := exec_cview envP1 (inr := false) (fun _ => rfl) (k := 200) (ids := [9]) (by kernel_rfl) (by kernel_rfl) (by kernel_rfl)
theorem rcX11 : RunX 4 [10, 13] := exec_cview envP1 (inr := false) (fun _ => rfl) (k := 200) (ids := [30]) (by kernel_rfl) (by kernel_rfl) (by kernel_rfl)
theorem rcH12 : RunH 4 [11, 13] := exec_cview envP1 (inr := false) (fun _ => rfl) (k := 200) (ids := [9]) (by kernel_rfl) (by kernel_rfl) (by kernel_rfl)
theorem rcX12 : RunX 4 [11, 13] := exec_cview envP1 (inr := false) (fun _ => rfl) (k := 200) (ids := [30]) (by kernel_rfl) (by kernel_rfl) (by kernel_rfl)
theorem rcH13 : RunH 4 [9, 14] := exec_cview envP1 (inr := false) (fun _ => rfl) (k := 200) (ids := [9]) (by kernel_rfl) (by kernel_rfl) (by kernel_rfl)
theorem rcX13 : RunX 4 [9, 14] := exec_cview envP1 (inr := false) (fun _ => rfl) (k := 200) (ids := [30]) (by kernel_rfl) (by kernel_rfl) (by kernel_rfl)
theorem rcH14 : RunH 4 [13, 14] := exec_cview envP1 (inr := false) (fun _ => rfl) (k := 200) (ids := [9]) (by kernel_rfl) (by kernel_rfl) (by kernel_rfl)
theorem rcX14 : RunX 4 [13, 14] := exec_cview envP1 (inr := false) (fun _ => rfl) (k := 200) (ids := [30]) (by kernel_rfl) (by kernel_rfl) (by kernel_rfl)
theorem rcHone : RunH 1 [1] := exec_cview envP1 (inr := false) (fun _ => rfl) (k := 200) (ids := [9]) (by kernel_rfl) (by kernel_rfl) (by kernel_rfl)
theorem rcXone : RunX1 1 [1] := exec_cview envP1 (inr := false) (fun _ => rfl) (k := 200) (ids := []) (by kernel_rfl) (by kernel_rfl) (by kernel_rfl)
def tabX1 : List (Nat × List Int) := [(2, [3]), (3, [3, 5]), (3, [5, 6]), (3, [7]), (4, [3, 5, 9]), (4, [7, 9]), (4, [5, 11]), (4, [7, 11]), (4, [3, 13]), (4, [9, 10, 12]), (4, [11, 12]), (4, [10, 13]), (4, [11, 13]), (4, [9, 14]), (4, [13, 14])]
theorem tabX1_ok : AllL (fun e => RunH e.1 e.2 ∧ RunX e.1 e.2) tabX1 := ⟨⟨rcH0, rcX0⟩, ⟨rcH1, rcX1⟩, ⟨rcH2, rcX2⟩, ⟨rcH3, rcX3⟩, ⟨rcH4, rcX4⟩, ⟨rcH5, rcX5⟩, ⟨rcH6, rcX6⟩, ⟨rcH7, rcX7⟩, ⟨rcH8, rcX8⟩, ⟨rcH9, rcX9⟩, ⟨rcH10, rcX10⟩, ⟨rcH11, rcX11⟩, ⟨rcH12, rcX12⟩, ⟨rcH13, rcX13⟩, ⟨rcH14, rcX14⟩, trivial⟩
end Go.Proofs.Yteekkjfjpoaihaa.Eng

/- A part of the proof of topChains_holds. -/
import Derived.Test.YteekkjfjpoaihaaOt13
set_option linter.all false
namespace Go.Proofs.Yteekkjfjpoaihaa.Eng
open Go Go.Proofs
theorem rcH15 : RunH 4 [15] := exec_cview envP1 (inr := false) (fun _ => rfl) (k := 200) (ids := [9]) (by kernel_rfl) (by kernel_rfl) (by kernel_rfl)
theorem rcX15 : RunX 4 [15] := exec_cview envP1 (inr := false) (fun _ => rfl) (k := 200) (ids := [30]) (by kernel_rfl) (by kernel_rfl) (by kernel_rfl)
theorem rcH16 : RunH 5 [3, 5, 9, 17] := exec_cview envP1 (inr := false) (fun _ => rfl) (k := 200) (ids := [9]) (by kernel_rfl) (by kernel_rfl) (by kernel_rfl)
theorem rcX16 : RunX 5 [3, 5, 9, 17] := exec_cview envP1 (inr := false) (fun _ => rfl) (k := 200) (ids := [30]) (by kernel_rfl) (by kernel_rfl) (by kernel_rfl)
theorem rcH17 : RunH 5 [7, 9, 17] := exec_cview envP1 (inr := false) (fun _ => rfl) (k := 200) (ids := [9]) (by kernel_rfl) (by kernel_rfl) (by kernel_rfl)
theorem rcX17 : RunX 5 [7, 9, 17] := exec_cview envP1 (inr := false) (fun _ => rfl) (k := 200) (ids := [30]) (by kernel_rfl) (by kernel_rfl) (by kernel_rfl)
theorem rcH18 : RunH 5 [5, 11, 17] := exec_cview envP1 (inr := false) (fun _ => rfl) (k := 200) (ids := [9]) (by kernel_rfl) (by kernel_rfl) (by kernel_rfl)
theorem rcX18 : RunX 5 [5, 11, 17] := exec_cview envP1 (inr := false) (fun _ => rfl) (k := 200) (ids := [30]) (by kernel_rfl) (by kernel_rfl) (by kernel_rfl)
theorem rcH19 : RunH 5 [7, 11, 17] := exec_cview envP1 (inr := false) (fun _ => rfl) (k := 200) (ids := [9]) (by kernel_rfl) (by kernel_rfl) (by kernel_rfl)
theorem rcX19 : RunX 5 [7, 11, 17] := exec_cview envP1 (inr := false) (fun _ => rfl) (k := 200) (ids := [30]) (by kernel_rfl) (by kernel_rfl) (by kernel_rfl)
theorem rcH20 : RunH 5 [5, 9, 19] := exec_cview envP1 (inr := false) (fun _ => rfl) (k := 200) (ids := [9]) (by kernel_rfl) (by kernel_rfl) (by kernel_rfl)
theorem rcX20 : RunX 5 [5, 9, 19] := exec_cview envP1 (inr := false) (fun _ => rfl) (k := 200) (ids := [30]) (by kernel_rfl) (by kernel_rfl) (by kernel_rfl)
theorem rcH21 : RunH 5 [7, 9, 19] := exec_cview envP1 (inr := false) (fun _ => rfl) (k := 200) (ids := [9]) (by kernel_rfl) (by kernel_rfl) (by kernel_rfl)
theorem rcX21 : RunX 5 [7, 9, 19] := exec_cview envP1 (inr := false) (fun _ => rfl) (k := 200) (ids := [30]) (by kernel_rfl) (by kernel_rfl) (by kernel_rfl)
theorem rcH22 : RunH 5 [5, 11, 19] := exec_cview envP1 (inr := false) (fun _ => rfl) (k := 200) (ids := [9]) (by kernel_rfl) (by kernel_rfl) (by kernel_rfl)
theorem rcX22 : RunX 5 [5, 11, 19] := exec_cview envP1 (inr := false) (fun _ => rfl) (k := 200) (ids := [30]) (by kernel_rfl) (by kernel_rfl) (by kernel_rfl)
theorem rcH23 : RunH 5 [7, 11, 19] := exec_cview envP1 (inr := false) (fun _ => rfl) (k := 200) (ids := [9]) (by kernel_rfl) (by kernel_rfl) (by kernel_rfl)
theorem rcX23 : RunX 5 [7, 11, 19] := exec_cview envP1 (inr := false) (fun _ => rfl) (k := 200) (ids := [30]) (by kernel_rfl) (by kernel_rfl) (by kernel_rfl)
theorem rcH24 : RunH 5 [3, 13, 17] := exec_cview envP1 (inr := false) (fun _ => rfl) (k := 200) (ids := [9]) (by kernel_rfl) (by kernel_rfl) (by kernel_rfl)
theorem rcX24 : RunX 5 [3, 13, 17] := exec_cview envP1 (inr := false) (fun _ => rfl) (k := 200) (ids := [30]) (by kernel_rfl) (by kernel_rfl) (by kernel_rfl)
theorem rcH25 : RunH 5 [11, 13, 17] := exec_cview envP1 (inr := false) (fun _ => rfl) (k := 200) (ids := [9]) (by kernel_rfl) (by kernel_rfl) (by kernel_rfl)
theorem rcX25 : RunX 5 [11, 13, 17] := exec_cview envP1 (inr := false) (fun _ => rfl) (k := 200) (ids := [30]) (by kernel_rfl) (by kernel_rfl) (by kernel_rfl)
theorem rcH26 : RunH 5 [15, 17] := exec_cview envP1 (inr := false) (fun _ => rfl) (k := 200) (ids := [9]) (by kernel_rfl) (by kernel_rfl) (by kernel_rfl)
theorem rcX26 : RunX 5 [15, 17] := exec_cview envP1 (inr := false) (fun _ => rfl) (k := 200) (ids := [30]) (by kernel_rfl) (by kernel_rfl) (by kernel_rfl)
theorem rcH27 : RunH 5 [13, 19] := exec_cview envP1 (inr := false) (fun _ => rfl) (k := 200) (ids := [9]) (by kernel_rfl) (by kernel_rfl) (by kernel_rfl)
theorem rcX27 : RunX 5 [13, 19] := exec_cview envP1 (inr := false) (fun _ => rfl) (k := 200) (ids := [30]) (by kernel_rfl) (by kernel_rfl) (by kernel_rfl)
theorem rcH28 : RunH 5 [11, 13, 19] := exec_cview envP1 (inr := false) (fun _ => rfl) (k := 200) (ids := [9]) (by kernel_rfl) (by kernel_rfl) (by kernel_rfl)
theorem rcX28 : RunX 5 [11, 13, 19] := exec_cview envP1 (inr := false) (fun _ => rfl) (k := 200) (ids := [30]) (by kernel_rfl) (by kernel_rfl) (by kernel_rfl)
theorem rcH29 : RunH 5 [15, 19] := exec_cview envP1 (inr := false) (fun _ => rfl) (k := 200) (ids := [9]) (by kernel_rfl) (by kernel_rfl) (by kernel_rfl)
theorem rcX29 : RunX 5 [15, 19] := exec_cview envP1 (inr := false) (fun _ => rfl) (k := 200) (ids := [30]) (by kernel_rfl) (by kernel_rfl) (by kernel_rfl)
def tabX2 : List (Nat × List Int) := [(4, [15]), (5, [3, 5, 9, 17]), (5, [7, 9, 17]), (5, [5, 11, 17]), (5, [7, 11, 17]), (5, [5, 9, 19]), (5, [7, 9, 19]), (5, [5, 11, 19]), (5, [7, 11, 19]), (5, [3, 13, 17]), (5, [11, 13, 17]), (5, [15, 17]), (5, [13, 19]), (5, [11, 13, 19]), (5, [15, 19])]
theorem tabX2_ok : AllL (fun e => RunH e.1 e.2 ∧ RunX e.1 e.2) tabX2 := ⟨⟨rcH15, rcX15⟩, ⟨rcH16, rcX16⟩, ⟨rcH17, rcX17⟩, ⟨rcH18, rcX18⟩, ⟨rcH19, rcX19⟩, ⟨rcH20, rcX20⟩, ⟨rcH21, rcX21⟩, ⟨rcH22, rcX22⟩, ⟨rcH23, rcX23⟩, ⟨rcH24, rcX24⟩, ⟨rcH25, rcX25⟩, ⟨rcH26, rcX26⟩, ⟨rcH27, rcX27⟩, ⟨rcH28, rcX28⟩, ⟨rcH29, rcX29⟩, trivial⟩
end Go.Proofs.Yteekkjfjpoaihaa.Eng

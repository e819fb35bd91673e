/- A part of the proof of topChains_holds. -/
import Derived.Test.YteekkjfjpoaihaaOt13
set_option linter.all false
namespace Go.Proofs.Yteekkjfjpoaihaa.Eng
open Go Go.Proofs
noncomputable abbrev gP2 : Cal → Option Spec := gam F (alGet LP1) 200 12
theorem envP2 : EnvOK PP T gP2 := gam_ok tokP eqokP mixP F_ok (specsOK_L LP1_ok) 200 12
theorem body27 : Exec PP T none x27.nt 0 x27.body (startSt [] []) .r (mkSt [(0, ⟨true, B true⟩)] [] 0 []) :=
  exec_cview envP2 (inr := false) (fun _ => rfl) (k := 200) (ids := []) (by kernel_rfl) (by kernel_rfl) (by kernel_rfl)
noncomputable abbrev spThree : Spec := genS [] (fun _ => true) (fun _ => B true) fun _ => []
theorem ok27 : SpecOK PP (compC T) 27 spThree := ok_gen o27 (by kernel_rfl) fun pas hf hc => match pas, hf with
  | [], _ => ⟨_, 0, .r, body27, fun _ => rfl, by kernel_rfl, by kernel_rfl, by kernel_rfl⟩
end Go.Proofs.Yteekkjfjpoaihaa.Eng

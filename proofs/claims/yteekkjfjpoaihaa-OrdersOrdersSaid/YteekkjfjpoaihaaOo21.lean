/- A part of the proof of ordersOrders_holds. -/
import Derived.Test.YteekkjfjpoaihaaOo20
set_option linter.all false
namespace Go.Proofs.Yteekkjfjpoaihaa.Eng
open Go Go.Proofs
def ringL : List Int := [0, 1, 0, 4, 1, 2, 2, 3, 3, 4]
theorem w45 : Exec PP T none x45.nt 0 x45.body (startSt (A40 5 5) (H1 ringL)) .r (mkSt [(4, ⟨true, .av (.s (.sl 0 0 2 6))⟩), (5, ⟨true, B true⟩), (6, ⟨true, I 0⟩)] [⟨false, .ivec 38 .i64 2 [0, 1, 2, 1, 2, 3, 4, 3, 4, 0, 1, 0]⟩] 1 []) :=
  exec_cview envR (inr := false) (fun _ => rfl) (k := 200) (ids := [532]) (by kernel_rfl) (by kernel_rfl) (by kernel_rfl)
abbrev sp45 : Spec := spLit 5 ringL 5 (.tup [.s (.sl 0 0 2 6), .s (.bool true), .s (.int .i64 0)]) [⟨false, .ivec 38 .i64 2 [0, 1, 2, 1, 2, 3, 4, 3, 4, 0, 1, 0]⟩]
theorem ok45ring : SpecOK PP (compC T) 45 sp45 := spLit_ok o45 (by kernel_rfl) w45 (by kernel_rfl) (by kernel_rfl) (by kernel_rfl) (by kernel_rfl) (by kernel_rfl)
theorem w10' : Exec PP T none x10.nt 0 x10.body (startSt (A40 5 5) (H1 ringL)) .r (mkSt [(4, ⟨true, .av (.s .nils)⟩), (5, ⟨true, B false⟩), (6, ⟨true, I 0⟩)] [] 0 []) :=
  exec_cview envR (inr := false) (fun _ => rfl) (k := 200) (ids := []) (by kernel_rfl) (by kernel_rfl) (by kernel_rfl)
abbrev sp10 : Spec := spLit 5 ringL 5 (.tup [.s .nils, .s (.bool false), .s (.int .i64 0)]) []
theorem ok10ring : SpecOK PP (compC T) 10 sp10 := spLit_ok o10 (by kernel_rfl) w10' (by kernel_rfl) (by kernel_rfl) (by kernel_rfl) (by kernel_rfl) (by kernel_rfl)
def sqL : List Int := [0, 1, 0, 3, 1, 2, 2, 3]
theorem w8 : Exec PP T none x8.nt 0 x8.body (startSt (A40 4 4) (H1 sqL)) .r (mkSt [(4, ⟨true, I 2⟩), (5, ⟨true, I 0⟩)] [] 0 []) :=
  exec_cview envR (inr := false) (fun _ => rfl) (k := 200) (ids := []) (by kernel_rfl) (by kernel_rfl) (by kernel_rfl)
abbrev sp8 : Spec := spLit 4 sqL 4 (.tup [.s (.int .i64 2), .s (.int .i64 0)]) []
theorem ok8sq : SpecOK PP (compC T) 8 sp8 := spLit_ok o8 (by kernel_rfl) w8 (by kernel_rfl) (by kernel_rfl) (by kernel_rfl) (by kernel_rfl) (by kernel_rfl)
def starL : List Int := [0, 1, 0, 2, 0, 3]
theorem w20 : Exec PP T none x20.nt 0 x20.body (startSt (A40 4 3) (H1 starL)) .r (mkSt [(4, ⟨true, .av (.s (.sl 0 0 1 4))⟩), (5, ⟨true, I 0⟩)] [⟨false, .ivec 3 .i64 1 [0, 1, 1, 1]⟩] 1 []) :=
  exec_cview envR (inr := false) (fun _ => rfl) (k := 200) (ids := [10]) (by kernel_rfl) (by kernel_rfl) (by kernel_rfl)
abbrev sp20 : Spec := spLit 4 starL 3 (.tup [.s (.sl 0 0 1 4), .s (.int .i64 0)]) [⟨false, .ivec 3 .i64 1 [0, 1, 1, 1]⟩]
theorem ok20star : SpecOK PP (compC T) 20 sp20 := spLit_ok o20 (by kernel_rfl) w20 (by kernel_rfl) (by kernel_rfl) (by kernel_rfl) (by kernel_rfl) (by kernel_rfl)
def LA : List (Nat × Spec) := [(45, sp45), (10, sp10), (8, sp8), (20, sp20)]
theorem LA_ok : SpecsL LA := specsL_cons ok45ring (spLit_fp _ _ _ _ _) o45 (specsL_cons ok10ring (spLit_fp _ _ _ _ _) o10 (specsL_cons ok8sq (spLit_fp _ _ _ _ _) o8 (specsL_cons ok20star (spLit_fp _ _ _ _ _) o20 (fun p hp => absurd hp (by simp)))))
noncomputable abbrev gW : Cal → Option Spec := gam F (alGet LA) 200 6
theorem envW : EnvOK PP T gW := gam_ok tokP eqokP mixP F_ok (specsOK_L LA_ok) 200 6
end Go.Proofs.Yteekkjfjpoaihaa.Eng

/- A part of the proof of ordersOrders_holds. -/
import Derived.Test.YteekkjfjpoaihaaOo14
set_option linter.all false
namespace Go.Proofs.Yteekkjfjpoaihaa.Eng
open Go Go.Proofs
theorem w21 : Exec PP T none x54.nt 0 x54.body (startSt (A54 2 1) (HR ring5 5)) .r (R54 q21 e21) :=
  exec_view envA (inr := false) (fun _ => rfl) (k := 200) (os := tt11) (ids := [101, 2, 122, 111, 99, 87, 75, 63, 51, 39, 27, 15]) (ob := true) (by kernel_rfl) rfl (by kernel_rfl) (by kernel_rfl)
theorem w23 : Exec PP T none x54.nt 0 x54.body (startSt (A54 2 3) (HR ring5 5)) .r (R54 q23 e23) :=
  exec_view envA (inr := false) (fun _ => rfl) (k := 200) (os := tt11) (ids := [101, 2, 122, 111, 99, 87, 75, 63, 51, 39, 27, 15]) (ob := true) (by kernel_rfl) rfl (by kernel_rfl) (by kernel_rfl)
end Go.Proofs.Yteekkjfjpoaihaa.Eng

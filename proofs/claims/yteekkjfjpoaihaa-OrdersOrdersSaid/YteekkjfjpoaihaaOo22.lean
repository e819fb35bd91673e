/- A part of the proof of ordersOrders_holds. -/
import Derived.Test.YteekkjfjpoaihaaOo21
set_option linter.all false
namespace Go.Proofs.Yteekkjfjpoaihaa.Eng
open Go Go.Proofs
theorem body11 : Exec PP T none x11.nt 0 x11.body (startSt [] []) .r (RB 0 true) :=
  exec_cview envW (inr := false) (fun _ => rfl) (k := 200) (ids := []) (by kernel_rfl) (by kernel_rfl) (by kernel_rfl)
theorem ok11 : SpecOK PP (compC T) 11 (pureS gAwake) := by
  refine spec_pure tokP o11 fun ctx m h w args vals v rd base hH hargs hg => ?_
  unfold gAwake at hg
  split at hg
  · simp only [Option.some.injEq, Prod.mk.injEq] at hg
    obtain ⟨_, rfl, rfl⟩ := hg
    match vals, hargs with
    | [], _ => exact ⟨emV, [], [], shown_val (ts := [(0, ⟨true, B true⟩)]) ro0 trivial (by kernel_rfl) body11 (fun _ => rfl) (by kernel_rfl) (by kernel_rfl)⟩
  · cases hg
end Go.Proofs.Yteekkjfjpoaihaa.Eng

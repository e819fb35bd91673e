/- A part of the proof of topChains_holds. -/
import Derived.Test.YteekkjfjpoaihaaOt07
set_option linter.all false
namespace Go.Proofs.Yteekkjfjpoaihaa.Eng
open Go Go.Proofs
noncomputable def cview (ts ids : List Nat) (q : Option (XE × St)) : Option (XE × List (Option Slot) × List (Option HO) × List Nat) :=
  q.map fun q => (q.1, ts.map q.2.sl.get, ids.map q.2.hp.get, q.2.df)
theorem exec_cview {P : Program} {T : Tab} {r : Option Nat} {Γ : Cal → Option Spec} {nt kp : Nat} (hE : EnvOK P T Γ) {inr : Bool} (hr : inr = false → r = none) {k : Nat} {c : XC} {S : St} {e : XE} {ts : List (Nat × Slot)} {hs : List HO} {nx : Nat} {df ids : List Nat}
    (hv : cview (ts.map (·.1)) ids (crun Γ inr k c S) = some (e, ts.map (fun p => some ⟨p.2.c, p.2.v.ren fun j => ids.getD j 0⟩), hs.map (fun h => some (h.ren fun j => ids.getD j 0)), df.map fun j => ids.getD j 0))
    (hok : mkOk ts hs ids kp = true) (hdl : df.all (fun j => Nat.blt j hs.length) = true) : Exec P T r nt kp c S e (mkSt ts hs nx df) := by
  unfold cview at hv
  obtain ⟨⟨e1, S1⟩, h1, h2⟩ := Option.map_eq_some_iff.1 hv
  simp only [Prod.mk.injEq] at h2
  obtain ⟨rfl, h3, h4, h5⟩ := h2
  refine (crun_snd hE hr k c S S1 e1 h1).1.post (weak_mk (ids := ids) hok (fun p hp => ?_) (fun j h hj => ?_) h5 fun j hj => Nat.le_of_ble_eq_true (List.all_eq_true.1 hdl j hj))
  · rw [List.map_map] at h3
    exact List.map_inj_left.1 h3 p hp
  · have hok' := hok
    simp only [mkOk, Bool.and_eq_true] at hok'
    have hlen := Nat.eq_of_beq_eq_true hok'.1.2
    have hlt : j < hs.length := (List.getElem?_eq_some_iff.1 hj).1
    have := congrArg (fun l => l[j]?) h4
    simp only [List.getElem?_map, hj, Option.map_some] at this
    have e : ids[j]? = some (ids.getD j 0) := by
      have : j < ids.length := by omega
      simp [this]
    rw [e] at this
    simpa using this
/-- an environment: these contracts, and all else in place -/
theorem specsOK_L {l : List (Nat × Spec)} (h : SpecsL l) : SpecsOK PP T (alGet l) :=
  ⟨fun f sp hf => (h _ (alGet_mem hf)).1, fun f sp hf => (h _ (alGet_mem hf)).2.1, fun f sp hf => (h _ (alGet_mem hf)).2.2⟩
end Go.Proofs.Yteekkjfjpoaihaa.Eng

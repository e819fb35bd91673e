/- OrdersChecks: whatever the int, the slice of pairs and the pair that are handed in, in whatever memory: the call answers true, and each argument reads behind it as it read before. No condition on the input. -/
import Derived.Test.YteekkjfjpoaihaaHi
import Derived.Test.YteekkjfjpoaihaaHj
set_option linter.all false
namespace Go.Proofs.Yteekkjfjpoaihaa
open Go.ChangeShapes Go.WideShapes Go.ChangeAt Go.RowKit
open Eng (open_pairs open_two two_ar calls_law ok11 body6 mm1 ro1 H1 A6)

theorem checksOwn : ownKnob Try.prog.godebug = none := by kernel_rfl
theorem checksLaid : laidOutB Try.prog = true := by kernel_rfl

set_option maxRecDepth 100000 in
theorem checks_lifted (os : Os) (started : os.Started) (H : Type) (enc : TypeId × Value → H) :
    ReturnsInHanded {} Try.checked os 6 .any (Rows.ordersChecksSpec.pre6 enc Try.prog Try.f6 Rows.ordersChecksRow.domain false) (Rows.ordersChecksSpec.post enc Try.prog Try.f6 false true false false) := by
  refine returnsInHanded_of_change (C := Try.checked) checksOwn started (by kernel_rfl) Try.func6
    (ChangeSpec.witness6 (enc := enc) (C := Try.checked) false ⟨#[], #[.int .i64 0, .slice none 0 0, .agg #[.int .i64 0, .int .i64 0]], []⟩ 8 (by kernel_rfl) (by kernel_rfl) (by kernel_rfl) (by kernel_rfl)) ?_
  intro W base args ds gs before hval0 hW hcnd _
  have hval : ∀ (j : Nat) t v, Try.f6.params[j]? = some t → args[j]? = some v → Value.okWide Try.prog W .any base t v := hval0
  have hW' := hW
  obtain ⟨p, q, hA0, hV, rfl, hfz, hnd⟩ := hW
  have hA : DataW.TrodAll enc Try.prog W 0 (fun _ => true) true Try.f6.params.toList args.toList ds p := hA0
  rw [Try.params6] at hA hval
  obtain ⟨v0, v1, v2, d0, d1, d2, p0, p1, p2, rfl, rfl, rfl, h0, h1, h2⟩ := trodAll_three hA
  obtain ⟨rfl, rfl⟩ := trodVars_none hV
  have lt : ∀ {t v d p}, DataW.Trod enc Try.prog W 0 (fun _ => true) true t v d p → ∀ x ∈ p, x.block < W.heap.size := fun h x hx => by
    obtain ⟨m, hm⟩ := h
    exact DataW.trod_lt m _ _ _ hm x hx
  have k0 := h0
  have k1 := h1
  have k2 := h2
  obtain ⟨n, rfl, rfl, rfl, _⟩ := open_int Try.underlying3 (hval 0 3 v0 rfl rfl) h0
  have ok1 := hval 1 22 v1 rfl rfl
  obtain ⟨a, len, cap, rfl⟩ := okWide_slice Try.underlying22 ok1
  obtain ⟨fuel, hf⟩ := h1
  simp only [Value.cells] at hf
  obtain ⟨mb, ql, r1, r2, r3, r4⟩ := open_pairs ok1 hf
  obtain ⟨x, y, rfl⟩ := open_two (hval 2 38 v2 rfl rfl)
  clear hA0 hval0
  have run : Calls Try.prog 6 #[.int .i64 n, .slice a len cap, .agg #[.int .i64 x, .int .i64 y]] W fun e w' => e = .returned (.bool true) ∧ Below W.heap.size W w' :=
    calls_law (vals := [.int .i64 n, .slice a len cap, .agg #[.int .i64 x, .int .i64 y]]) Eng.o6 (m0 := mm1 mb) (hs := H1 ql) (args0 := A6 n len x y) (t := 6) (ro1 r1 r2) ⟨rfl, r3 (mm1 mb) 0 rfl, two_ar, trivial⟩ (by kernel_rfl) (body6 ok11 r4) (by kernel_rfl)
  refine run.mono fun e W' ⟨he, bel⟩ => ?_
  subst he
  exact ⟨_, rfl, _, _, _, [], _, [], hW', trodAll_mk1 (shut_bool Try.underlying4 _), (trodAll_cons_mk (Below.trod checksLaid (by kernel_rfl) (of_decide_eq_true (by kernel_rfl)) k0 bel (lt k0)) (trodAll_cons_mk (Below.trod checksLaid (by kernel_rfl) (of_decide_eq_true (by kernel_rfl)) k1 bel (lt k1)) (trodAll_cons_mk (Below.trod checksLaid (by kernel_rfl) (of_decide_eq_true (by kernel_rfl)) k2 bel (lt k2)) trodAll_mk0))), rfl, bel.frame _, fun h => by cases h⟩

/-- the statement -/
theorem ordersChecks_holds : Rows.OrdersChecksSaid :=
  OpenClaim.holds_of_wide 6 Try.f6 rfl rfl rfl rfl rfl rfl rfl ⟨rfl, rfl, rfl, rfl, rfl⟩ rfl rfl rfl rfl rfl (by kernel_rfl) Try.func6 (by kernel_rfl)
    (of_decide_eq_true (by kernel_rfl)) (by unfold Func.isWrapper; first | (rw [if_pos (by decide +kernel)]; kernel_rfl) | (rw [if_neg (by decide +kernel)]; exact ⟨rfl, rfl⟩))
    (fun os started H enc _ => checks_lifted os started H enc)

end Go.Proofs.Yteekkjfjpoaihaa

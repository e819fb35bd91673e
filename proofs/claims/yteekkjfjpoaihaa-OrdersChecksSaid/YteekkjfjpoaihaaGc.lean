/- Contracts by hand, part 3: comparisons. -/
import Derived.Test.YteekkjfjpoaihaaGb
set_option linter.all false
namespace Go.Proofs.Yteekkjfjpoaihaa.Eng
open Go Go.Proofs

/-! ### R.less -/

def lessP (a0 a1 b0 b1 : Int) : Bool := bif decide (a0 < b0) then true else bif (a0 == b0) then decide (a1 < b1) else false

def emV : MM := fun _ => none
theorem ro0 {cmp : Cmp} {w : World} : RoView cmp emV [] w := ⟨fun j ho hj => by simp at hj, fun _ _ => rfl⟩

abbrev A79 (a0 a1 b0 b1 : Int) : List AV := [.pb [.int .i64 a0, .int .i64 a1] 0 ff, .pb [.int .i64 b0, .int .i64 b1] 0 ff]

theorem body79 {a0 a1 b0 b1 : Int} : Exec PP T none x79.nt 0 x79.body (startSt (A79 a0 a1 b0 b1) []) .r (R78 (lessP a0 a1 b0 b1)) := by
  refine exec_orun env0 false 60 [] [] (fun _ => rfl) (by kernel_rfl) (by kernel_rfl) (by kernel_rfl) ?_
  rw [(show obOf (orun g0 false 60 x79.body (startSt (A79 a0 a1 b0 b1) []) []) = (decide (0 ≤ 0) && decide (0 < 2) &&
    (decide (0 ≤ 0) && decide (0 < 2) &&
      ((!decide (a0 < b0) == false || decide (0 ≤ 0) && decide (0 < 2)) &&
        ((!decide (a0 < b0) == false || decide (a0 < b0) == false && true && true) &&
          ((!decide (a0 < b0) == false || decide (0 ≤ 0) && decide (0 < 2)) &&
            ((!decide (a0 < b0) == false || decide (a0 < b0) == false && true && true) &&
              ((!decide (a0 < b0) == false ||
                  decide (a0 < b0) == false && (decide (a0 < b0) == false && true) && true) &&
                ((!decide (a0 < b0) == false || decide (a0 < b0) == false && true && true) &&
                  ((!(decide (a0 < b0) == false && (a0 == b0) == true) || decide (0 ≤ 1) && decide (1 < 2)) &&
                    ((!(decide (a0 < b0) == false && (a0 == b0) == true) ||
                        decide (a0 < b0) == false && (a0 == b0) == true && true && true) &&
                      ((!(decide (a0 < b0) == false && (a0 == b0) == true) || decide (0 ≤ 1) && decide (1 < 2)) &&
                        ((!(decide (a0 < b0) == false && (a0 == b0) == true) ||
                            decide (a0 < b0) == false && (a0 == b0) == true && true && true) &&
                          ((!(decide (a0 < b0) == false && (a0 == b0) == true) ||
                              decide (a0 < b0) == false && (a0 == b0) == true &&
                                  (decide (a0 < b0) == false && (a0 == b0) == true && true) &&
                                true) &&
                            ((!decide (a0 < b0) == false ||
                                (decide (a0 < b0) == false &&
                                    bif a0 == b0 then decide (a0 < b0) == false && (a0 == b0) == true else true) &&
                                  true) &&
                              ((bif decide (a0 < b0) then true else decide (a0 < b0) == false) && true &&
                                true)))))))))))))) &&
  true) from by kernel_rfl)]
  by_cases h1 : a0 < b0 <;> by_cases h2 : a0 = b0 <;> simp [h1, h2]

def gLess (args : List AV) (_ : Nat → Option HO) : Option (Bool × TV × List Nat) := match args with
  | [.pb [.int .i64 a0, .int .i64 a1] 0 _, .pb [.int .i64 b0, .int .i64 b1] 0 _] => some (true, B (lessP a0 a1 b0 b1), [])
  | _ => none

theorem gLess_fp : PureFp gLess := by
  intro args h h' q hg hf
  exact hg

theorem pb2_any {m m' : MM} {k k' : IntKind} {a b : Int} {f : Nat → Bool} {v : Value} (h : AR m (.pb [.int k a, .int k' b] 0 f) v) : AR m' (.pb [.int k a, .int k' b] 0 ff) v := by
  obtain ⟨cs, e1, vs, e2, e3, e4⟩ := h
  refine ⟨cs, e1, vs, ?_, e3, by simpa [bcells] using e4⟩
  match vs, e2 with
  | [u1, u2], ⟨p1, p2, _⟩ => exact ⟨p1, p2, trivial⟩

theorem ok79 : SpecOK PP (compC T) 79 (pureS gLess) := by
  refine spec_pure tokP o79 fun ctx m h w args vals v rd base hH hargs hg => ?_
  unfold gLess at hg
  split at hg
  · rename_i a0 a1 f1 b0 b1 f2
    simp only [Option.some.injEq, Prod.mk.injEq] at hg
    obtain ⟨_, rfl, rfl⟩ := hg
    match vals, hargs with
    | [v1, v2], ⟨ha1, ha2, _⟩ =>
      exact ⟨emV, [], A79 a0 a1 b0 b1, shown_val (ts := [(4, ⟨true, B (lessP a0 a1 b0 b1)⟩)]) ro0 ⟨pb2_any ha1, pb2_any ha2, trivial⟩ (by kernel_rfl) body79 (fun _ => rfl) (by kernel_rfl) (by kernel_rfl)⟩
  · cases hg

/-! ### isNaN and Compare of ints -/

abbrev RB (t : Nat) (v : Bool) : St := mkSt [(t, ⟨true, B v⟩)] [] 0 []
abbrev RI (t : Nat) (v : Int) : St := mkSt [(t, ⟨true, I v⟩)] [] 0 []

theorem body122 {a : Int} : Exec PP T none x122.nt 0 x122.body (startSt [.s (.int .i64 a)] []) .r (RB 2 (a != a)) := by
  refine exec_orun env0 false 60 [] [] (fun _ => rfl) (by kernel_rfl) (by kernel_rfl) (by kernel_rfl) (by kernel_rfl)

def gNaN (args : List AV) (_ : Nat → Option HO) : Option (Bool × TV × List Nat) := match args with
  | [.s (.int .i64 a)] => some (true, B (a != a), [])
  | _ => none
theorem gNaN_fp : PureFp gNaN := by
  intro args h h' q hg hf
  exact hg
theorem ok122 : SpecOK PP (compC T) 122 (pureS gNaN) := by
  refine spec_pure tokP o122 fun ctx m h w args vals v rd base hH hargs hg => ?_
  unfold gNaN at hg
  split at hg
  · rename_i a
    simp only [Option.some.injEq, Prod.mk.injEq] at hg
    obtain ⟨_, rfl, rfl⟩ := hg
    match vals, hargs with
    | [v1], ⟨ha1, _⟩ =>
      exact ⟨emV, [], [.s (.int .i64 a)], shown_val (ts := [(2, ⟨true, B (a != a)⟩)]) ro0 ⟨ha1, trivial⟩ (by kernel_rfl) body122 (fun _ => rfl) (by kernel_rfl) (by kernel_rfl)⟩
  · cases hg

/-! a few specifications, as an environment -/
noncomputable def specsΓ (l : List (Nat × Spec)) : Cal → Option Spec
  | .f f => alGet l f
  | .y _ => none
def SpecsL (l : List (Nat × Spec)) : Prop := ∀ p ∈ l, SpecOK PP (compC T) p.1 p.2 ∧ SpecFp p.2 ∧ Bodied PP p.1
theorem specsL_nil : SpecsL [] := fun _ h => by cases h
theorem specsL_cons {f : Nat} {sp : Spec} {x : XFn} {l : List (Nat × Spec)} (h1 : SpecOK PP (compC T) f sp) (h2 : SpecFp sp) (h3 : FunOK PP T f x) (hl : SpecsL l) : SpecsL ((f, sp) :: l) := fun p hp => by
  rcases List.mem_cons.1 hp with rfl | hp
  · exact ⟨h1, h2, h3.1⟩
  · exact hl p hp
theorem envL {l : List (Nat × Spec)} (h : SpecsL l) : EnvOK PP T (specsΓ l) :=
  ⟨tokP, eqokP, ⟨fun f sp hf => (h _ (alGet_mem hf)).1, fun id sp hf => (by cases hf)⟩, fun f sp hf => (h _ (alGet_mem hf)).2.2, fun c sp hc => (by cases c with | f f => exact (h _ (alGet_mem hc)).2.1 | y id => cases hc), mixP⟩

def L1 : List (Nat × Spec) := [(122, pureS gNaN), (79, pureS gLess), (78, pureS gHas)]
theorem L1_ok : SpecsL L1 := specsL_cons ok122 (pureS_fp gNaN_fp) o122 (specsL_cons ok79 (pureS_fp gLess_fp) o79 (specsL_cons ok78 (pureS_fp gHas_fp) o78 specsL_nil))
noncomputable abbrev g1 : Cal → Option Spec := specsΓ L1
theorem env1 : EnvOK PP T g1 := envL L1_ok

def cmpI (a b : Int) : Int := bif decide (a < b) then -1 else bif decide (a > b) then 1 else 0

theorem body112 {a b : Int} : Exec PP T none x112.nt 0 x112.body (startSt [.s (.int .i64 a), .s (.int .i64 b)] []) .r (RI 4 (cmpI a b)) := by
  unfold cmpI
  cases h1 : decide (a < b) with
  | true =>
    refine exec_orun env1 false 60 [false, false, true] [] (fun _ => rfl) (by kernel_rfl) (by kernel_rfl) (by kernel_rfl) ?_
    rw [(show obOf (orun g1 false 60 x112.body (startSt [.s (.int .i64 a), .s (.int .i64 b)] []) [false, false, true]) = (!a != a && true && (!b != b && true && (decide (a < b) && true))) from by kernel_rfl)]
    simp [h1]
  | false =>
    cases h2 : decide (a > b) with
    | true =>
      refine exec_orun env1 false 60 [false, false, false, true] [] (fun _ => rfl) (by kernel_rfl) (by kernel_rfl) (by kernel_rfl) ?_
      rw [(show obOf (orun g1 false 60 x112.body (startSt [.s (.int .i64 a), .s (.int .i64 b)] []) [false, false, false, true]) = (!a != a && true && (!b != b && true && (!decide (a < b) && true && (decide (a > b) && true)))) from by kernel_rfl)]
      simp [h1, h2]
    | false =>
      refine exec_orun env1 false 60 [false, false, false, false] [] (fun _ => rfl) (by kernel_rfl) (by kernel_rfl) (by kernel_rfl) ?_
      rw [(show obOf (orun g1 false 60 x112.body (startSt [.s (.int .i64 a), .s (.int .i64 b)] []) [false, false, false, false]) = (!a != a && true && (!b != b && true && (!decide (a < b) && true && (!decide (a > b) && true && true)))) from by kernel_rfl)]
      simp [h1, h2]

end Go.Proofs.Yteekkjfjpoaihaa.Eng

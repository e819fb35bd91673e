/- Contracts by hand, part 11: the functions that hand back what is wrong with a graph or an order. -/
import Derived.Test.YteekkjfjpoaihaaGj
set_option linter.all false
namespace Go.Proofs.Yteekkjfjpoaihaa.Eng
open Go Go.Proofs

theorem body60 : Exec PP T none x60.nt 0 x60.body (startSt [] []) .r (mkSt [(0, g1S 0)] [⟨false, .row 70 [] 49 ff⟩] 1 []) := by
  refine exec_orun env0 false 60 [] [0] (fun _ => rfl) (by kernel_rfl) (by kernel_rfl) (by kernel_rfl) (by kernel_rfl)
def gNone (args : List AV) (_ : Nat → Option HO) : Option (Bool × TV × List Nat) := match args with
  | [] => some (true, .av (.pb [] 49 ff), [])
  | _ => none
theorem gNone_fp : PureFp gNone := fun args h h' q hg hf => hg
theorem ok60 : SpecOK PP (compC T) 60 (pureS gNone) := by
  refine spec_pure tokP o60 fun ctx m h w args vals v rd base hH hargs hg => ?_
  unfold gNone at hg
  split at hg
  · simp only [Option.some.injEq, Prod.mk.injEq] at hg
    obtain ⟨_, rfl, rfl⟩ := hg
    match vals, hargs with
    | [], _ => exact ⟨emV, [], [], shown_valH (ts := [(0, g1S 0)]) (hs' := [⟨false, .row 70 [] 49 ff⟩]) (nx := 1) ro0 trivial (by kernel_rfl) body60 (fun _ => rfl) (by kernel_rfl) (by kernel_rfl)⟩
  · cases hg

def L5 : List (Nat × Spec) := (60, pureS gNone) :: (59, pureS (intPairsX 0 anyC orderR)) :: L4
theorem L5_ok : SpecsL L5 := specsL_cons ok60 (pureS_fp gNone_fp) o60 (specsL_cons ok59 (pureS_fp (intPairsX_fp _ _ _)) o59 L4_ok)
/-- where open refuses -/
def L5e : List (Nat × Spec) := (48, pureS openE) :: L5
theorem L5e_ok : SpecsL L5e := specsL_cons ok48e (pureS_fp (intPairsX_fp _ _ _)) o48 L5_ok
noncomputable abbrev g5e : Cal → Option Spec := specsΓ L5e
theorem env5e : EnvOK PP T g5e := envL L5e_ok
/-- where it does not -/
def L5g : List (Nat × Spec) := (48, spOpen) :: L5
theorem L5g_ok : SpecsL L5g := specsL_cons ok48 spOpen_fp o48 L5_ok
noncomputable abbrev g5g : Cal → Option Spec := specsΓ L5g
theorem env5g : EnvOK PP T g5g := envL L5g_ok

def ord1 (n : Int) (q : List Int) (m : Nat) : Bool := !(orderE n q m == 0)

/-! an int, a slice of pairs, and pairs -/
def isPair : AV → Bool
  | .pb [.int .i64 _, .int .i64 _] 0 _ => true
  | _ => false
def nrmPair : AV → AV
  | .pb [.int .i64 a, .int .i64 b] 0 _ => .pb [.int .i64 a, .int .i64 b] 0 ff
  | x => x
theorem isPair_ex {v : AV} (h : isPair v = true) : ∃ a b f, v = .pb [.int .i64 a, .int .i64 b] 0 f := by
  unfold isPair at h
  split at h
  · exact ⟨_, _, _, rfl⟩
  · cases h
theorem nrm_ar {m m' : MM} {v : AV} {u : Value} (h : isPair v = true) (hv : AR m v u) : AR m' (nrmPair v) u := by
  obtain ⟨a, b, f, rfl⟩ := isPair_ex h
  exact pb2_any hv
theorem nrm_all {m m' : MM} : ∀ {l : List AV} {r : List Value}, l.all isPair = true → All2 (AR m) l r → All2 (AR m') (l.map nrmPair) r
  | [], [], _, _ => trivial
  | _ :: _, _ :: _, hp, ⟨h1, h2⟩ => by
    rw [List.all_cons, Bool.and_eq_true] at hp
    exact ⟨nrm_ar hp.1 h1, nrm_all hp.2 h2⟩
  | [], _ :: _, _, h => h.elim
  | _ :: _, [], _, h => h.elim
def intPairsP (k : Nat) (c : Int → List Int → Nat → Bool) (f : Int → List Int → Nat → TV) (args : List AV) (h : Nat → Option HO) : Option (Bool × TV × List Nat) := match args with
  | .s (.int .i64 n) :: s :: rest => bif Nat.beq rest.length k && rest.all isPair then match srcOf (.av s) h .i64 2 with
    | some (vc, q, m, rd) => some (vc && (bndL m && c n q m), f n q m, rd)
    | none => none
    else none
  | _ => none
theorem intPairsP_fp (k : Nat) (c : Int → List Int → Nat → Bool) (f : Int → List Int → Nat → TV) : PureFp (intPairsP k c f) := by
  intro args h h' q hg hf
  unfold intPairsP at hg ⊢
  split at hg
  · rename_i n s rest
    cases hk : Nat.beq rest.length k && rest.all isPair with
    | false => rw [hk] at hg; cases hg
    | true =>
      simp only [hk, cond_true] at hg ⊢
      split at hg
      · rename_i hs
        cases hg
        rw [srcOf_fp hs hf]
      · cases hg
  · cases hg
theorem intPairsP_ok {f : FuncId} {x : XFn} (hx : FunOK PP T f x) (k : Nat) (c : Int → List Int → Nat → Bool) (t : Int → List Int → Nat → List (Nat × Slot)) (hs' : Int → List Int → Nat → List HO) (nx : Nat) (v : Int → List Int → Nat → TV) (hlen : Nat.ble (k + 2) x.nt = true) (hb : ∀ n q m (rest : List AV), rest.length = k → rest.all isPair = true → q.length = m * 2 → m ≤ 1000000000 → c n q m = true → Exec PP T none x.nt 0 x.body (startSt (A40 n m ++ rest.map nrmPair) (H1 q)) .r (mkSt (t n q m) (hs' n q m) nx []))
    (hres : ∀ n q m, resV (mkSt (t n q m) (hs' n q m) nx []).sl.get (mkSt (t n q m) (hs' n q m) nx []).hp.get x.res = some (true, v n q m)) (hids : ∀ n q m, (v n q m).ids = []) : SpecOK PP (compC T) f (pureS (intPairsP k c v)) := by
  refine spec_pure tokP hx fun ctx m h w args vals u rd base hH hargs hg => ?_
  unfold intPairsP at hg
  split at hg
  · rename_i n s rest
    cases hk : Nat.beq rest.length k && rest.all isPair with
    | false => rw [hk] at hg; cases hg
    | true =>
      rw [hk, cond_true] at hg
      rw [Bool.and_eq_true] at hk
      obtain ⟨hk, hp⟩ := hk
      have hk := Nat.eq_of_beq_eq_true hk
      subst hk
      split at hg
      · rename_i vc q m' rd' hs
        simp only [Option.some.injEq, Prod.mk.injEq, Bool.and_eq_true] at hg
        obtain ⟨⟨rfl, hm, hc⟩, rfl, rfl⟩ := hg
        match vals, hargs with
        | v1 :: v2 :: vr, ⟨ha1, ha2, har⟩ =>
          obtain ⟨mb, k1, k2, k3, k4⟩ := view_slice hH ha2 hs
          have hall : All2 (AR (mm1 mb)) (.s (.int .i64 n) :: .s (.sl 0 0 2 m') :: rest.map nrmPair) (v1 :: v2 :: vr) := ⟨ha1, k3 (mm1 mb) 0 rfl, nrm_all hp har⟩
          exact ⟨mm1 mb, H1 q, A40 n m' ++ rest.map nrmPair, shown_valH (ro1 k1 k2) hall (by simpa using hlen) (hb n q m' rest rfl hp k4 (by simpa [bndL] using hm) hc) (fun _ => rfl) (hres n q m') (hids n q m')⟩
      · cases hg
  · cases hg

theorem tk0 {q : List Int} {m : Nat} (hq : q.length = m * 2) : List.take (m * 2) q = q := by
  rw [← hq]; exact List.take_length
theorem tk {q : List Int} {m : Nat} (hq : q.length = m * 2) : List.take (m * 2) (List.drop 0 q) = q := by
  rw [List.drop_zero, ← hq]; exact List.take_length

theorem eb8 {n : Int} {q : List Int} {m : Nat} (hq : q.length = m * 2) (hm : m ≤ 1000000000) (hc : err1 n q m = true) : Exec PP T none x8.nt 0 x8.body (startSt (A40 n m ++ List.replicate 0 (.s .any)) (H1 q)) .r (mkSt [(4, ⟨true, I 0⟩), (5, ⟨true, I (checkP n q m)⟩)] [] 0 []) := by
  have key : Exec PP T none x8.nt 0 x8.body (startSt (A40 n m ++ List.replicate 0 (.s .any)) (H1 q)) .r (mkSt [(4, ⟨true, I 0⟩), (5, ⟨true, I (checkP n (List.take (m * 2) (List.drop 0 q)) m)⟩)] [] 0 []) := by
    refine exec_orun env5e false 90 [true] [] (fun _ => rfl) (by kernel_rfl) (by kernel_rfl) (by kernel_rfl) ?_
    rw [(show obOf (orun g5e false 90 x8.body (startSt (A40 n m ++ List.replicate 0 (.s .any)) (H1 q)) [true]) = (decide ((0 + m) * 2 ≤ q.length) && (decide (m ≤ 1000000000) && !checkP n (List.take (m * 2) q) m == 0) && true && (checkP n (List.take (m * 2) q) m != 0 && true)) from by kernel_rfl)]
    try rw [tk0 hq]
    simp only [err1] at hc
    try simp at hc
    simp [err1, bndL, hq, hm, hc]
  rw [tk hq] at key
  exact key

theorem ok8e : SpecOK PP (compC T) 8 (pureS (intPairsX 0 err1 fun n q m => .tup [.s (.int .i64 0), .s (.int .i64 (checkP n q m))])) :=
  intPairsH_ok o8 0 err1 (fun n q m => [(4, ⟨true, I 0⟩), (5, ⟨true, I (checkP n q m)⟩)]) (fun n q m => []) 0 _ (by kernel_rfl) (fun n q m hq hm hc => eb8 hq hm hc) (fun n q m => by kernel_rfl) (fun n q m => by kernel_rfl)

theorem eb9 {n : Int} {q : List Int} {m : Nat} (hq : q.length = m * 2) (hm : m ≤ 1000000000) (hc : err1 n q m = true) : Exec PP T none x9.nt 0 x9.body (startSt (A40 n m ++ List.replicate 0 (.s .any)) (H1 q)) .r (mkSt [(4, ⟨true, I 0⟩), (5, ⟨true, I (checkP n q m)⟩)] [] 0 []) := by
  have key : Exec PP T none x9.nt 0 x9.body (startSt (A40 n m ++ List.replicate 0 (.s .any)) (H1 q)) .r (mkSt [(4, ⟨true, I 0⟩), (5, ⟨true, I (checkP n (List.take (m * 2) (List.drop 0 q)) m)⟩)] [] 0 []) := by
    refine exec_orun env5e false 90 [true] [] (fun _ => rfl) (by kernel_rfl) (by kernel_rfl) (by kernel_rfl) ?_
    rw [(show obOf (orun g5e false 90 x9.body (startSt (A40 n m ++ List.replicate 0 (.s .any)) (H1 q)) [true]) = (decide ((0 + m) * 2 ≤ q.length) && (decide (m ≤ 1000000000) && !checkP n (List.take (m * 2) q) m == 0) && true && (checkP n (List.take (m * 2) q) m != 0 && true)) from by kernel_rfl)]
    try rw [tk0 hq]
    simp only [err1] at hc
    try simp at hc
    simp [err1, bndL, hq, hm, hc]
  rw [tk hq] at key
  exact key

theorem ok9e : SpecOK PP (compC T) 9 (pureS (intPairsX 0 err1 fun n q m => .tup [.s (.int .i64 0), .s (.int .i64 (checkP n q m))])) :=
  intPairsH_ok o9 0 err1 (fun n q m => [(4, ⟨true, I 0⟩), (5, ⟨true, I (checkP n q m)⟩)]) (fun n q m => []) 0 _ (by kernel_rfl) (fun n q m hq hm hc => eb9 hq hm hc) (fun n q m => by kernel_rfl) (fun n q m => by kernel_rfl)

theorem eb10 {n : Int} {q : List Int} {m : Nat} (hq : q.length = m * 2) (hm : m ≤ 1000000000) (hc : err1 n q m = true) : Exec PP T none x10.nt 0 x10.body (startSt (A40 n m ++ List.replicate 0 (.s .any)) (H1 q)) .r (mkSt [(4, ⟨true, .av (.s .nils)⟩), (5, ⟨true, B false⟩), (6, ⟨true, I (checkP n q m)⟩)] [] 0 []) := by
  have key : Exec PP T none x10.nt 0 x10.body (startSt (A40 n m ++ List.replicate 0 (.s .any)) (H1 q)) .r (mkSt [(4, ⟨true, .av (.s .nils)⟩), (5, ⟨true, B false⟩), (6, ⟨true, I (checkP n (List.take (m * 2) (List.drop 0 q)) m)⟩)] [] 0 []) := by
    refine exec_orun env5e false 90 [true] [] (fun _ => rfl) (by kernel_rfl) (by kernel_rfl) (by kernel_rfl) ?_
    rw [(show obOf (orun g5e false 90 x10.body (startSt (A40 n m ++ List.replicate 0 (.s .any)) (H1 q)) [true]) = (decide ((0 + m) * 2 ≤ q.length) && (decide (m ≤ 1000000000) && !checkP n (List.take (m * 2) q) m == 0) && true && (checkP n (List.take (m * 2) q) m != 0 && true)) from by kernel_rfl)]
    try rw [tk0 hq]
    simp only [err1] at hc
    try simp at hc
    simp [err1, bndL, hq, hm, hc]
  rw [tk hq] at key
  exact key

theorem ok10e : SpecOK PP (compC T) 10 (pureS (intPairsX 0 err1 fun n q m => .tup [.s .nils, .s (.bool false), .s (.int .i64 (checkP n q m))])) :=
  intPairsH_ok o10 0 err1 (fun n q m => [(4, ⟨true, .av (.s .nils)⟩), (5, ⟨true, B false⟩), (6, ⟨true, I (checkP n q m)⟩)]) (fun n q m => []) 0 _ (by kernel_rfl) (fun n q m hq hm hc => eb10 hq hm hc) (fun n q m => by kernel_rfl) (fun n q m => by kernel_rfl)

theorem orderE_cases (n : Int) (q : List Int) (m : Nat) : orderE n q m = 0 ∨ orderE n q m = 1 ∨ orderE n q m = 30 := by
  unfold orderE
  cases decide (n < 1) || decide (n > 7) with
  | true => simp
  | false =>
    cases (List.range m).any (badO n q) with
    | true => simp
    | false => cases transB (relF q m) <;> simp
abbrev M12 (n : Int) (q : List Int) (m : Nat) (f : Nat → Bool) (e : Int) : St := mkSt [(0, ⟨true, I n⟩), (1, sl0 m), (4, ⟨true, .av (.s .nils)⟩), (5, ⟨true, I 0⟩), (6, g1S 1), (7, ⟨true, I e⟩)] [⟨true, .xvec .i64 2 q⟩, ⟨false, .row 70 [] 49 f⟩] 2 []
theorem a12 {n : Int} {q : List Int} {m : Nat} : Exec PP T none x12.nt 0 x12.body.a (startSt (A40 n m) (H1 q)) .n (mkSt [(0, ⟨true, I n⟩), (1, sl0 m), (4, ⟨true, .av (.s .nils)⟩), (5, ⟨true, I 0⟩)] (H1 q) 1 []) := by
  refine exec_orun env5g false 90 [] [0] (fun _ => rfl) (by kernel_rfl) (by kernel_rfl) (by kernel_rfl) (by kernel_rfl)
theorem b12 {n : Int} {q : List Int} {m : Nat} (hq : q.length = m * 2) (hm : m ≤ 1000000000) : Exec PP T none x12.nt 0 x12.body.b.a (mkSt [(0, ⟨true, I n⟩), (1, sl0 m), (4, ⟨true, .av (.s .nils)⟩), (5, ⟨true, I 0⟩)] (H1 q) 1 []) .n (M12 n q m (orderF n q m) (orderE n q m)) := by
  have key : Exec PP T none x12.nt 0 x12.body.b.a (mkSt [(0, ⟨true, I n⟩), (1, sl0 m), (4, ⟨true, .av (.s .nils)⟩), (5, ⟨true, I 0⟩)] (H1 q) 1 []) .n (M12 n q m (orderF n (List.take (m * 2) (List.drop 0 q)) m) (orderE n (List.take (m * 2) (List.drop 0 q)) m)) := by
    refine exec_orun env5g false 90 [] [0, 9] (fun _ => rfl) (by kernel_rfl) (by kernel_rfl) (by kernel_rfl) ?_
    rw [(show obOf (orun g5g false 90 x12.body.b.a (mkSt [(0, ⟨true, I n⟩), (1, sl0 m), (4, ⟨true, .av (.s .nils)⟩), (5, ⟨true, I 0⟩)] (H1 q) 1 []) []) = (decide ((0 + m) * 2 ≤ q.length) && (decide (m ≤ 1000000000) && true) && (decide (0 = 0) && true && true && true)) from by kernel_rfl)]
    simp [hq, hm]
  rw [tk hq] at key
  exact key
theorem cc12 {n : Int} {q : List Int} {m : Nat} {f : Nat → Bool} : Exec PP T none x12.nt 0 x12.body.b.b.a (M12 n q m f 1) .r (mkSt [(4, ⟨true, .av (.s .nils)⟩), (5, ⟨true, I 1⟩)] [] 0 []) := by
  refine exec_orun env5g false 90 [true] [] (fun _ => rfl) (by kernel_rfl) (by kernel_rfl) (by kernel_rfl) (by kernel_rfl)
theorem cc12' {n : Int} {q : List Int} {m : Nat} {f : Nat → Bool} : Exec PP T none x12.nt 0 x12.body.b.b.a (M12 n q m f 30) .r (mkSt [(4, ⟨true, .av (.s .nils)⟩), (5, ⟨true, I 30⟩)] [] 0 []) := by
  refine exec_orun env5g false 90 [true] [] (fun _ => rfl) (by kernel_rfl) (by kernel_rfl) (by kernel_rfl) (by kernel_rfl)
theorem eb12 {n : Int} {q : List Int} {m : Nat} (hq : q.length = m * 2) (hm : m ≤ 1000000000) (hc : ord1 n q m = true) : Exec PP T none x12.nt 0 x12.body (startSt (A40 n m ++ List.replicate 0 (.s .any)) (H1 q)) .r (mkSt [(4, ⟨true, .av (.s .nils)⟩), (5, ⟨true, I (orderE n q m)⟩)] [] 0 []) := by
  refine exec_seq (x := x12.body.a) (y := x12.body.b) a12 (exec_seq (x := x12.body.b.a) (y := x12.body.b.b) (b12 hq hm) (exec_seq_x (x := x12.body.b.b.a) (y := x12.body.b.b.b) ?_ (by simp)))
  rcases orderE_cases n q m with h | h | h
  · simp [ord1, h] at hc
  · rw [h]; exact cc12
  · rw [h]; exact cc12'

theorem ok12e : SpecOK PP (compC T) 12 (pureS (intPairsX 0 ord1 fun n q m => .tup [.s .nils, .s (.int .i64 (orderE n q m))])) :=
  intPairsH_ok o12 0 ord1 (fun n q m => [(4, ⟨true, .av (.s .nils)⟩), (5, ⟨true, I (orderE n q m)⟩)]) (fun n q m => []) 0 _ (by kernel_rfl) (fun n q m hq hm hc => eb12 hq hm hc) (fun n q m => by kernel_rfl) (fun n q m => by kernel_rfl)

theorem eb13 {n : Int} {q : List Int} {m : Nat} (hq : q.length = m * 2) (hm : m ≤ 1000000000) (hc : anyC n q m = true) : Exec PP T none x13.nt 0 x13.body (startSt (A40 n m ++ List.replicate 0 (.s .any)) (H1 q)) .r (mkSt [(4, ⟨true, I (orderE n q m)⟩)] [] 0 []) := by
  have key : Exec PP T none x13.nt 0 x13.body (startSt (A40 n m ++ List.replicate 0 (.s .any)) (H1 q)) .r (mkSt [(4, ⟨true, I (orderE n (List.take (m * 2) (List.drop 0 q)) m)⟩)] [] 0 []) := by
    refine exec_orun env5g false 90 [] [] (fun _ => rfl) (by kernel_rfl) (by kernel_rfl) (by kernel_rfl) ?_
    rw [(show obOf (orun g5g false 90 x13.body (startSt (A40 n m ++ List.replicate 0 (.s .any)) (H1 q)) []) = (decide ((0 + m) * 2 ≤ q.length) && (decide (m ≤ 1000000000) && true) && (decide (0 = 0) && true && true && true) && true) from by kernel_rfl)]
    try rw [tk0 hq]
    simp only [anyC] at hc
    try simp at hc
    simp [anyC, bndL, hq, hm, hc]
  rw [tk hq] at key
  exact key

theorem ok13e : SpecOK PP (compC T) 13 (pureS (intPairsX 0 anyC fun n q m => I (orderE n q m))) :=
  intPairsH_ok o13 0 anyC (fun n q m => [(4, ⟨true, I (orderE n q m)⟩)]) (fun n q m => []) 0 _ (by kernel_rfl) (fun n q m hq hm hc => eb13 hq hm hc) (fun n q m => by kernel_rfl) (fun n q m => by kernel_rfl)

theorem eb19 {n : Int} {q : List Int} {m : Nat} (hq : q.length = m * 2) (hm : m ≤ 1000000000) (hc : ord1 n q m = true) : Exec PP T none x19.nt 0 x19.body (startSt (A40 n m ++ List.replicate 0 (.s .any)) (H1 q)) .r (mkSt [(4, ⟨true, .av (.s .nils)⟩), (5, ⟨true, I (orderE n q m)⟩)] [] 0 []) := by
  have key : Exec PP T none x19.nt 0 x19.body (startSt (A40 n m ++ List.replicate 0 (.s .any)) (H1 q)) .r (mkSt [(4, ⟨true, .av (.s .nils)⟩), (5, ⟨true, I (orderE n (List.take (m * 2) (List.drop 0 q)) m)⟩)] [] 0 []) := by
    refine exec_orun env5g false 90 [true] [] (fun _ => rfl) (by kernel_rfl) (by kernel_rfl) (by kernel_rfl) ?_
    rw [(show obOf (orun g5g false 90 x19.body (startSt (A40 n m ++ List.replicate 0 (.s .any)) (H1 q)) [true]) = (decide ((0 + m) * 2 ≤ q.length) && (decide (m ≤ 1000000000) && true) && (decide (0 = 0) && true && true && true) && (orderE n (List.take (m * 2) q) m != 0 && true)) from by kernel_rfl)]
    try rw [tk0 hq]
    simp only [ord1] at hc
    try simp at hc
    simp [ord1, bndL, hq, hm, hc]
  rw [tk hq] at key
  exact key

theorem ok19e : SpecOK PP (compC T) 19 (pureS (intPairsX 0 ord1 fun n q m => .tup [.s .nils, .s (.int .i64 (orderE n q m))])) :=
  intPairsH_ok o19 0 ord1 (fun n q m => [(4, ⟨true, .av (.s .nils)⟩), (5, ⟨true, I (orderE n q m)⟩)]) (fun n q m => []) 0 _ (by kernel_rfl) (fun n q m hq hm hc => eb19 hq hm hc) (fun n q m => by kernel_rfl) (fun n q m => by kernel_rfl)

theorem eb20 {n : Int} {q : List Int} {m : Nat} (hq : q.length = m * 2) (hm : m ≤ 1000000000) (hc : ord1 n q m = true) : Exec PP T none x20.nt 0 x20.body (startSt (A40 n m ++ List.replicate 0 (.s .any)) (H1 q)) .r (mkSt [(4, ⟨true, .av (.s .nils)⟩), (5, ⟨true, I (orderE n q m)⟩)] [] 0 []) := by
  have key : Exec PP T none x20.nt 0 x20.body (startSt (A40 n m ++ List.replicate 0 (.s .any)) (H1 q)) .r (mkSt [(4, ⟨true, .av (.s .nils)⟩), (5, ⟨true, I (orderE n (List.take (m * 2) (List.drop 0 q)) m)⟩)] [] 0 []) := by
    refine exec_orun env5g false 90 [true] [] (fun _ => rfl) (by kernel_rfl) (by kernel_rfl) (by kernel_rfl) ?_
    rw [(show obOf (orun g5g false 90 x20.body (startSt (A40 n m ++ List.replicate 0 (.s .any)) (H1 q)) [true]) = (decide ((0 + m) * 2 ≤ q.length) && (decide (m ≤ 1000000000) && true) && (decide (0 = 0) && true && true && true) && (orderE n (List.take (m * 2) q) m != 0 && true)) from by kernel_rfl)]
    try rw [tk0 hq]
    simp only [ord1] at hc
    try simp at hc
    simp [ord1, bndL, hq, hm, hc]
  rw [tk hq] at key
  exact key

theorem ok20e : SpecOK PP (compC T) 20 (pureS (intPairsX 0 ord1 fun n q m => .tup [.s .nils, .s (.int .i64 (orderE n q m))])) :=
  intPairsH_ok o20 0 ord1 (fun n q m => [(4, ⟨true, .av (.s .nils)⟩), (5, ⟨true, I (orderE n q m)⟩)]) (fun n q m => []) 0 _ (by kernel_rfl) (fun n q m hq hm hc => eb20 hq hm hc) (fun n q m => by kernel_rfl) (fun n q m => by kernel_rfl)

theorem eb29 {n : Int} {q : List Int} {m : Nat} (hq : q.length = m * 2) (hm : m ≤ 1000000000) (hc : ord1 n q m = true) : Exec PP T none x29.nt 0 x29.body (startSt (A40 n m ++ List.replicate 0 (.s .any)) (H1 q)) .r (mkSt [(4, ⟨true, .av (.s (.ptr 0 0 0))⟩), (5, ⟨true, B false⟩), (6, ⟨true, I (orderE n q m)⟩)] [⟨false, .row 48 [.nils, .nils] 0 ff⟩] 1 []) := by
  have key : Exec PP T none x29.nt 0 x29.body (startSt (A40 n m ++ List.replicate 0 (.s .any)) (H1 q)) .r (mkSt [(4, ⟨true, .av (.s (.ptr 0 0 0))⟩), (5, ⟨true, B false⟩), (6, ⟨true, I (orderE n (List.take (m * 2) (List.drop 0 q)) m)⟩)] [⟨false, .row 48 [.nils, .nils] 0 ff⟩] 1 []) := by
    refine exec_orun env5g false 90 [true] [1] (fun _ => rfl) (by kernel_rfl) (by kernel_rfl) (by kernel_rfl) ?_
    rw [(show obOf (orun g5g false 90 x29.body (startSt (A40 n m ++ List.replicate 0 (.s .any)) (H1 q)) [true]) = (decide ((0 + m) * 2 ≤ q.length) && (decide (m ≤ 1000000000) && true) && (decide (0 = 0) && true && true && true) && (orderE n (List.take (m * 2) q) m != 0 && (decide (0 = 0) && true && true && true && true))) from by kernel_rfl)]
    try rw [tk0 hq]
    simp only [ord1] at hc
    try simp at hc
    simp [ord1, bndL, hq, hm, hc]
  rw [tk hq] at key
  exact key

theorem ok29e : SpecOK PP (compC T) 29 (pureS (intPairsX 0 ord1 fun n q m => .tup [.pb [.nils, .nils] 0 ff, .s (.bool false), .s (.int .i64 (orderE n q m))])) :=
  intPairsH_ok o29 0 ord1 (fun n q m => [(4, ⟨true, .av (.s (.ptr 0 0 0))⟩), (5, ⟨true, B false⟩), (6, ⟨true, I (orderE n q m)⟩)]) (fun n q m => [⟨false, .row 48 [.nils, .nils] 0 ff⟩]) 1 _ (by kernel_rfl) (fun n q m hq hm hc => eb29 hq hm hc) (fun n q m => by kernel_rfl) (fun n q m => by kernel_rfl)

theorem eb41 {n : Int} {q : List Int} {m : Nat} (hq : q.length = m * 2) (hm : m ≤ 1000000000) (hc : err1 n q m = true) : Exec PP T none x41.nt 0 x41.body (startSt (A40 n m ++ List.replicate 0 (.s .any)) (H1 q)) .r (mkSt [(4, ⟨true, I (checkP n q m)⟩)] [] 0 []) := by
  have key : Exec PP T none x41.nt 0 x41.body (startSt (A40 n m ++ List.replicate 0 (.s .any)) (H1 q)) .r (mkSt [(4, ⟨true, I (checkP n (List.take (m * 2) (List.drop 0 q)) m)⟩)] [] 0 []) := by
    refine exec_orun env5e false 90 [] [] (fun _ => rfl) (by kernel_rfl) (by kernel_rfl) (by kernel_rfl) ?_
    rw [(show obOf (orun g5e false 90 x41.body (startSt (A40 n m ++ List.replicate 0 (.s .any)) (H1 q)) []) = (decide ((0 + m) * 2 ≤ q.length) && (decide (m ≤ 1000000000) && !checkP n (List.take (m * 2) q) m == 0) && true && true) from by kernel_rfl)]
    try rw [tk0 hq]
    simp only [err1] at hc
    try simp at hc
    simp [err1, bndL, hq, hm, hc]
  rw [tk hq] at key
  exact key

theorem ok41e : SpecOK PP (compC T) 41 (pureS (intPairsX 0 err1 fun n q m => I (checkP n q m))) :=
  intPairsH_ok o41 0 err1 (fun n q m => [(4, ⟨true, I (checkP n q m)⟩)]) (fun n q m => []) 0 _ (by kernel_rfl) (fun n q m hq hm hc => eb41 hq hm hc) (fun n q m => by kernel_rfl) (fun n q m => by kernel_rfl)

theorem eb42 {n : Int} {q : List Int} {m : Nat} (hq : q.length = m * 2) (hm : m ≤ 1000000000) (hc : err1 n q m = true) : Exec PP T none x42.nt 0 x42.body (startSt (A40 n m ++ List.replicate 0 (.s .any)) (H1 q)) .r (mkSt [(4, ⟨true, .av (.s .nils)⟩), (5, ⟨true, I (checkP n q m)⟩)] [] 0 []) := by
  have key : Exec PP T none x42.nt 0 x42.body (startSt (A40 n m ++ List.replicate 0 (.s .any)) (H1 q)) .r (mkSt [(4, ⟨true, .av (.s .nils)⟩), (5, ⟨true, I (checkP n (List.take (m * 2) (List.drop 0 q)) m)⟩)] [] 0 []) := by
    refine exec_orun env5e false 90 [true] [] (fun _ => rfl) (by kernel_rfl) (by kernel_rfl) (by kernel_rfl) ?_
    rw [(show obOf (orun g5e false 90 x42.body (startSt (A40 n m ++ List.replicate 0 (.s .any)) (H1 q)) [true]) = (decide ((0 + m) * 2 ≤ q.length) && (decide (m ≤ 1000000000) && !checkP n (List.take (m * 2) q) m == 0) && true && (checkP n (List.take (m * 2) q) m != 0 && true)) from by kernel_rfl)]
    try rw [tk0 hq]
    simp only [err1] at hc
    try simp at hc
    simp [err1, bndL, hq, hm, hc]
  rw [tk hq] at key
  exact key

theorem ok42e : SpecOK PP (compC T) 42 (pureS (intPairsX 0 err1 fun n q m => .tup [.s .nils, .s (.int .i64 (checkP n q m))])) :=
  intPairsH_ok o42 0 err1 (fun n q m => [(4, ⟨true, .av (.s .nils)⟩), (5, ⟨true, I (checkP n q m)⟩)]) (fun n q m => []) 0 _ (by kernel_rfl) (fun n q m hq hm hc => eb42 hq hm hc) (fun n q m => by kernel_rfl) (fun n q m => by kernel_rfl)

theorem eb43 {n : Int} {q : List Int} {m : Nat} {a b c d : Int} (hq : q.length = m * 2) (hm : m ≤ 1000000000) (hc : err1 n q m = true) : Exec PP T none x43.nt 0 x43.body (startSt (A40 n m ++ [.pb [.int .i64 a, .int .i64 b] 0 ff, .pb [.int .i64 c, .int .i64 d] 0 ff]) (H1 q)) .r (mkSt [(8, ⟨true, .av (.s (.ptr 0 0 0))⟩), (9, ⟨true, .av (.s (.ptr 1 0 0))⟩)] [⟨false, .row 4 [.bool false] 0 ff⟩, ⟨false, .row 25 [.int .i64 (checkP n q m)] 0 ff⟩] 2 []) := by
  have key : Exec PP T none x43.nt 0 x43.body (startSt (A40 n m ++ [.pb [.int .i64 a, .int .i64 b] 0 ff, .pb [.int .i64 c, .int .i64 d] 0 ff]) (H1 q)) .r (mkSt [(8, ⟨true, .av (.s (.ptr 0 0 0))⟩), (9, ⟨true, .av (.s (.ptr 1 0 0))⟩)] [⟨false, .row 4 [.bool false] 0 ff⟩, ⟨false, .row 25 [.int .i64 (checkP n (List.take (m * 2) (List.drop 0 q)) m)] 0 ff⟩] 2 []) := by
    refine exec_orun env5e false 90 [true] [3, 4] (fun _ => rfl) (by kernel_rfl) (by kernel_rfl) (by kernel_rfl) ?_
    rw [(show obOf (orun g5e false 90 x43.body (startSt (A40 n m ++ [.pb [.int .i64 a, .int .i64 b] 0 ff, .pb [.int .i64 c, .int .i64 d] 0 ff]) (H1 q)) [true]) = (decide ((0 + m) * 2 ≤ q.length) && (decide (m ≤ 1000000000) && !checkP n (List.take (m * 2) q) m == 0) && true && (checkP n (List.take (m * 2) q) m != 0 && true)) from by kernel_rfl)]
    try rw [tk0 hq]
    simp only [err1] at hc
    try simp at hc
    simp [err1, bndL, hq, hm, hc]
  rw [tk hq] at key
  exact key

theorem ok43e : SpecOK PP (compC T) 43 (pureS (intPairsP 2 err1 fun n q m => .tup [.s (.bool false), .s (.int .i64 (checkP n q m))])) :=
  intPairsP_ok o43 2 err1 (fun n q m => [(8, ⟨true, .av (.s (.ptr 0 0 0))⟩), (9, ⟨true, .av (.s (.ptr 1 0 0))⟩)]) (fun n q m => [⟨false, .row 4 [.bool false] 0 ff⟩, ⟨false, .row 25 [.int .i64 (checkP n q m)] 0 ff⟩]) 2 _ (by kernel_rfl) (fun n q m rest hl hp hq hm hc => (by
    match rest, hl with
    | [r1, r2], _ =>
    simp only [List.all_cons, List.all_nil, Bool.and_true, Bool.and_eq_true] at hp
    obtain ⟨a, b, f, rfl⟩ := isPair_ex hp.1
    obtain ⟨c, d, f', rfl⟩ := isPair_ex hp.2
    exact eb43 hq hm hc)) (fun n q m => by kernel_rfl) (fun n q m => by kernel_rfl)

theorem eb44 {n : Int} {q : List Int} {m : Nat} {a b : Int} (hq : q.length = m * 2) (hm : m ≤ 1000000000) (hc : err1 n q m = true) : Exec PP T none x44.nt 0 x44.body (startSt (A40 n m ++ [.pb [.int .i64 a, .int .i64 b] 0 ff]) (H1 q)) .r (mkSt [(6, ⟨true, .av (.s .nils)⟩), (7, ⟨true, I (checkP n q m)⟩)] [] 0 []) := by
  have key : Exec PP T none x44.nt 0 x44.body (startSt (A40 n m ++ [.pb [.int .i64 a, .int .i64 b] 0 ff]) (H1 q)) .r (mkSt [(6, ⟨true, .av (.s .nils)⟩), (7, ⟨true, I (checkP n (List.take (m * 2) (List.drop 0 q)) m)⟩)] [] 0 []) := by
    refine exec_orun env5e false 90 [true] [] (fun _ => rfl) (by kernel_rfl) (by kernel_rfl) (by kernel_rfl) ?_
    rw [(show obOf (orun g5e false 90 x44.body (startSt (A40 n m ++ [.pb [.int .i64 a, .int .i64 b] 0 ff]) (H1 q)) [true]) = (decide ((0 + m) * 2 ≤ q.length) && (decide (m ≤ 1000000000) && !checkP n (List.take (m * 2) q) m == 0) && true && (checkP n (List.take (m * 2) q) m != 0 && true)) from by kernel_rfl)]
    try rw [tk0 hq]
    simp only [err1] at hc
    try simp at hc
    simp [err1, bndL, hq, hm, hc]
  rw [tk hq] at key
  exact key

theorem ok44e : SpecOK PP (compC T) 44 (pureS (intPairsP 1 err1 fun n q m => .tup [.s .nils, .s (.int .i64 (checkP n q m))])) :=
  intPairsP_ok o44 1 err1 (fun n q m => [(6, ⟨true, .av (.s .nils)⟩), (7, ⟨true, I (checkP n q m)⟩)]) (fun n q m => []) 0 _ (by kernel_rfl) (fun n q m rest hl hp hq hm hc => (by
    match rest, hl with
    | [r1], _ =>
    simp only [List.all_cons, List.all_nil, Bool.and_true] at hp
    obtain ⟨a, b, f, rfl⟩ := isPair_ex hp
    exact eb44 hq hm hc)) (fun n q m => by kernel_rfl) (fun n q m => by kernel_rfl)

theorem eb45 {n : Int} {q : List Int} {m : Nat} (hq : q.length = m * 2) (hm : m ≤ 1000000000) (hc : err1 n q m = true) : Exec PP T none x45.nt 0 x45.body (startSt (A40 n m ++ List.replicate 0 (.s .any)) (H1 q)) .r (mkSt [(4, ⟨true, .av (.s .nils)⟩), (5, ⟨true, B false⟩), (6, ⟨true, I (checkP n q m)⟩)] [] 0 []) := by
  have key : Exec PP T none x45.nt 0 x45.body (startSt (A40 n m ++ List.replicate 0 (.s .any)) (H1 q)) .r (mkSt [(4, ⟨true, .av (.s .nils)⟩), (5, ⟨true, B false⟩), (6, ⟨true, I (checkP n (List.take (m * 2) (List.drop 0 q)) m)⟩)] [] 0 []) := by
    refine exec_orun env5e false 90 [true] [] (fun _ => rfl) (by kernel_rfl) (by kernel_rfl) (by kernel_rfl) ?_
    rw [(show obOf (orun g5e false 90 x45.body (startSt (A40 n m ++ List.replicate 0 (.s .any)) (H1 q)) [true]) = (decide ((0 + m) * 2 ≤ q.length) && (decide (m ≤ 1000000000) && !checkP n (List.take (m * 2) q) m == 0) && true && (checkP n (List.take (m * 2) q) m != 0 && true)) from by kernel_rfl)]
    try rw [tk0 hq]
    simp only [err1] at hc
    try simp at hc
    simp [err1, bndL, hq, hm, hc]
  rw [tk hq] at key
  exact key

theorem ok45e : SpecOK PP (compC T) 45 (pureS (intPairsX 0 err1 fun n q m => .tup [.s .nils, .s (.bool false), .s (.int .i64 (checkP n q m))])) :=
  intPairsH_ok o45 0 err1 (fun n q m => [(4, ⟨true, .av (.s .nils)⟩), (5, ⟨true, B false⟩), (6, ⟨true, I (checkP n q m)⟩)]) (fun n q m => []) 0 _ (by kernel_rfl) (fun n q m hq hm hc => eb45 hq hm hc) (fun n q m => by kernel_rfl) (fun n q m => by kernel_rfl)

theorem eb46 {n : Int} {q : List Int} {m : Nat} (hq : q.length = m * 2) (hm : m ≤ 1000000000) (hc : err1 n q m = true) : Exec PP T none x46.nt 0 x46.body (startSt (A40 n m ++ List.replicate 1 (.s .any)) (H1 q)) .r (mkSt [(6, ⟨true, B false⟩), (7, ⟨true, I (checkP n q m)⟩)] [] 0 []) := by
  have key : Exec PP T none x46.nt 0 x46.body (startSt (A40 n m ++ List.replicate 1 (.s .any)) (H1 q)) .r (mkSt [(6, ⟨true, B false⟩), (7, ⟨true, I (checkP n (List.take (m * 2) (List.drop 0 q)) m)⟩)] [] 0 []) := by
    refine exec_orun env5e false 90 [true] [] (fun _ => rfl) (by kernel_rfl) (by kernel_rfl) (by kernel_rfl) ?_
    rw [(show obOf (orun g5e false 90 x46.body (startSt (A40 n m ++ List.replicate 1 (.s .any)) (H1 q)) [true]) = (decide ((0 + m) * 2 ≤ q.length) && (decide (m ≤ 1000000000) && !checkP n (List.take (m * 2) q) m == 0) && true && (checkP n (List.take (m * 2) q) m != 0 && true)) from by kernel_rfl)]
    try rw [tk0 hq]
    simp only [err1] at hc
    try simp at hc
    simp [err1, bndL, hq, hm, hc]
  rw [tk hq] at key
  exact key

theorem ok46e : SpecOK PP (compC T) 46 (pureS (intPairsX 1 err1 fun n q m => .tup [.s (.bool false), .s (.int .i64 (checkP n q m))])) :=
  intPairsH_ok o46 1 err1 (fun n q m => [(6, ⟨true, B false⟩), (7, ⟨true, I (checkP n q m)⟩)]) (fun n q m => []) 0 _ (by kernel_rfl) (fun n q m hq hm hc => eb46 hq hm hc) (fun n q m => by kernel_rfl) (fun n q m => by kernel_rfl)

theorem eb47 {n : Int} {q : List Int} {m : Nat} (hq : q.length = m * 2) (hm : m ≤ 1000000000) (hc : err1 n q m = true) : Exec PP T none x47.nt 0 x47.body (startSt (A40 n m ++ List.replicate 0 (.s .any)) (H1 q)) .r (mkSt [(4, ⟨true, .av (.s (.ptr 0 0 0))⟩), (5, ⟨true, B false⟩), (6, ⟨true, I (checkP n q m)⟩)] [⟨false, .row 48 [.nils, .nils] 0 ff⟩] 1 []) := by
  have key : Exec PP T none x47.nt 0 x47.body (startSt (A40 n m ++ List.replicate 0 (.s .any)) (H1 q)) .r (mkSt [(4, ⟨true, .av (.s (.ptr 0 0 0))⟩), (5, ⟨true, B false⟩), (6, ⟨true, I (checkP n (List.take (m * 2) (List.drop 0 q)) m)⟩)] [⟨false, .row 48 [.nils, .nils] 0 ff⟩] 1 []) := by
    refine exec_orun env5e false 90 [true] [1] (fun _ => rfl) (by kernel_rfl) (by kernel_rfl) (by kernel_rfl) ?_
    rw [(show obOf (orun g5e false 90 x47.body (startSt (A40 n m ++ List.replicate 0 (.s .any)) (H1 q)) [true]) = (decide ((0 + m) * 2 ≤ q.length) && (decide (m ≤ 1000000000) && !checkP n (List.take (m * 2) q) m == 0) && true && (checkP n (List.take (m * 2) q) m != 0 && (decide (0 = 0) && true && true && true && true))) from by kernel_rfl)]
    try rw [tk0 hq]
    simp only [err1] at hc
    try simp at hc
    simp [err1, bndL, hq, hm, hc]
  rw [tk hq] at key
  exact key

theorem ok47e : SpecOK PP (compC T) 47 (pureS (intPairsX 0 err1 fun n q m => .tup [.pb [.nils, .nils] 0 ff, .s (.bool false), .s (.int .i64 (checkP n q m))])) :=
  intPairsH_ok o47 0 err1 (fun n q m => [(4, ⟨true, .av (.s (.ptr 0 0 0))⟩), (5, ⟨true, B false⟩), (6, ⟨true, I (checkP n q m)⟩)]) (fun n q m => [⟨false, .row 48 [.nils, .nils] 0 ff⟩]) 1 _ (by kernel_rfl) (fun n q m hq hm hc => eb47 hq hm hc) (fun n q m => by kernel_rfl) (fun n q m => by kernel_rfl)

theorem eg41 {n : Int} {q : List Int} {m : Nat} (hq : q.length = m * 2) (hm : m ≤ 1000000000) (hc : err0 n q m = true) : Exec PP T none x41.nt 0 x41.body (startSt (A40 n m) (H1 q)) .r (mkSt [(4, ⟨true, I 0⟩)] [] 0 []) := by
  refine exec_orun env5g false 90 [] [] (fun _ => rfl) (by kernel_rfl) (by kernel_rfl) (by kernel_rfl) ?_
  rw [(show obOf (orun g5g false 90 x41.body (startSt (A40 n m) (H1 q)) []) = (decide ((0 + m) * 2 ≤ q.length) && (decide (m ≤ 1000000000) && checkP n (List.take (m * 2) q) m == 0) && true && true && true && true) from by kernel_rfl)]
  rw [tk0 hq]
  simp only [err0] at hc
  simp at hc
  simp [hq, hm, hc]
theorem ok41 : SpecOK PP (compC T) 41 (pureS (intPairsX 0 anyC fun n q m => I (checkP n q m))) :=
  intPairsH_ok o41 0 anyC (fun n q m => [(4, ⟨true, I (checkP n q m)⟩)]) (fun n q m => []) 0 _ (by kernel_rfl) (fun n q m hq hm _ => (by
    cases h : checkP n q m == 0 with
    | true =>
      rw [eq_of_beq h]
      exact eg41 hq hm h
    | false => exact eb41 hq hm (by unfold err1; rw [h]; rfl))) (fun n q m => by kernel_rfl) (fun n q m => by kernel_rfl)

end Go.Proofs.Yteekkjfjpoaihaa.Eng

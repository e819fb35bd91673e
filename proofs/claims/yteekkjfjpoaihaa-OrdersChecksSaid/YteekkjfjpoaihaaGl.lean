/- Contracts by hand, part 12: OrdersChecks, but for awake. -/
import Derived.Test.YteekkjfjpoaihaaGk
set_option linter.all false
namespace Go.Proofs.Yteekkjfjpoaihaa.Eng
open Go Go.Proofs

theorem specX_lit {f : FuncId} {k : Nat} {c c' : Int → List Int → Nat → Bool} {v v' : Int → List Int → Nat → TV} (h : SpecOK PP (compC T) f (pureS (intPairsX k c v))) (hc : ∀ n q m, c' n q m = true → c n q m = true ∧ v n q m = v' n q m) : SpecOK PP (compC T) f (pureS (intPairsX k c' v')) := by
  intro ctx m hh w args vals base e hH hargs hfr hup hr hvc
  simp only [pureS, intPairsX] at hr
  have h := h ctx m hh w args vals base
  simp only [pureS, intPairsX] at h
  split at hr
  case h_2 => cases hr
  rename_i vc u rd hq
  cases hr
  simp only at hvc
  subst hvc
  split at hq
  case h_2 => cases hq
  rename_i n s rest
  cases hk : Nat.beq rest.length k with
  | false => rw [hk] at hq; cases hq
  | true =>
    simp only [hk, cond_true] at hq h
    split at hq
    case h_2 => cases hq
    rename_i vc q m' rd' hs
    simp only [Option.some.injEq, Prod.mk.injEq, Bool.and_eq_true] at hq
    obtain ⟨⟨rfl, hm, hcc⟩, rfl, rfl⟩ := hq
    obtain ⟨h1, h2⟩ := hc n q m' hcc
    simp only [hs] at h
    have := h ⟨true && (bndL m' && c n q m'), v n q m', [], [], some rd'⟩ hH hargs hfr hup rfl (by simp [hm, h1])
    simp only [h2] at this
    exact this

theorem specP_lit {f : FuncId} {k : Nat} {c c' : Int → List Int → Nat → Bool} {v v' : Int → List Int → Nat → TV} (h : SpecOK PP (compC T) f (pureS (intPairsP k c v))) (hc : ∀ n q m, c' n q m = true → c n q m = true ∧ v n q m = v' n q m) : SpecOK PP (compC T) f (pureS (intPairsP k c' v')) := by
  intro ctx m hh w args vals base e hH hargs hfr hup hr hvc
  simp only [pureS, intPairsP] at hr
  have h := h ctx m hh w args vals base
  simp only [pureS, intPairsP] at h
  split at hr
  case h_2 => cases hr
  rename_i vc u rd hq
  cases hr
  simp only at hvc
  subst hvc
  split at hq
  case h_2 => cases hq
  rename_i n s rest
  cases hk : Nat.beq rest.length k && rest.all isPair with
  | false => rw [hk] at hq; cases hq
  | true =>
    simp only [hk, cond_true] at hq h
    split at hq
    case h_2 => cases hq
    rename_i vc q m' rd' hs
    simp only [Option.some.injEq, Prod.mk.injEq, Bool.and_eq_true] at hq
    obtain ⟨⟨rfl, hm, hcc⟩, rfl, rfl⟩ := hq
    obtain ⟨h1, h2⟩ := hc n q m' hcc
    simp only [hs] at h
    have := h ⟨true && (bndL m' && c n q m'), v n q m', [], [], some rd'⟩ hH hargs hfr hup rfl (by simp [hm, h1])
    simp only [h2] at this
    exact this

/-- the contracts of old, with no further condition, as these -/
theorem intPairs_X {f : FuncId} {v : Int → List Int → Nat → TV} (h : SpecOK PP (compC T) f (pureS (intPairs v))) : SpecOK PP (compC T) f (pureS (intPairsX 0 anyC v)) := by
  intro ctx m hh w args vals base e hH hargs hfr hup hr hvc
  have h := h ctx m hh w args vals base
  simp only [pureS, intPairsX] at hr
  simp only [pureS, intPairs] at h
  split at hr
  case h_2 => cases hr
  rename_i vc u rd hq
  cases hr
  simp only at hvc
  subst hvc
  split at hq
  case h_2 => cases hq
  rename_i n s rest
  cases rest with
  | cons r l => cases hq
  | nil =>
    simp only [List.length_nil] at hq
    change (match srcOf (.av s) hh .i64 2 with
      | some (vc, q, m, rd) => some (vc && (bndL m && anyC n q m), v n q m, rd)
      | none => none) = _ at hq
    split at hq
    case h_2 => cases hq
    rename_i vc q m' rd' hs
    simp only [Option.some.injEq, Prod.mk.injEq, Bool.and_eq_true] at hq
    obtain ⟨⟨rfl, hm, _⟩, rfl, rfl⟩ := hq
    simp only [hs] at h
    exact h ⟨true && bndL m', v n q m', [], [], some rd'⟩ hH hargs hfr hup rfl (by simp [hm])

def cW (w : Int) (n : Int) (q : List Int) (m : Nat) : Bool := checkP n q m == w
def cE (w : Int) (n : Int) (q : List Int) (m : Nat) : Bool := (checkP n q m == w) && err1 n q m
def oW (e : Int) (n : Int) (q : List Int) (m : Nat) : Bool := orderE n q m == e
def oE (e : Int) (n : Int) (q : List Int) (m : Nat) : Bool := (orderE n q m == e) && ord1 n q m
def iB (b : Bool) (n : Int) (q : List Int) (m : Nat) : Bool := isOrd n q m == b
theorem cW_of {w : Int} {n : Int} {q : List Int} {m : Nat} (h : cW w n q m = true) : checkP n q m = w := eq_of_beq h
theorem cE_of {w : Int} {n : Int} {q : List Int} {m : Nat} (h : cE w n q m = true) : err1 n q m = true ∧ checkP n q m = w := by
  simp only [cE, Bool.and_eq_true] at h
  exact ⟨h.2, eq_of_beq h.1⟩
theorem oE_of {w : Int} {n : Int} {q : List Int} {m : Nat} (h : oE w n q m = true) : ord1 n q m = true ∧ orderE n q m = w := by
  simp only [oE, Bool.and_eq_true] at h
  exact ⟨h.2, eq_of_beq h.1⟩

def gAwake (args : List AV) (_ : Nat → Option HO) : Option (Bool × TV × List Nat) := match args with
  | [] => some (true, B true, [])
  | _ => none
theorem gAwake_fp : PureFp gAwake := fun args h h' q hg hf => hg

def L6 (w e : Int) (b : Bool) : List (Nat × Spec) := [(11, pureS gAwake), (39, spFew), (40, pureS (intPairsX 0 (cW w) fun _ _ _ => I w)), (28, pureS (intPairsX 0 (iB b) fun _ _ _ => B b)), (41, pureS (intPairsX 0 (cW w) fun _ _ _ => I w)), (13, pureS (intPairsX 0 (oW e) fun _ _ _ => I e)), (42, pureS (intPairsX 0 (cE w) fun _ _ _ => .tup [.s .nils, .s (.int .i64 w)])), (9, pureS (intPairsX 0 (cE w) fun _ _ _ => .tup [.s (.int .i64 0), .s (.int .i64 w)])), (8, pureS (intPairsX 0 (cE w) fun _ _ _ => .tup [.s (.int .i64 0), .s (.int .i64 w)])), (10, pureS (intPairsX 0 (cE w) fun _ _ _ => .tup [.s .nils, .s (.bool false), .s (.int .i64 w)])), (45, pureS (intPairsX 0 (cE w) fun _ _ _ => .tup [.s .nils, .s (.bool false), .s (.int .i64 w)])), (46, pureS (intPairsX 1 (cE w) fun _ _ _ => .tup [.s (.bool false), .s (.int .i64 w)])), (47, pureS (intPairsX 0 (cE w) fun _ _ _ => .tup [.pb [.nils, .nils] 0 ff, .s (.bool false), .s (.int .i64 w)])), (43, pureS (intPairsP 2 (cE w) fun _ _ _ => .tup [.s (.bool false), .s (.int .i64 w)])), (44, pureS (intPairsP 1 (cE w) fun _ _ _ => .tup [.s .nils, .s (.int .i64 w)])), (12, pureS (intPairsX 0 (oE e) fun _ _ _ => .tup [.s .nils, .s (.int .i64 e)])), (19, pureS (intPairsX 0 (oE e) fun _ _ _ => .tup [.s .nils, .s (.int .i64 e)])), (20, pureS (intPairsX 0 (oE e) fun _ _ _ => .tup [.s .nils, .s (.int .i64 e)])), (29, pureS (intPairsX 0 (oE e) fun _ _ _ => .tup [.pb [.nils, .nils] 0 ff, .s (.bool false), .s (.int .i64 e)]))]
theorem L6_ok (h11 : SpecOK PP (compC T) 11 (pureS gAwake)) (w e : Int) (b : Bool) : SpecsL (L6 w e b) := specsL_cons h11 (pureS_fp gAwake_fp) o11 (specsL_cons ok39 spFew_fp o39 (specsL_cons (specX_lit (intPairs_X ok40) fun n q m h => ⟨rfl, (by rw [cW_of h])⟩) (pureS_fp (intPairsX_fp _ _ _)) o40 (specsL_cons (specX_lit (intPairs_X ok28) fun n q m h => ⟨rfl, (by rw [eq_of_beq h])⟩) (pureS_fp (intPairsX_fp _ _ _)) o28 (specsL_cons (specX_lit ok41 fun n q m h => ⟨rfl, (by rw [cW_of h])⟩) (pureS_fp (intPairsX_fp _ _ _)) o41 (specsL_cons (specX_lit ok13e fun n q m h => ⟨rfl, (by rw [eq_of_beq h])⟩) (pureS_fp (intPairsX_fp _ _ _)) o13 (specsL_cons (specX_lit ok42e fun n q m h => ⟨(cE_of h).1, (by rw [(cE_of h).2])⟩) (pureS_fp (intPairsX_fp _ _ _)) o42 (specsL_cons (specX_lit ok9e fun n q m h => ⟨(cE_of h).1, (by rw [(cE_of h).2])⟩) (pureS_fp (intPairsX_fp _ _ _)) o9 (specsL_cons (specX_lit ok8e fun n q m h => ⟨(cE_of h).1, (by rw [(cE_of h).2])⟩) (pureS_fp (intPairsX_fp _ _ _)) o8 (specsL_cons (specX_lit ok10e fun n q m h => ⟨(cE_of h).1, (by rw [(cE_of h).2])⟩) (pureS_fp (intPairsX_fp _ _ _)) o10 (specsL_cons (specX_lit ok45e fun n q m h => ⟨(cE_of h).1, (by rw [(cE_of h).2])⟩) (pureS_fp (intPairsX_fp _ _ _)) o45 (specsL_cons (specX_lit ok46e fun n q m h => ⟨(cE_of h).1, (by rw [(cE_of h).2])⟩) (pureS_fp (intPairsX_fp _ _ _)) o46 (specsL_cons (specX_lit ok47e fun n q m h => ⟨(cE_of h).1, (by rw [(cE_of h).2])⟩) (pureS_fp (intPairsX_fp _ _ _)) o47 (specsL_cons (specP_lit ok43e fun n q m h => ⟨(cE_of h).1, (by rw [(cE_of h).2])⟩) (pureS_fp (intPairsP_fp _ _ _)) o43 (specsL_cons (specP_lit ok44e fun n q m h => ⟨(cE_of h).1, (by rw [(cE_of h).2])⟩) (pureS_fp (intPairsP_fp _ _ _)) o44 (specsL_cons (specX_lit ok12e fun n q m h => ⟨(oE_of h).1, (by rw [(oE_of h).2])⟩) (pureS_fp (intPairsX_fp _ _ _)) o12 (specsL_cons (specX_lit ok19e fun n q m h => ⟨(oE_of h).1, (by rw [(oE_of h).2])⟩) (pureS_fp (intPairsX_fp _ _ _)) o19 (specsL_cons (specX_lit ok20e fun n q m h => ⟨(oE_of h).1, (by rw [(oE_of h).2])⟩) (pureS_fp (intPairsX_fp _ _ _)) o20 (specsL_cons (specX_lit ok29e fun n q m h => ⟨(oE_of h).1, (by rw [(oE_of h).2])⟩) (pureS_fp (intPairsX_fp _ _ _)) o29 (fun p hp => absurd hp (by simp))))))))))))))))))))
noncomputable abbrev g6 (w e : Int) (b : Bool) : Cal → Option Spec := specsΓ (L6 w e b)
abbrev A6 (n : Int) (m : Nat) (a b : Int) : List AV := A40 n m ++ [.pb [.int .i64 a, .int .i64 b] 0 ff]
theorem fewQ_len {q : List Int} {m : Nat} (hq : q.length = m * 2) : (fewQ q m).length = fewN m * 2 := by
  unfold fewQ fewN
  rw [List.length_take, hq]
  omega
theorem fewN_le (m : Nat) : fewN m ≤ 1000000000 := by unfold fewN; omega

theorem body6_0 (h11 : SpecOK PP (compC T) 11 (pureS gAwake)) {n : Int} {q : List Int} {m : Nat} {a b : Int} (hq : q.length = m * 2) (hn : (decide (n < 1) || decide (n > 7)) = true) (hw : checkP n (fewQ q m) (fewN m) = 1) (he : orderE n (fewQ q m) (fewN m) = 1) : Exec PP T none x6.nt 0 x6.body (startSt (A6 n m a b) (H1 q)) .r (RB 6 true) := by
  refine exec_orun (envL (L6_ok h11 1 1 false)) false 200 [true, false, true, false, true, false] [] (fun _ => rfl) (by kernel_rfl) (by kernel_rfl) (by kernel_rfl) ?_
  rw [(show obOf (orun (g6 1 1 false) false 200 x6.body (startSt (A6 n m a b) (H1 q)) [true, false, true, false, true, false]) = (decide ((0 + m) * 2 ≤ q.length) && true && true && true && (decide ((0 + fewN m) * 2 ≤ (fewQ (List.take (m * 2) q) m).length) && (decide (fewN m ≤ 1000000000) && checkP n (List.take (fewN m * 2) (List.drop 0 (fewQ (List.take (m * 2) q) m))) (fewN m) == 1) && true && ((!decide (n < 1) == false || true) && ((!decide (n < 1) == false || decide (n < 1) == false && true && true) && ((bif decide (n < 1) then true else decide (n < 1) == false) && true && true)) && ((bif decide (n < 1) then true else decide (n > 7)) && true) && (decide ((0 + fewN m) * 2 ≤ (fewQ (List.take (m * 2) q) m).length) && (decide (fewN m ≤ 1000000000) && checkP n (List.take (fewN m * 2) (List.drop 0 (fewQ (List.take (m * 2) q) m))) (fewN m) == 1) && (decide ((0 + fewN m) * 2 ≤ (fewQ (List.take (m * 2) q) m).length) && (decide (fewN m ≤ 1000000000) && orderE n (List.take (fewN m * 2) (List.drop 0 (fewQ (List.take (m * 2) q) m))) (fewN m) == 1) && true) && true && (decide ((0 + fewN m) * 2 ≤ (fewQ (List.take (m * 2) q) m).length) && (decide (fewN m ≤ 1000000000) && (checkP n (List.take (fewN m * 2) (List.drop 0 (fewQ (List.take (m * 2) q) m))) (fewN m) == 1 && !checkP n (List.take (fewN m * 2) (List.drop 0 (fewQ (List.take (m * 2) q) m))) (fewN m) == 0)) && true && (decide ((0 + fewN m) * 2 ≤ (fewQ (List.take (m * 2) q) m).length) && (decide (fewN m ≤ 1000000000) && (checkP n (List.take (fewN m * 2) (List.drop 0 (fewQ (List.take (m * 2) q) m))) (fewN m) == 1 && !checkP n (List.take (fewN m * 2) (List.drop 0 (fewQ (List.take (m * 2) q) m))) (fewN m) == 0)) && true && (decide ((0 + fewN m) * 2 ≤ (fewQ (List.take (m * 2) q) m).length) && (decide (fewN m ≤ 1000000000) && (checkP n (List.take (fewN m * 2) (List.drop 0 (fewQ (List.take (m * 2) q) m))) (fewN m) == 1 && !checkP n (List.take (fewN m * 2) (List.drop 0 (fewQ (List.take (m * 2) q) m))) (fewN m) == 0)) && true && (decide ((0 + fewN m) * 2 ≤ (fewQ (List.take (m * 2) q) m).length) && (decide (fewN m ≤ 1000000000) && (checkP n (List.take (fewN m * 2) (List.drop 0 (fewQ (List.take (m * 2) q) m))) (fewN m) == 1 && !checkP n (List.take (fewN m * 2) (List.drop 0 (fewQ (List.take (m * 2) q) m))) (fewN m) == 0)) && true && (decide ((0 + fewN m) * 2 ≤ (fewQ (List.take (m * 2) q) m).length) && (decide (fewN m ≤ 1000000000) && (checkP n (List.take (fewN m * 2) (List.drop 0 (fewQ (List.take (m * 2) q) m))) (fewN m) == 1 && !checkP n (List.take (fewN m * 2) (List.drop 0 (fewQ (List.take (m * 2) q) m))) (fewN m) == 0)) && true && (decide ((0 + fewN m) * 2 ≤ (fewQ (List.take (m * 2) q) m).length) && (decide (fewN m ≤ 1000000000) && (checkP n (List.take (fewN m * 2) (List.drop 0 (fewQ (List.take (m * 2) q) m))) (fewN m) == 1 && !checkP n (List.take (fewN m * 2) (List.drop 0 (fewQ (List.take (m * 2) q) m))) (fewN m) == 0)) && true && (decide ((0 + fewN m) * 2 ≤ (fewQ (List.take (m * 2) q) m).length) && (decide (fewN m ≤ 1000000000) && (checkP n (List.take (fewN m * 2) (List.drop 0 (fewQ (List.take (m * 2) q) m))) (fewN m) == 1 && !checkP n (List.take (fewN m * 2) (List.drop 0 (fewQ (List.take (m * 2) q) m))) (fewN m) == 0)) && true && (decide ((0 + fewN m) * 2 ≤ (fewQ (List.take (m * 2) q) m).length) && (decide (fewN m ≤ 1000000000) && (checkP n (List.take (fewN m * 2) (List.drop 0 (fewQ (List.take (m * 2) q) m))) (fewN m) == 1 && !checkP n (List.take (fewN m * 2) (List.drop 0 (fewQ (List.take (m * 2) q) m))) (fewN m) == 0)) && true && (decide ((0 + fewN m) * 2 ≤ (fewQ (List.take (m * 2) q) m).length) && (decide (fewN m ≤ 1000000000) && (checkP n (List.take (fewN m * 2) (List.drop 0 (fewQ (List.take (m * 2) q) m))) (fewN m) == 1 && !checkP n (List.take (fewN m * 2) (List.drop 0 (fewQ (List.take (m * 2) q) m))) (fewN m) == 0)) && true && true)))))))) && (decide ((0 + fewN m) * 2 ≤ (fewQ (List.take (m * 2) q) m).length) && (decide (fewN m ≤ 1000000000) && (orderE n (List.take (fewN m * 2) (List.drop 0 (fewQ (List.take (m * 2) q) m))) (fewN m) == 1 && !orderE n (List.take (fewN m * 2) (List.drop 0 (fewQ (List.take (m * 2) q) m))) (fewN m) == 0)) && true && (decide ((0 + fewN m) * 2 ≤ (fewQ (List.take (m * 2) q) m).length) && (decide (fewN m ≤ 1000000000) && (orderE n (List.take (fewN m * 2) (List.drop 0 (fewQ (List.take (m * 2) q) m))) (fewN m) == 1 && !orderE n (List.take (fewN m * 2) (List.drop 0 (fewQ (List.take (m * 2) q) m))) (fewN m) == 0)) && true && (decide ((0 + fewN m) * 2 ≤ (fewQ (List.take (m * 2) q) m).length) && (decide (fewN m ≤ 1000000000) && (orderE n (List.take (fewN m * 2) (List.drop 0 (fewQ (List.take (m * 2) q) m))) (fewN m) == 1 && !orderE n (List.take (fewN m * 2) (List.drop 0 (fewQ (List.take (m * 2) q) m))) (fewN m) == 0)) && true && (decide ((0 + fewN m) * 2 ≤ (fewQ (List.take (m * 2) q) m).length) && (decide (fewN m ≤ 1000000000) && (orderE n (List.take (fewN m * 2) (List.drop 0 (fewQ (List.take (m * 2) q) m))) (fewN m) == 1 && !orderE n (List.take (fewN m * 2) (List.drop 0 (fewQ (List.take (m * 2) q) m))) (fewN m) == 0)) && true && true))) && true)))))) from by kernel_rfl)]
  have hf := tk0 (fewQ_len hq)
  have ht := tk0 hq
  have hl := fewQ_len hq
  have hle := fewN_le m
  cases h0 : decide (n < 1) with
  | true => simp_all
  | false => simp_all

theorem body6_1 (h11 : SpecOK PP (compC T) 11 (pureS gAwake)) {n : Int} {q : List Int} {m : Nat} {a b : Int} (hq : q.length = m * 2) (hn : (decide (n < 1) || decide (n > 7)) = false) (hw : checkP n (fewQ q m) (fewN m) = 20) (he : orderE n (fewQ q m) (fewN m) = 0) (hi : isOrd n (fewQ q m) (fewN m) = true) : Exec PP T none x6.nt 0 x6.body (startSt (A6 n m a b) (H1 q)) .r (RB 6 true) := by
  refine exec_orun (envL (L6_ok h11 20 0 true)) false 200 [false, false, false, true, false, false] [] (fun _ => rfl) (by kernel_rfl) (by kernel_rfl) (by kernel_rfl) ?_
  rw [(show obOf (orun (g6 20 0 true) false 200 x6.body (startSt (A6 n m a b) (H1 q)) [false, false, false, true, false, false]) = (decide ((0 + m) * 2 ≤ q.length) && true && true && true && (decide ((0 + fewN m) * 2 ≤ (fewQ (List.take (m * 2) q) m).length) && (decide (fewN m ≤ 1000000000) && checkP n (List.take (fewN m * 2) (List.drop 0 (fewQ (List.take (m * 2) q) m))) (fewN m) == 20) && true && ((!decide (n < 1) == false || true) && ((!decide (n < 1) == false || decide (n < 1) == false && true && true) && ((bif decide (n < 1) then true else decide (n < 1) == false) && true && true)) && ((!bif decide (n < 1) then true else decide (n > 7)) && (decide ((0 + fewN m) * 2 ≤ (fewQ (List.take (m * 2) q) m).length) && (decide (fewN m ≤ 1000000000) && isOrd n (List.take (fewN m * 2) (List.drop 0 (fewQ (List.take (m * 2) q) m))) (fewN m) == true) && true && true)) && (decide ((0 + fewN m) * 2 ≤ (fewQ (List.take (m * 2) q) m).length) && (decide (fewN m ≤ 1000000000) && checkP n (List.take (fewN m * 2) (List.drop 0 (fewQ (List.take (m * 2) q) m))) (fewN m) == 20) && (decide ((0 + fewN m) * 2 ≤ (fewQ (List.take (m * 2) q) m).length) && (decide (fewN m ≤ 1000000000) && orderE n (List.take (fewN m * 2) (List.drop 0 (fewQ (List.take (m * 2) q) m))) (fewN m) == 0) && true) && true && (decide ((0 + fewN m) * 2 ≤ (fewQ (List.take (m * 2) q) m).length) && (decide (fewN m ≤ 1000000000) && (checkP n (List.take (fewN m * 2) (List.drop 0 (fewQ (List.take (m * 2) q) m))) (fewN m) == 20 && !checkP n (List.take (fewN m * 2) (List.drop 0 (fewQ (List.take (m * 2) q) m))) (fewN m) == 0)) && true && (decide ((0 + fewN m) * 2 ≤ (fewQ (List.take (m * 2) q) m).length) && (decide (fewN m ≤ 1000000000) && (checkP n (List.take (fewN m * 2) (List.drop 0 (fewQ (List.take (m * 2) q) m))) (fewN m) == 20 && !checkP n (List.take (fewN m * 2) (List.drop 0 (fewQ (List.take (m * 2) q) m))) (fewN m) == 0)) && true && (decide ((0 + fewN m) * 2 ≤ (fewQ (List.take (m * 2) q) m).length) && (decide (fewN m ≤ 1000000000) && (checkP n (List.take (fewN m * 2) (List.drop 0 (fewQ (List.take (m * 2) q) m))) (fewN m) == 20 && !checkP n (List.take (fewN m * 2) (List.drop 0 (fewQ (List.take (m * 2) q) m))) (fewN m) == 0)) && true && (decide ((0 + fewN m) * 2 ≤ (fewQ (List.take (m * 2) q) m).length) && (decide (fewN m ≤ 1000000000) && (checkP n (List.take (fewN m * 2) (List.drop 0 (fewQ (List.take (m * 2) q) m))) (fewN m) == 20 && !checkP n (List.take (fewN m * 2) (List.drop 0 (fewQ (List.take (m * 2) q) m))) (fewN m) == 0)) && true && (decide ((0 + fewN m) * 2 ≤ (fewQ (List.take (m * 2) q) m).length) && (decide (fewN m ≤ 1000000000) && (checkP n (List.take (fewN m * 2) (List.drop 0 (fewQ (List.take (m * 2) q) m))) (fewN m) == 20 && !checkP n (List.take (fewN m * 2) (List.drop 0 (fewQ (List.take (m * 2) q) m))) (fewN m) == 0)) && true && (decide ((0 + fewN m) * 2 ≤ (fewQ (List.take (m * 2) q) m).length) && (decide (fewN m ≤ 1000000000) && (checkP n (List.take (fewN m * 2) (List.drop 0 (fewQ (List.take (m * 2) q) m))) (fewN m) == 20 && !checkP n (List.take (fewN m * 2) (List.drop 0 (fewQ (List.take (m * 2) q) m))) (fewN m) == 0)) && true && (decide ((0 + fewN m) * 2 ≤ (fewQ (List.take (m * 2) q) m).length) && (decide (fewN m ≤ 1000000000) && (checkP n (List.take (fewN m * 2) (List.drop 0 (fewQ (List.take (m * 2) q) m))) (fewN m) == 20 && !checkP n (List.take (fewN m * 2) (List.drop 0 (fewQ (List.take (m * 2) q) m))) (fewN m) == 0)) && true && (decide ((0 + fewN m) * 2 ≤ (fewQ (List.take (m * 2) q) m).length) && (decide (fewN m ≤ 1000000000) && (checkP n (List.take (fewN m * 2) (List.drop 0 (fewQ (List.take (m * 2) q) m))) (fewN m) == 20 && !checkP n (List.take (fewN m * 2) (List.drop 0 (fewQ (List.take (m * 2) q) m))) (fewN m) == 0)) && true && (decide ((0 + fewN m) * 2 ≤ (fewQ (List.take (m * 2) q) m).length) && (decide (fewN m ≤ 1000000000) && (checkP n (List.take (fewN m * 2) (List.drop 0 (fewQ (List.take (m * 2) q) m))) (fewN m) == 20 && !checkP n (List.take (fewN m * 2) (List.drop 0 (fewQ (List.take (m * 2) q) m))) (fewN m) == 0)) && true && true)))))))) && true))))) from by kernel_rfl)]
  have hf := tk0 (fewQ_len hq)
  have ht := tk0 hq
  have hl := fewQ_len hq
  have hle := fewN_le m
  cases h0 : decide (n < 1) with
  | true => simp_all
  | false => simp_all

theorem body6_2 (h11 : SpecOK PP (compC T) 11 (pureS gAwake)) {n : Int} {q : List Int} {m : Nat} {a b : Int} (hq : q.length = m * 2) (hn : (decide (n < 1) || decide (n > 7)) = false) (hw : checkP n (fewQ q m) (fewN m) = 0) (he : orderE n (fewQ q m) (fewN m) = 0) (hi : isOrd n (fewQ q m) (fewN m) = true) : Exec PP T none x6.nt 0 x6.body (startSt (A6 n m a b) (H1 q)) .r (RB 6 true) := by
  refine exec_orun (envL (L6_ok h11 0 0 true)) false 200 [false, false, false, false, false] [] (fun _ => rfl) (by kernel_rfl) (by kernel_rfl) (by kernel_rfl) ?_
  rw [(show obOf (orun (g6 0 0 true) false 200 x6.body (startSt (A6 n m a b) (H1 q)) [false, false, false, false, false]) = (decide ((0 + m) * 2 ≤ q.length) && true && true && true && (decide ((0 + fewN m) * 2 ≤ (fewQ (List.take (m * 2) q) m).length) && (decide (fewN m ≤ 1000000000) && checkP n (List.take (fewN m * 2) (List.drop 0 (fewQ (List.take (m * 2) q) m))) (fewN m) == 0) && true && ((!decide (n < 1) == false || true) && ((!decide (n < 1) == false || decide (n < 1) == false && true && true) && ((bif decide (n < 1) then true else decide (n < 1) == false) && true && true)) && ((!bif decide (n < 1) then true else decide (n > 7)) && (decide ((0 + fewN m) * 2 ≤ (fewQ (List.take (m * 2) q) m).length) && (decide (fewN m ≤ 1000000000) && isOrd n (List.take (fewN m * 2) (List.drop 0 (fewQ (List.take (m * 2) q) m))) (fewN m) == true) && true && true)) && (decide ((0 + fewN m) * 2 ≤ (fewQ (List.take (m * 2) q) m).length) && (decide (fewN m ≤ 1000000000) && checkP n (List.take (fewN m * 2) (List.drop 0 (fewQ (List.take (m * 2) q) m))) (fewN m) == 0) && (decide ((0 + fewN m) * 2 ≤ (fewQ (List.take (m * 2) q) m).length) && (decide (fewN m ≤ 1000000000) && orderE n (List.take (fewN m * 2) (List.drop 0 (fewQ (List.take (m * 2) q) m))) (fewN m) == 0) && true) && true && true)))) from by kernel_rfl)]
  have hf := tk0 (fewQ_len hq)
  have ht := tk0 hq
  have hl := fewQ_len hq
  have hle := fewN_le m
  cases h0 : decide (n < 1) with
  | true => simp_all
  | false => simp_all

theorem body6_3 (h11 : SpecOK PP (compC T) 11 (pureS gAwake)) {n : Int} {q : List Int} {m : Nat} {a b : Int} (hq : q.length = m * 2) (hn : (decide (n < 1) || decide (n > 7)) = false) (hw : checkP n (fewQ q m) (fewN m) = 0) (he : orderE n (fewQ q m) (fewN m) = 30) (hi : isOrd n (fewQ q m) (fewN m) = false) : Exec PP T none x6.nt 0 x6.body (startSt (A6 n m a b) (H1 q)) .r (RB 6 true) := by
  refine exec_orun (envL (L6_ok h11 0 30 false)) false 200 [false, true, false, false, true, false] [] (fun _ => rfl) (by kernel_rfl) (by kernel_rfl) (by kernel_rfl) ?_
  rw [(show obOf (orun (g6 0 30 false) false 200 x6.body (startSt (A6 n m a b) (H1 q)) [false, true, false, false, true, false]) = (decide ((0 + m) * 2 ≤ q.length) && true && true && true && (decide ((0 + fewN m) * 2 ≤ (fewQ (List.take (m * 2) q) m).length) && (decide (fewN m ≤ 1000000000) && checkP n (List.take (fewN m * 2) (List.drop 0 (fewQ (List.take (m * 2) q) m))) (fewN m) == 0) && true && ((!decide (n < 1) == false || true) && ((!decide (n < 1) == false || decide (n < 1) == false && true && true) && ((bif decide (n < 1) then true else decide (n < 1) == false) && true && true)) && ((!bif decide (n < 1) then true else decide (n > 7)) && (decide ((0 + fewN m) * 2 ≤ (fewQ (List.take (m * 2) q) m).length) && (decide (fewN m ≤ 1000000000) && isOrd n (List.take (fewN m * 2) (List.drop 0 (fewQ (List.take (m * 2) q) m))) (fewN m) == false) && true && true)) && (decide ((0 + fewN m) * 2 ≤ (fewQ (List.take (m * 2) q) m).length) && (decide (fewN m ≤ 1000000000) && checkP n (List.take (fewN m * 2) (List.drop 0 (fewQ (List.take (m * 2) q) m))) (fewN m) == 0) && (decide ((0 + fewN m) * 2 ≤ (fewQ (List.take (m * 2) q) m).length) && (decide (fewN m ≤ 1000000000) && orderE n (List.take (fewN m * 2) (List.drop 0 (fewQ (List.take (m * 2) q) m))) (fewN m) == 30) && true) && true && (decide ((0 + fewN m) * 2 ≤ (fewQ (List.take (m * 2) q) m).length) && (decide (fewN m ≤ 1000000000) && (orderE n (List.take (fewN m * 2) (List.drop 0 (fewQ (List.take (m * 2) q) m))) (fewN m) == 30 && !orderE n (List.take (fewN m * 2) (List.drop 0 (fewQ (List.take (m * 2) q) m))) (fewN m) == 0)) && true && (decide ((0 + fewN m) * 2 ≤ (fewQ (List.take (m * 2) q) m).length) && (decide (fewN m ≤ 1000000000) && (orderE n (List.take (fewN m * 2) (List.drop 0 (fewQ (List.take (m * 2) q) m))) (fewN m) == 30 && !orderE n (List.take (fewN m * 2) (List.drop 0 (fewQ (List.take (m * 2) q) m))) (fewN m) == 0)) && true && (decide ((0 + fewN m) * 2 ≤ (fewQ (List.take (m * 2) q) m).length) && (decide (fewN m ≤ 1000000000) && (orderE n (List.take (fewN m * 2) (List.drop 0 (fewQ (List.take (m * 2) q) m))) (fewN m) == 30 && !orderE n (List.take (fewN m * 2) (List.drop 0 (fewQ (List.take (m * 2) q) m))) (fewN m) == 0)) && true && (decide ((0 + fewN m) * 2 ≤ (fewQ (List.take (m * 2) q) m).length) && (decide (fewN m ≤ 1000000000) && (orderE n (List.take (fewN m * 2) (List.drop 0 (fewQ (List.take (m * 2) q) m))) (fewN m) == 30 && !orderE n (List.take (fewN m * 2) (List.drop 0 (fewQ (List.take (m * 2) q) m))) (fewN m) == 0)) && true && true))) && true))))) from by kernel_rfl)]
  have hf := tk0 (fewQ_len hq)
  have ht := tk0 hq
  have hl := fewQ_len hq
  have hle := fewN_le m
  cases h0 : decide (n < 1) with
  | true => simp_all
  | false => simp_all

theorem body6_4 (h11 : SpecOK PP (compC T) 11 (pureS gAwake)) {n : Int} {q : List Int} {m : Nat} {a b : Int} (hq : q.length = m * 2) (hn : (decide (n < 1) || decide (n > 7)) = false) (hw : checkP n (fewQ q m) (fewN m) = 20) (he : orderE n (fewQ q m) (fewN m) = 30) (hi : isOrd n (fewQ q m) (fewN m) = false) : Exec PP T none x6.nt 0 x6.body (startSt (A6 n m a b) (H1 q)) .r (RB 6 true) := by
  refine exec_orun (envL (L6_ok h11 20 30 false)) false 200 [false, true, false, true, false, true, false] [] (fun _ => rfl) (by kernel_rfl) (by kernel_rfl) (by kernel_rfl) ?_
  rw [(show obOf (orun (g6 20 30 false) false 200 x6.body (startSt (A6 n m a b) (H1 q)) [false, true, false, true, false, true, false]) = (decide ((0 + m) * 2 ≤ q.length) && true && true && true && (decide ((0 + fewN m) * 2 ≤ (fewQ (List.take (m * 2) q) m).length) && (decide (fewN m ≤ 1000000000) && checkP n (List.take (fewN m * 2) (List.drop 0 (fewQ (List.take (m * 2) q) m))) (fewN m) == 20) && true && ((!decide (n < 1) == false || true) && ((!decide (n < 1) == false || decide (n < 1) == false && true && true) && ((bif decide (n < 1) then true else decide (n < 1) == false) && true && true)) && ((!bif decide (n < 1) then true else decide (n > 7)) && (decide ((0 + fewN m) * 2 ≤ (fewQ (List.take (m * 2) q) m).length) && (decide (fewN m ≤ 1000000000) && isOrd n (List.take (fewN m * 2) (List.drop 0 (fewQ (List.take (m * 2) q) m))) (fewN m) == false) && true && true)) && (decide ((0 + fewN m) * 2 ≤ (fewQ (List.take (m * 2) q) m).length) && (decide (fewN m ≤ 1000000000) && checkP n (List.take (fewN m * 2) (List.drop 0 (fewQ (List.take (m * 2) q) m))) (fewN m) == 20) && (decide ((0 + fewN m) * 2 ≤ (fewQ (List.take (m * 2) q) m).length) && (decide (fewN m ≤ 1000000000) && orderE n (List.take (fewN m * 2) (List.drop 0 (fewQ (List.take (m * 2) q) m))) (fewN m) == 30) && true) && true && (decide ((0 + fewN m) * 2 ≤ (fewQ (List.take (m * 2) q) m).length) && (decide (fewN m ≤ 1000000000) && (checkP n (List.take (fewN m * 2) (List.drop 0 (fewQ (List.take (m * 2) q) m))) (fewN m) == 20 && !checkP n (List.take (fewN m * 2) (List.drop 0 (fewQ (List.take (m * 2) q) m))) (fewN m) == 0)) && true && (decide ((0 + fewN m) * 2 ≤ (fewQ (List.take (m * 2) q) m).length) && (decide (fewN m ≤ 1000000000) && (checkP n (List.take (fewN m * 2) (List.drop 0 (fewQ (List.take (m * 2) q) m))) (fewN m) == 20 && !checkP n (List.take (fewN m * 2) (List.drop 0 (fewQ (List.take (m * 2) q) m))) (fewN m) == 0)) && true && (decide ((0 + fewN m) * 2 ≤ (fewQ (List.take (m * 2) q) m).length) && (decide (fewN m ≤ 1000000000) && (checkP n (List.take (fewN m * 2) (List.drop 0 (fewQ (List.take (m * 2) q) m))) (fewN m) == 20 && !checkP n (List.take (fewN m * 2) (List.drop 0 (fewQ (List.take (m * 2) q) m))) (fewN m) == 0)) && true && (decide ((0 + fewN m) * 2 ≤ (fewQ (List.take (m * 2) q) m).length) && (decide (fewN m ≤ 1000000000) && (checkP n (List.take (fewN m * 2) (List.drop 0 (fewQ (List.take (m * 2) q) m))) (fewN m) == 20 && !checkP n (List.take (fewN m * 2) (List.drop 0 (fewQ (List.take (m * 2) q) m))) (fewN m) == 0)) && true && (decide ((0 + fewN m) * 2 ≤ (fewQ (List.take (m * 2) q) m).length) && (decide (fewN m ≤ 1000000000) && (checkP n (List.take (fewN m * 2) (List.drop 0 (fewQ (List.take (m * 2) q) m))) (fewN m) == 20 && !checkP n (List.take (fewN m * 2) (List.drop 0 (fewQ (List.take (m * 2) q) m))) (fewN m) == 0)) && true && (decide ((0 + fewN m) * 2 ≤ (fewQ (List.take (m * 2) q) m).length) && (decide (fewN m ≤ 1000000000) && (checkP n (List.take (fewN m * 2) (List.drop 0 (fewQ (List.take (m * 2) q) m))) (fewN m) == 20 && !checkP n (List.take (fewN m * 2) (List.drop 0 (fewQ (List.take (m * 2) q) m))) (fewN m) == 0)) && true && (decide ((0 + fewN m) * 2 ≤ (fewQ (List.take (m * 2) q) m).length) && (decide (fewN m ≤ 1000000000) && (checkP n (List.take (fewN m * 2) (List.drop 0 (fewQ (List.take (m * 2) q) m))) (fewN m) == 20 && !checkP n (List.take (fewN m * 2) (List.drop 0 (fewQ (List.take (m * 2) q) m))) (fewN m) == 0)) && true && (decide ((0 + fewN m) * 2 ≤ (fewQ (List.take (m * 2) q) m).length) && (decide (fewN m ≤ 1000000000) && (checkP n (List.take (fewN m * 2) (List.drop 0 (fewQ (List.take (m * 2) q) m))) (fewN m) == 20 && !checkP n (List.take (fewN m * 2) (List.drop 0 (fewQ (List.take (m * 2) q) m))) (fewN m) == 0)) && true && (decide ((0 + fewN m) * 2 ≤ (fewQ (List.take (m * 2) q) m).length) && (decide (fewN m ≤ 1000000000) && (checkP n (List.take (fewN m * 2) (List.drop 0 (fewQ (List.take (m * 2) q) m))) (fewN m) == 20 && !checkP n (List.take (fewN m * 2) (List.drop 0 (fewQ (List.take (m * 2) q) m))) (fewN m) == 0)) && true && true)))))))) && (decide ((0 + fewN m) * 2 ≤ (fewQ (List.take (m * 2) q) m).length) && (decide (fewN m ≤ 1000000000) && (orderE n (List.take (fewN m * 2) (List.drop 0 (fewQ (List.take (m * 2) q) m))) (fewN m) == 30 && !orderE n (List.take (fewN m * 2) (List.drop 0 (fewQ (List.take (m * 2) q) m))) (fewN m) == 0)) && true && (decide ((0 + fewN m) * 2 ≤ (fewQ (List.take (m * 2) q) m).length) && (decide (fewN m ≤ 1000000000) && (orderE n (List.take (fewN m * 2) (List.drop 0 (fewQ (List.take (m * 2) q) m))) (fewN m) == 30 && !orderE n (List.take (fewN m * 2) (List.drop 0 (fewQ (List.take (m * 2) q) m))) (fewN m) == 0)) && true && (decide ((0 + fewN m) * 2 ≤ (fewQ (List.take (m * 2) q) m).length) && (decide (fewN m ≤ 1000000000) && (orderE n (List.take (fewN m * 2) (List.drop 0 (fewQ (List.take (m * 2) q) m))) (fewN m) == 30 && !orderE n (List.take (fewN m * 2) (List.drop 0 (fewQ (List.take (m * 2) q) m))) (fewN m) == 0)) && true && (decide ((0 + fewN m) * 2 ≤ (fewQ (List.take (m * 2) q) m).length) && (decide (fewN m ≤ 1000000000) && (orderE n (List.take (fewN m * 2) (List.drop 0 (fewQ (List.take (m * 2) q) m))) (fewN m) == 30 && !orderE n (List.take (fewN m * 2) (List.drop 0 (fewQ (List.take (m * 2) q) m))) (fewN m) == 0)) && true && true))) && true)))))) from by kernel_rfl)]
  have hf := tk0 (fewQ_len hq)
  have ht := tk0 hq
  have hl := fewQ_len hq
  have hle := fewN_le m
  cases h0 : decide (n < 1) with
  | true => simp_all
  | false => simp_all

end Go.Proofs.Yteekkjfjpoaihaa.Eng

/- A part of the proof of ordersOrders_holds. -/
import Derived.Test.YteekkjfjpoaihaaOo09
set_option linter.all false
namespace Go.Proofs.Yteekkjfjpoaihaa.Eng
open Go Go.Proofs
theorem blt_lt {a b : Nat} (h : a < b) : Nat.blt a b = true := Nat.ble_eq_true_of_le h
/-- where a search of the first m numbers ends -/
def fstN (p : Nat → Bool) : Nat → Nat
  | 0 => 0
  | m + 1 => bif Nat.blt (fstN p m) m then fstN p m else bif p m then m else m + 1
theorem fstN_spec (p : Nat → Bool) : ∀ m, fstN p m ≤ m ∧ (∀ i, i < fstN p m → p i = false) ∧ (fstN p m < m → p (fstN p m) = true)
  | 0 => ⟨Nat.le_refl _, fun i hi => by simp [fstN] at hi, fun h => by simp [fstN] at h⟩
  | m + 1 => by
    obtain ⟨h1, h2, h3⟩ := fstN_spec p m
    unfold fstN
    by_cases hb : fstN p m < m
    · rw [show Nat.blt (fstN p m) m = true from blt_lt hb, cond_true]
      exact ⟨by omega, h2, fun _ => h3 hb⟩
    · have : Nat.blt (fstN p m) m = false := by
        cases hh : Nat.blt (fstN p m) m with
        | false => rfl
        | true => exact absurd (Nat.le_of_ble_eq_true hh) hb
      rw [this, cond_false]
      have e : fstN p m = m := by omega
      rw [e] at h2
      cases hp : p m with
      | true => exact ⟨by simp, fun i hi => h2 i (by simpa using hi), fun _ => by simpa using hp⟩
      | false =>
        refine ⟨by simp, fun i hi => ?_, fun h => by simp at h⟩
        simp at hi
        by_cases hi' : i < m
        · exact h2 i hi'
        · rw [show i = m by omega]; exact hp
theorem blt_self (m : Nat) : Nat.blt m m = false := by
  cases hh : Nat.blt m m with
  | false => rfl
  | true => exact absurd (Nat.le_of_ble_eq_true hh) (by omega)
theorem exec_loop_find {P : Program} {T : Tab} {r : Option Nat} {nt kp : Nat} {x : XC} (S : Nat → St) (p : Nat → Bool) (m : Nat) {eh ee : XE} {Sh : Nat → St} {Se : St} (step : ∀ i, i < m → p i = false → Exec P T r nt kp x (S i) .n (S (i + 1)))
    (hit : ∀ i, i < m → p i = true → Exec P T r nt kp x (S i) eh (Sh i)) (hh : eh ≠ .n) (out : Exec P T r nt kp x (S m) ee Se) (he : ee ≠ .n) :
    (fstN p m < m ∧ Exec P T r nt kp (.loop x) (S 0) eh (Sh (fstN p m))) ∨ (fstN p m = m ∧ Exec P T r nt kp (.loop x) (S 0) ee Se) := by
  obtain ⟨h1, h2, h3⟩ := fstN_spec p m
  by_cases hb : fstN p m < m
  · exact .inl ⟨hb, exec_loop_up S (fstN p m) (fun i hi => step i (by omega) (h2 i hi)) (hit _ hb (h3 hb)) hh 0 (by omega)⟩
  · have e : fstN p m = m := by omega
    exact .inr ⟨e, exec_loop_up S m (fun i hi => step i hi (h2 i (by omega))) out he 0 (by omega)⟩
/-- a number of a list, as the runs name it -/
def at1 (q : List Int) (i : Nat) : Int := q.getD (0 + (0 + i) * 1) 0
theorem at1_eq (q : List Int) (i : Nat) : at1 q i = q.getD i 0 := by unfold at1; congr 1; omega
abbrev s1S (id m : Nat) : Slot := ⟨true, .av (.s (.sl id 0 1 m))⟩
abbrev iS (a : Int) : Slot := ⟨true, I a⟩
abbrev V1 (q : List Int) : List HO := [⟨true, .xvec .i64 1 q⟩]
def L64 : XC := x64.body.b.b.b.a.b.i.i
abbrev S64 (q : List Int) (m : Nat) (a : Int) (i : Nat) : St := mkSt [(0, s1S 0 m), (3, iS a), (4, iS i)] (V1 q) 1 []
def mxF (q : List Int) : Nat → Int
  | 0 => at1 q 0
  | i + 1 => max (mxF q i) (at1 q (i + 1))
theorem a64 {q : List Int} {m : Nat}  : Exec PP T none x64.nt 0 x64.body.a (startSt [.s (.sl 0 0 1 m)] (V1 q)) .n (mkSt [(0, s1S 0 m)] (V1 q) 1 []) := by
  refine exec_orun env0 false 60 [] [0] (fun _ => rfl) (by kernel_rfl) (by kernel_rfl) (by kernel_rfl) (by kernel_rfl)
theorem b64 {q : List Int} {m : Nat} (h : 0 < m) : Exec PP T none x64.nt 0 x64.body.b.a (mkSt [(0, s1S 0 m)] (V1 q) 1 []) .n (mkSt [(0, s1S 0 m)] (V1 q) 1 []) := by
  refine exec_orun env0 false 60 [false] [0] (fun _ => rfl) (by kernel_rfl) (by kernel_rfl) (by kernel_rfl) ?_
  rw [(show obOf (orun g0 false 60 x64.body.b.a (mkSt [(0, s1S 0 m)] (V1 q) 1 []) [false]) = (!decide (Int.ofNat m < 1) && true) from by kernel_rfl)]
  first | rfl | (simp; done) | (simp; omega) | (simp [rng64]; done) | (simp [rng64]; omega)
theorem cc64 {q : List Int} {m : Nat} (hq : q.length = m * 1) (h : 0 < m) : Exec PP T none x64.nt 0 x64.body.b.b.a (mkSt [(0, s1S 0 m)] (V1 q) 1 []) .n (mkSt [(0, s1S 0 m), (3, iS (at1 q 0))] (V1 q) 1 []) := by
  refine exec_orun env0 false 60 [] [0] (fun _ => rfl) (by kernel_rfl) (by kernel_rfl) (by kernel_rfl) ?_
  rw [(show obOf (orun g0 false 60 x64.body.b.b.a (mkSt [(0, s1S 0 m)] (V1 q) 1 []) []) = (decide (0 < Int.ofNat m) && (decide (0 < q.length) && true)) from by kernel_rfl)]
  first | rfl | (simp; done) | (simp; omega) | (simp [rng64]; done) | (simp [rng64]; omega)
theorem d64 {q : List Int} {m : Nat} {a : Int}  : Exec PP T none x64.nt 0 x64.body.b.b.b.a.a (mkSt [(0, s1S 0 m), (3, iS a)] (V1 q) 1 []) .n (S64 q m a 1) := by
  refine exec_orun env0 false 60 [] [0] (fun _ => rfl) (by kernel_rfl) (by kernel_rfl) (by kernel_rfl) (by kernel_rfl)
theorem l64 {q : List Int} {m : Nat} {a : Int} {i : Nat} (hq : q.length = m * 1) (hm : m ≤ 1000000000) (hi : i < m) : Exec PP T none x64.nt 0 L64 (S64 q m a i) .n (S64 q m (max a (at1 q i)) (i + 1)) := by
  refine exec_orun env0 false 60 [true] [0] (fun _ => rfl) (by kernel_rfl) (by kernel_rfl) (by kernel_rfl) ?_
  rw [(show obOf (orun g0 false 60 L64 (S64 q m a i) [true]) = (decide (Int.ofNat i < Int.ofNat m) && true && (decide (0 ≤ Int.ofNat i) && decide (Int.ofNat i < Int.ofNat m) && (decide (0 + (0 + i) * 1 < q.length) && true) && (rng64 (Int.ofNat i.succ) && true))) from by kernel_rfl)]
  first | rfl | (simp; done) | (simp; omega) | (simp [rng64]; done) | (simp [rng64]; omega)
theorem z64 {q : List Int} {m : Nat} {a : Int}  : Exec PP T none x64.nt 0 L64 (S64 q m a m) (.x 0) (S64 q m a m) := by
  refine exec_orun env0 false 60 [false] [0] (fun _ => rfl) (by kernel_rfl) (by kernel_rfl) (by kernel_rfl) ?_
  rw [(show obOf (orun g0 false 60 L64 (S64 q m a m) [false]) = (!decide (Int.ofNat m < Int.ofNat m) && true) from by kernel_rfl)]
  first | rfl | (simp; done) | (simp; omega) | (simp [rng64]; done) | (simp [rng64]; omega)
theorem e64 {q : List Int} {m : Nat} {a : Int} {i : Nat}  : Exec PP T none x64.nt 0 x64.body.b.b.b.b (S64 q m a i) .r (RI 2 a) := by
  refine exec_orun env0 false 60 [] [] (fun _ => rfl) (by kernel_rfl) (by kernel_rfl) (by kernel_rfl) (by kernel_rfl)
theorem body64 {q : List Int} {m : Nat} (hq : q.length = m * 1) (hm : m ≤ 1000000000) (h : 0 < m) : Exec PP T none x64.nt 0 x64.body (startSt [.s (.sl 0 0 1 m)] (V1 q)) .r (RI 2 (mxF q (m - 1))) := by
  refine exec_seq (x := x64.body.a) (y := x64.body.b) a64 (exec_seq (x := x64.body.b.a) (y := x64.body.b.b) (b64 h) (exec_seq (x := x64.body.b.b.a) (y := x64.body.b.b.b) (cc64 hq h) (exec_seq (x := x64.body.b.b.b.a) (y := x64.body.b.b.b.b) (exec_seq (x := x64.body.b.b.b.a.a) (y := .block 0 (.loop L64)) d64 (exec_block (e := .x 0) ?_)) (e64 (q := q) (m := m) (i := m)))))
  have := exec_loop_up (fun j => S64 q m (mxF q j) (j + 1)) (m - 1) (fun j hj => l64 hq hm (by omega)) (e := .x 0) (S' := S64 q m (mxF q (m - 1)) m) (by show Exec _ _ _ _ _ _ (S64 q m (mxF q (m - 1)) (m - 1 + 1)) _ _; rw [show m - 1 + 1 = m by omega]; exact z64) (by simp) 0 (by omega)
  exact this
def cMax : List PA → Bool := fun pas => match pas with | [.sl _ _ m] => decide (0 < m) | _ => false
def vMax : List PA → TV := fun pas => match pas with | [.sl _ q m] => I (mxF q (m - 1)) | _ => anyT
noncomputable abbrev spMax : Spec := genS [.sl 1] cMax vMax fun _ => []
theorem ok64 : SpecOK PP (compC T) 64 spMax := ok_gen o64 (by kernel_rfl) fun pas hf hc => match pas, hf with
  | [.sl _ q m], ⟨⟨rfl, hq, hm⟩, _⟩ => ⟨_, 0, .r, body64 hq hm (of_decide_eq_true hc), fun _ => rfl, by kernel_rfl, by kernel_rfl, by kernel_rfl⟩
def L63 : XC := x63.body.b.a.b.i.i
abbrev S63 (q : List Int) (m : Nat) (v : Int) (i : Nat) : St := mkSt [(0, s1S 0 m), (1, iS v), (7, iS m), (8, iS i)] (V1 q) 1 []
theorem a63 {q : List Int} {m : Nat} {v : Int}  : Exec PP T none x63.nt 0 x63.body.a (startSt [.s (.sl 0 0 1 m), .s (.int .i64 v)] (V1 q)) .n (mkSt [(0, s1S 0 m), (1, iS v)] (V1 q) 1 []) := by
  refine exec_orun env0 false 60 [] [0] (fun _ => rfl) (by kernel_rfl) (by kernel_rfl) (by kernel_rfl) (by kernel_rfl)
theorem b63 {q : List Int} {m : Nat} {v : Int}  : Exec PP T none x63.nt 0 x63.body.b.a.a (mkSt [(0, s1S 0 m), (1, iS v)] (V1 q) 1 []) .n (S63 q m v 0) := by
  refine exec_orun env0 false 60 [] [0] (fun _ => rfl) (by kernel_rfl) (by kernel_rfl) (by kernel_rfl) (by kernel_rfl)
theorem l63 {q : List Int} {m : Nat} {v : Int} {i : Nat} (hq : q.length = m * 1) (hm : m ≤ 1000000000) (hi : i < m) (h : (v == at1 q i) = false) : Exec PP T none x63.nt 0 L63 (S63 q m v i) .n (S63 q m v (i + 1)) := by
  refine exec_orun env0 false 60 [true, false] [0] (fun _ => rfl) (by kernel_rfl) (by kernel_rfl) (by kernel_rfl) ?_
  rw [(show obOf (orun g0 false 60 L63 (S63 q m v i) [true, false]) = (decide (Int.ofNat i < Int.ofNat m) && true && (decide (0 ≤ Int.ofNat i) && decide (Int.ofNat i < Int.ofNat m) && (decide (0 + (0 + i) * 1 < q.length) && true) && (!v == q.getD (0 + (0 + i) * 1) 0 && true) && (rng64 (Int.ofNat i.succ) && true))) from by kernel_rfl)]
  unfold at1 at h
  rw [h]
  simp [rng64]
  omega
theorem h63 {q : List Int} {m : Nat} {v : Int} {i : Nat} (hq : q.length = m * 1) (hm : m ≤ 1000000000) (hi : i < m) (h : (v == at1 q i) = true) : Exec PP T none x63.nt 0 L63 (S63 q m v i) .r (RI 4 i) := by
  refine exec_orun env0 false 60 [true, true] [] (fun _ => rfl) (by kernel_rfl) (by kernel_rfl) (by kernel_rfl) ?_
  rw [(show obOf (orun g0 false 60 L63 (S63 q m v i) [true, true]) = (decide (Int.ofNat i < Int.ofNat m) && true && (decide (0 ≤ Int.ofNat i) && decide (Int.ofNat i < Int.ofNat m) && (decide (0 + (0 + i) * 1 < q.length) && true) && (v == q.getD (0 + (0 + i) * 1) 0 && true))) from by kernel_rfl)]
  unfold at1 at h
  rw [h]
  simp
  omega
theorem z63 {q : List Int} {m : Nat} {v : Int}  : Exec PP T none x63.nt 0 L63 (S63 q m v m) (.x 0) (S63 q m v m) := by
  refine exec_orun env0 false 60 [false] [0] (fun _ => rfl) (by kernel_rfl) (by kernel_rfl) (by kernel_rfl) ?_
  rw [(show obOf (orun g0 false 60 L63 (S63 q m v m) [false]) = (!decide (Int.ofNat m < Int.ofNat m) && true) from by kernel_rfl)]
  first | rfl | (simp; done) | (simp; omega) | (simp [rng64]; done) | (simp [rng64]; omega)
theorem e63 {q : List Int} {m : Nat} {v : Int}  : Exec PP T none x63.nt 0 x63.body.b.b (S63 q m v m) .r (RI 4 (-1)) := by
  refine exec_orun env0 false 60 [] [] (fun _ => rfl) (by kernel_rfl) (by kernel_rfl) (by kernel_rfl) (by kernel_rfl)
def idxF (q : List Int) (m : Nat) (v : Int) : Int := bif Nat.blt (fstN (fun i => v == at1 q i) m) m then Int.ofNat (fstN (fun i => v == at1 q i) m) else -1
theorem body63 {q : List Int} {m : Nat} {v : Int} (hq : q.length = m * 1) (hm : m ≤ 1000000000) : Exec PP T none x63.nt 0 x63.body (startSt [.s (.sl 0 0 1 m), .s (.int .i64 v)] (V1 q)) .r (RI 4 (idxF q m v)) := by
  refine exec_seq (x := x63.body.a) (y := x63.body.b) a63 ?_
  unfold idxF
  rcases exec_loop_find (S63 q m v) (fun i => v == at1 q i) m (fun i hi h => l63 hq hm hi h) (fun i hi h => h63 hq hm hi h) (by simp) z63 (by simp) with ⟨h1, h2⟩ | ⟨h1, h2⟩
  · rw [show Nat.blt (fstN (fun i => v == at1 q i) m) m = true from blt_lt h1, cond_true]
    exact exec_seq_x (x := x63.body.b.a) (y := x63.body.b.b) (exec_seq (x := x63.body.b.a.a) (y := .block 0 (.loop L63)) b63 (exec_block (e := .r) h2)) (by simp)
  · rw [show Nat.blt (fstN (fun i => v == at1 q i) m) m = false by rw [h1]; exact blt_self m, cond_false]
    exact exec_seq (x := x63.body.b.a) (y := x63.body.b.b) (exec_seq (x := x63.body.b.a.a) (y := .block 0 (.loop L63)) b63 (exec_block (e := .x 0) h2)) e63
def vIdx : List PA → TV := fun pas => match pas with | [.sl _ q m, .int v] => I (idxF q m v) | _ => anyT
noncomputable abbrev spIdx : Spec := genS [.sl 1, .int] (fun _ => true) vIdx fun _ => []
theorem ok63 : SpecOK PP (compC T) 63 spIdx := ok_gen o63 (by kernel_rfl) fun pas hf hc => match pas, hf with
  | [.sl _ q m, .int v], ⟨⟨rfl, hq, hm⟩, _, _⟩ => ⟨_, 0, .r, body63 hq hm, fun _ => rfl, by kernel_rfl, by kernel_rfl, by kernel_rfl⟩
end Go.Proofs.Yteekkjfjpoaihaa.Eng
namespace Go.Proofs.Yteekkjfjpoaihaa.Eng
open Go Go.Proofs
abbrev V2 (q q' : List Int) : List HO := [⟨true, .xvec .i64 1 q⟩, ⟨true, .xvec .i64 1 q'⟩]
def neqAt (q q' : List Int) (i : Nat) : Bool := at1 q i != at1 q' i
def intsE (q : List Int) (m : Nat) (q' : List Int) (m' : Nat) : Bool := decide (m = m') && !(Nat.blt (fstN (neqAt q q') m) m)
abbrev SI (q q' : List Int) (m m' i : Nat) : St := mkSt [(0, s1S 0 m), (1, s1S 1 m'), (5, iS i)] (V2 q q') 2 []
def L33 : XC := x33.body.b.b.a.b.i.i
theorem a33 {q q' : List Int} {m m' : Nat}  : Exec PP T none x33.nt 0 x33.body.a (startSt [.s (.sl 0 0 1 m), .s (.sl 1 0 1 m')] (V2 q q')) .n (mkSt [(0, s1S 0 m), (1, s1S 1 m')] (V2 q q') 2 []) := by
  refine exec_orun env0 false 60 [] [0, 1] (fun _ => rfl) (by kernel_rfl) (by kernel_rfl) (by kernel_rfl) (by kernel_rfl)
theorem b33r {q q' : List Int} {m m' : Nat} (h : ¬ m = m') : Exec PP T none x33.nt 0 x33.body.b.a (mkSt [(0, s1S 0 m), (1, s1S 1 m')] (V2 q q') 2 []) .r (RB 4 false) := by
  refine exec_orun env0 false 60 [true] [] (fun _ => rfl) (by kernel_rfl) (by kernel_rfl) (by kernel_rfl) ?_
  rw [(show obOf (orun g0 false 60 x33.body.b.a (mkSt [(0, s1S 0 m), (1, s1S 1 m')] (V2 q q') 2 []) [true]) = (Int.ofNat m != Int.ofNat m' && true) from by kernel_rfl)]
  all_goals (first | rfl | (simp; done) | (simp; omega) | (simp [rng64]; done) | (simp [rng64]; omega) | (simp [rng64_eq]; omega))
theorem b33 {q q' : List Int} {m m' : Nat} (h : m = m') : Exec PP T none x33.nt 0 x33.body.b.a (mkSt [(0, s1S 0 m), (1, s1S 1 m')] (V2 q q') 2 []) .n (mkSt [(0, s1S 0 m), (1, s1S 1 m')] (V2 q q') 2 []) := by
  refine exec_orun env0 false 60 [false] [0, 1] (fun _ => rfl) (by kernel_rfl) (by kernel_rfl) (by kernel_rfl) ?_
  rw [(show obOf (orun g0 false 60 x33.body.b.a (mkSt [(0, s1S 0 m), (1, s1S 1 m')] (V2 q q') 2 []) [false]) = (!Int.ofNat m != Int.ofNat m' && true) from by kernel_rfl)]
  all_goals (first | rfl | (simp; done) | (simp; omega) | (simp [rng64]; done) | (simp [rng64]; omega) | (simp [rng64_eq]; omega))
theorem i33 {q q' : List Int} {m m' : Nat}  : Exec PP T none x33.nt 0 x33.body.b.b.a.a (mkSt [(0, s1S 0 m), (1, s1S 1 m')] (V2 q q') 2 []) .n (SI q q' m m' 0) := by
  refine exec_orun env0 false 60 [] [0, 1] (fun _ => rfl) (by kernel_rfl) (by kernel_rfl) (by kernel_rfl) (by kernel_rfl)
theorem l33 {q q' : List Int} {m m' i : Nat} (hq : q.length = m * 1) (hq' : q'.length = m' * 1) (hm : m ≤ 1000000000) (hi : i < m) (hi' : i < m') (h : neqAt q q' i = false) : Exec PP T none x33.nt 0 L33 (SI q q' m m' i) .n (SI q q' m m' (i + 1)) := by
  refine exec_orun env0 false 60 [true, false] [0, 1] (fun _ => rfl) (by kernel_rfl) (by kernel_rfl) (by kernel_rfl) ?_
  rw [(show obOf (orun g0 false 60 L33 (SI q q' m m' i) [true, false]) = (decide (Int.ofNat i < Int.ofNat m) && true && (decide (0 ≤ Int.ofNat i) && decide (Int.ofNat i < Int.ofNat m) && (decide (0 + (0 + i) * 1 < q.length) && (decide (0 ≤ Int.ofNat i) && decide (Int.ofNat i < Int.ofNat m') && (decide (0 + (0 + i) * 1 < q'.length) && true))) && true && (!q.getD (0 + (0 + i) * 1) 0 != q'.getD (0 + (0 + i) * 1) 0 && true) && (rng64 (Int.ofNat i.succ) && true))) from by kernel_rfl)]
  unfold neqAt at1 at h
  rw [h]
  simp [rng64]
  omega
theorem h33 {q q' : List Int} {m m' i : Nat} (hq : q.length = m * 1) (hq' : q'.length = m' * 1) (hm : m ≤ 1000000000) (hi : i < m) (hi' : i < m') (h : neqAt q q' i = true) : Exec PP T none x33.nt 0 L33 (SI q q' m m' i) .r (RB 4 false) := by
  refine exec_orun env0 false 60 [true, true] [] (fun _ => rfl) (by kernel_rfl) (by kernel_rfl) (by kernel_rfl) ?_
  rw [(show obOf (orun g0 false 60 L33 (SI q q' m m' i) [true, true]) = (decide (Int.ofNat i < Int.ofNat m) && true && (decide (0 ≤ Int.ofNat i) && decide (Int.ofNat i < Int.ofNat m) && (decide (0 + (0 + i) * 1 < q.length) && (decide (0 ≤ Int.ofNat i) && decide (Int.ofNat i < Int.ofNat m') && (decide (0 + (0 + i) * 1 < q'.length) && true))) && true && (q.getD (0 + (0 + i) * 1) 0 != q'.getD (0 + (0 + i) * 1) 0 && true))) from by kernel_rfl)]
  unfold neqAt at1 at h
  rw [h]
  simp
  omega
theorem z33 {q q' : List Int} {m m' : Nat}  : Exec PP T none x33.nt 0 L33 (SI q q' m m' m) (.x 0) (SI q q' m m' m) := by
  refine exec_orun env0 false 60 [false] [0, 1] (fun _ => rfl) (by kernel_rfl) (by kernel_rfl) (by kernel_rfl) ?_
  rw [(show obOf (orun g0 false 60 L33 (SI q q' m m' m) [false]) = (!decide (Int.ofNat m < Int.ofNat m) && true) from by kernel_rfl)]
  all_goals (first | rfl | (simp; done) | (simp; omega) | (simp [rng64]; done) | (simp [rng64]; omega) | (simp [rng64_eq]; omega))
theorem e33 {q q' : List Int} {m m' : Nat}  : Exec PP T none x33.nt 0 x33.body.b.b.b (SI q q' m m' m) .r (RB 4 true) := by
  refine exec_orun env0 false 60 [] [] (fun _ => rfl) (by kernel_rfl) (by kernel_rfl) (by kernel_rfl) (by kernel_rfl)
theorem body33 {q q' : List Int} {m m' : Nat} (hq : q.length = m * 1) (hq' : q'.length = m' * 1) (hm : m ≤ 1000000000) : Exec PP T none x33.nt 0 x33.body (startSt [.s (.sl 0 0 1 m), .s (.sl 1 0 1 m')] (V2 q q')) .r (RB 4 (intsE q m q' m')) := by
  refine exec_seq (x := x33.body.a) (y := x33.body.b) a33 ?_
  unfold intsE
  by_cases h : m = m'
  · subst h
    rw [decide_eq_true rfl, Bool.true_and]
    refine exec_seq (x := x33.body.b.a) (y := x33.body.b.b) (b33 rfl) ?_
    rcases exec_loop_find (SI q q' m m) (neqAt q q') m (fun i hi h => l33 hq hq' hm hi hi h) (fun i hi h => h33 hq hq' hm hi hi h) (by simp) z33 (by simp) with ⟨h1, h2⟩ | ⟨h1, h2⟩
    · rw [blt_lt h1]
      exact exec_seq_x (x := x33.body.b.b.a) (y := x33.body.b.b.b) (exec_seq (x := x33.body.b.b.a.a) (y := .block 0 (.loop L33)) i33 (exec_block (e := .r) h2)) (by simp)
    · rw [show Nat.blt (fstN (neqAt q q') m) m = false by rw [h1]; exact blt_self m]
      exact exec_seq (x := x33.body.b.b.a) (y := x33.body.b.b.b) (exec_seq (x := x33.body.b.b.a.a) (y := .block 0 (.loop L33)) i33 (exec_block (e := .x 0) h2)) e33
  · rw [decide_eq_false h, Bool.false_and]
    exact exec_seq_x (x := x33.body.b.a) (y := x33.body.b.b) (b33r h) (by simp)
def vInts : List PA → TV := fun pas => match pas with | [.sl _ q m, .sl _ q' m'] => B (intsE q m q' m') | _ => anyT
noncomputable abbrev spInts : Spec := genS [.sl 1, .sl 1] (fun _ => true) vInts fun _ => []
theorem ok33 : SpecOK PP (compC T) 33 spInts := ok_gen o33 (by kernel_rfl) fun pas hf hc => match pas, hf with
  | [.sl _ q m, .sl _ q' m'], ⟨⟨rfl, hq, hm⟩, ⟨rfl, hq', hm'⟩, _⟩ => ⟨_, 0, .r, body33 hq hq' hm, fun _ => rfl, by kernel_rfl, by kernel_rfl, by kernel_rfl⟩
def L86 : XC := x86.body.b.a.b.i.i
abbrev S86 (q : List Int) (m : Nat) (a b : Int) (i : Nat) : St := mkSt [(0, s1S 0 m), (1, iS a), (2, iS b), (7, iS i)] (V1 q) 1 []
def befP (q : List Int) (a b : Int) (i : Nat) : Bool := at1 q i == a || at1 q i == b
def befF (q : List Int) (m : Nat) (a b : Int) : Bool := Nat.blt (fstN (befP q a b) m) m && at1 q (fstN (befP q a b) m) == a
theorem a86 {q : List Int} {m : Nat} {a b : Int}  : Exec PP T none x86.nt 0 x86.body.a (startSt [.s (.sl 0 0 1 m), .s (.int .i64 a), .s (.int .i64 b)] (V1 q)) .n (mkSt [(0, s1S 0 m), (1, iS a), (2, iS b)] (V1 q) 1 []) := by
  refine exec_orun env0 false 60 [] [0] (fun _ => rfl) (by kernel_rfl) (by kernel_rfl) (by kernel_rfl) (by kernel_rfl)
theorem b86 {q : List Int} {m : Nat} {a b : Int}  : Exec PP T none x86.nt 0 x86.body.b.a.a (mkSt [(0, s1S 0 m), (1, iS a), (2, iS b)] (V1 q) 1 []) .n (S86 q m a b 0) := by
  refine exec_orun env0 false 60 [] [0] (fun _ => rfl) (by kernel_rfl) (by kernel_rfl) (by kernel_rfl) (by kernel_rfl)
theorem l86 {q : List Int} {m : Nat} {a b : Int} {i : Nat} (hq : q.length = m * 1) (hm : m ≤ 1000000000) (hi : i < m) (h : befP q a b i = false) : Exec PP T none x86.nt 0 L86 (S86 q m a b i) .n (S86 q m a b (i + 1)) := by
  refine exec_orun env0 false 60 [true, false, false] [0] (fun _ => rfl) (by kernel_rfl) (by kernel_rfl) (by kernel_rfl) ?_
  rw [(show obOf (orun g0 false 60 L86 (S86 q m a b i) [true, false, false]) = (decide (Int.ofNat i < Int.ofNat m) && true && (decide (0 ≤ Int.ofNat i) && decide (Int.ofNat i < Int.ofNat m) && (decide (0 + (0 + i) * 1 < q.length) && true) && (!q.getD (0 + (0 + i) * 1) 0 == a && true) && (decide (0 ≤ Int.ofNat i) && decide (Int.ofNat i < Int.ofNat m) && (decide (0 + (0 + i) * 1 < q.length) && true) && (!q.getD (0 + (0 + i) * 1) 0 == b && true)) && (rng64 (Int.ofNat i.succ) && true))) from by kernel_rfl)]
  unfold befP at1 at h
  rw [Bool.or_eq_false_iff] at h
  rw [h.1, h.2]
  simp [rng64]
  omega
theorem h86a {q : List Int} {m : Nat} {a b : Int} {i : Nat} (hq : q.length = m * 1) (hi : i < m) (h : (at1 q i == a) = true) : Exec PP T none x86.nt 0 L86 (S86 q m a b i) .r (RB 6 true) := by
  refine exec_orun env0 false 60 [true, true] [] (fun _ => rfl) (by kernel_rfl) (by kernel_rfl) (by kernel_rfl) ?_
  rw [(show obOf (orun g0 false 60 L86 (S86 q m a b i) [true, true]) = (decide (Int.ofNat i < Int.ofNat m) && true && (decide (0 ≤ Int.ofNat i) && decide (Int.ofNat i < Int.ofNat m) && (decide (0 + (0 + i) * 1 < q.length) && true) && (q.getD (0 + (0 + i) * 1) 0 == a && true))) from by kernel_rfl)]
  unfold at1 at h
  rw [h]
  simp
  omega
theorem h86b {q : List Int} {m : Nat} {a b : Int} {i : Nat} (hq : q.length = m * 1) (hi : i < m) (h : (at1 q i == a) = false) (h' : (at1 q i == b) = true) : Exec PP T none x86.nt 0 L86 (S86 q m a b i) .r (RB 6 false) := by
  refine exec_orun env0 false 60 [true, false, true] [] (fun _ => rfl) (by kernel_rfl) (by kernel_rfl) (by kernel_rfl) ?_
  rw [(show obOf (orun g0 false 60 L86 (S86 q m a b i) [true, false, true]) = (decide (Int.ofNat i < Int.ofNat m) && true && (decide (0 ≤ Int.ofNat i) && decide (Int.ofNat i < Int.ofNat m) && (decide (0 + (0 + i) * 1 < q.length) && true) && (!q.getD (0 + (0 + i) * 1) 0 == a && true) && (decide (0 ≤ Int.ofNat i) && decide (Int.ofNat i < Int.ofNat m) && (decide (0 + (0 + i) * 1 < q.length) && true) && (q.getD (0 + (0 + i) * 1) 0 == b && true)))) from by kernel_rfl)]
  unfold at1 at h h'
  rw [h, h']
  simp
  omega
theorem z86 {q : List Int} {m : Nat} {a b : Int}  : Exec PP T none x86.nt 0 L86 (S86 q m a b m) (.x 0) (S86 q m a b m) := by
  refine exec_orun env0 false 60 [false] [0] (fun _ => rfl) (by kernel_rfl) (by kernel_rfl) (by kernel_rfl) ?_
  rw [(show obOf (orun g0 false 60 L86 (S86 q m a b m) [false]) = (!decide (Int.ofNat m < Int.ofNat m) && true) from by kernel_rfl)]
  all_goals (first | rfl | (simp; done) | (simp; omega) | (simp [rng64]; done) | (simp [rng64]; omega) | (simp [rng64_eq]; omega))
theorem e86 {q : List Int} {m : Nat} {a b : Int}  : Exec PP T none x86.nt 0 x86.body.b.b (S86 q m a b m) .r (RB 6 false) := by
  refine exec_orun env0 false 60 [] [] (fun _ => rfl) (by kernel_rfl) (by kernel_rfl) (by kernel_rfl) (by kernel_rfl)
theorem body86 {q : List Int} {m : Nat} {a b : Int} (hq : q.length = m * 1) (hm : m ≤ 1000000000) : Exec PP T none x86.nt 0 x86.body (startSt [.s (.sl 0 0 1 m), .s (.int .i64 a), .s (.int .i64 b)] (V1 q)) .r (RB 6 (befF q m a b)) := by
  refine exec_seq (x := x86.body.a) (y := x86.body.b) a86 ?_
  unfold befF
  rcases exec_loop_find (S86 q m a b) (befP q a b) m (eh := .r) (Sh := fun i => RB 6 (at1 q i == a)) (fun i hi h => l86 hq hm hi h) (fun i hi h => by
    cases h1 : at1 q i == a with
    | true => exact h86a hq hi h1
    | false =>
      unfold befP at h
      rw [h1, Bool.false_or] at h
      exact h86b hq hi h1 h) (by simp) z86 (by simp) with ⟨h1, h2⟩ | ⟨h1, h2⟩
  · rw [blt_lt h1, Bool.true_and]
    exact exec_seq_x (x := x86.body.b.a) (y := x86.body.b.b) (exec_seq (x := x86.body.b.a.a) (y := .block 0 (.loop L86)) b86 (exec_block (e := .r) h2)) (by simp)
  · rw [show Nat.blt (fstN (befP q a b) m) m = false by rw [h1]; exact blt_self m, Bool.false_and]
    exact exec_seq (x := x86.body.b.a) (y := x86.body.b.b) (exec_seq (x := x86.body.b.a.a) (y := .block 0 (.loop L86)) b86 (exec_block (e := .x 0) h2)) e86
def vBef : List PA → TV := fun pas => match pas with | [.sl _ q m, .int a, .int b] => B (befF q m a b) | _ => anyT
noncomputable abbrev spBef : Spec := genS [.sl 1, .int, .int] (fun _ => true) vBef fun _ => []
theorem ok86 : SpecOK PP (compC T) 86 spBef := ok_gen o86 (by kernel_rfl) fun pas hf hc => match pas, hf with
  | [.sl _ q m, .int a, .int b], ⟨⟨rfl, hq, hm⟩, _, _, _⟩ => ⟨_, 0, .r, body86 hq hm, fun _ => rfl, by kernel_rfl, by kernel_rfl, by kernel_rfl⟩
noncomputable def Lj83 : List (Nat × Spec) := [(78, pureS gHas)]
theorem Lj83_ok : SpecsL Lj83 := specsL_cons ok78 (pureS_fp gHas_fp) o78 (fun p hp => absurd hp (by simp))
noncomputable abbrev gj83 : Cal → Option Spec := specsΓ Lj83
theorem envj83 : EnvOK PP T gj83 := envL Lj83_ok
def joinF (q : List Int) (m : Nat) (a b : Int) : Bool := hasP q m (min a b) (max a b)
theorem body83 {q : List Int} {m : Nat} {a b : Int} (hq : q.length = m * 2) (hm : m ≤ 1000000000) : Exec PP T none x83.nt 0 x83.body (startSt [.s (.sl 0 0 2 m), .s (.int .i64 a), .s (.int .i64 b)] [⟨true, .xvec .i64 2 q⟩]) .r (RB 6 (hasP ((q.drop (0 * 2)).take (m * 2)) m (min a b) (max a b))) := by
  refine exec_orun envj83 false 60 [] [] (fun _ => rfl) (by kernel_rfl) (by kernel_rfl) (by kernel_rfl) ?_
  rw [(show obOf (orun gj83 false 60 x83.body (startSt [.s (.sl 0 0 2 m), .s (.int .i64 a), .s (.int .i64 b)] [⟨true, .xvec .i64 2 q⟩]) []) = (decide ((0 + m) * 2 ≤ q.length) && decide (m ≤ 1000000000) && true && true) from by kernel_rfl)]
  simp [bndL, hq]
  omega
theorem take_all2 {q : List Int} {m : Nat} (hq : q.length = m * 2) : (q.drop (0 * 2)).take (m * 2) = q := by simp [← hq]
theorem take_all1 {q : List Int} {m : Nat} (hq : q.length = m * 1) : (q.drop (0 * 1)).take (m * 1) = q := by simp [← hq]
def vJoin : List PA → TV := fun pas => match pas with | [.sl _ q m, .int a, .int b] => B (joinF q m a b) | _ => anyT
noncomputable abbrev spJoin : Spec := genS [.sl 2, .int, .int] (fun _ => true) vJoin fun _ => []
theorem ok83 : SpecOK PP (compC T) 83 spJoin := ok_gen o83 (by kernel_rfl) fun pas hf hc => match pas, hf with
  | [.sl _ q m, .int a, .int b], ⟨⟨rfl, hq, hm⟩, _, _, _⟩ => ⟨_, 0, .r, by have := body83 (a := a) (b := b) hq hm; rw [take_all2 hq] at this; exact this, fun _ => rfl, by kernel_rfl, by kernel_rfl, by kernel_rfl⟩
noncomputable def Lf108 : List (Nat × Spec) := [(83, spJoin)]
theorem Lf108_ok : SpecsL Lf108 := specsL_cons ok83 (genS_fp) o83 (fun p hp => absurd hp (by simp))
noncomputable abbrev gf108 : Cal → Option Spec := specsΓ Lf108
theorem envf108 : EnvOK PP T gf108 := envL Lf108_ok
def forF (q : List Int) (m : Nat) (a b c d : Int) : Bool := bif a == c && b == d then true else bif a == c then !(joinF q m b d) else b == d && !(joinF q m a c)
abbrev S108 (q : List Int) (m : Nat) (a b c d : Int) : St := mkSt [(0, lsS 0 m), (4, g1S 1), (5, g1S 2)] [⟨true, .xvec .i64 2 q⟩, ⟨false, .row 38 [.int .i64 a, .int .i64 b] 0 ff⟩, ⟨false, .row 38 [.int .i64 c, .int .i64 d] 0 ff⟩] 3 []
theorem a108 {q : List Int} {m : Nat} {a b c d : Int}  : Exec PP T none x108.nt 0 x108.body.a (startSt [.s (.sl 0 0 2 m), .pb [.int .i64 a, .int .i64 b] 0 ff, .pb [.int .i64 c, .int .i64 d] 0 ff] [⟨true, .xvec .i64 2 q⟩]) .n (S108 q m a b c d) := by
  refine exec_orun env0 false 60 [] [0, 1, 2] (fun _ => rfl) (by kernel_rfl) (by kernel_rfl) (by kernel_rfl) (by kernel_rfl)
theorem b108y {q : List Int} {m : Nat} {a b c d : Int} (h : (a == c && b == d) = true) : Exec PP T none x108.nt 0 x108.body.b.a (S108 q m a b c d) .r (RB 6 true) := by
  refine exec_orun env0 false 60 [true] [] (fun _ => rfl) (by kernel_rfl) (by kernel_rfl) (by kernel_rfl) ?_
  rw [(show obOf (orun g0 false 60 x108.body.b.a (S108 q m a b c d) [true]) = (false != ([a, b] == [c, d] && true) && true) from by kernel_rfl)]
  rw [beq_two, h]
  rfl
theorem b108n {q : List Int} {m : Nat} {a b c d : Int} (h : (a == c && b == d) = false) : Exec PP T none x108.nt 0 x108.body.b.a (S108 q m a b c d) .n (S108 q m a b c d) := by
  refine exec_orun env0 false 60 [false] [0, 1, 2] (fun _ => rfl) (by kernel_rfl) (by kernel_rfl) (by kernel_rfl) ?_
  rw [(show obOf (orun g0 false 60 x108.body.b.a (S108 q m a b c d) [false]) = (!false != ([a, b] == [c, d] && true) && true) from by kernel_rfl)]
  rw [beq_two, h]
  rfl
theorem cc108y {q : List Int} {m : Nat} {a b c d : Int} (hq : q.length = m * 2) (hm : m ≤ 1000000000) (h : (a == c) = true) : Exec PP T none x108.nt 0 x108.body.b.b.a (S108 q m a b c d) .r (RB 6 (!(joinF ((q.drop (0 * 2)).take (m * 2)) m b d))) := by
  refine exec_orun envf108 false 60 [true] [] (fun _ => rfl) (by kernel_rfl) (by kernel_rfl) (by kernel_rfl) ?_
  rw [(show obOf (orun gf108 false 60 x108.body.b.b.a (S108 q m a b c d) [true]) = (a == c && (decide ((0 + m) * 2 ≤ q.length) && decide (m ≤ 1000000000) && true && true && true && true)) from by kernel_rfl)]
  rw [h]
  simp [bndL, hq]
  omega
theorem cc108n {q : List Int} {m : Nat} {a b c d : Int} (h : (a == c) = false) : Exec PP T none x108.nt 0 x108.body.b.b.a (S108 q m a b c d) .n (S108 q m a b c d) := by
  refine exec_orun envf108 false 60 [false] [0, 1, 2] (fun _ => rfl) (by kernel_rfl) (by kernel_rfl) (by kernel_rfl) ?_
  rw [(show obOf (orun gf108 false 60 x108.body.b.b.a (S108 q m a b c d) [false]) = (!a == c && true) from by kernel_rfl)]
  rw [h]
  rfl
theorem d108y {q : List Int} {m : Nat} {a b c d : Int} (hq : q.length = m * 2) (hm : m ≤ 1000000000) : Exec PP T none x108.nt 0 x108.body.b.b.b (S108 q m a b c d) .r (RB 6 (bif b == d then !(joinF ((q.drop (0 * 2)).take (m * 2)) m a c) else false)) := by
  refine exec_orun envf108 false 60 [] [] (fun _ => rfl) (by kernel_rfl) (by kernel_rfl) (by kernel_rfl) ?_
  rw [(show obOf (orun gf108 false 60 x108.body.b.b.b (S108 q m a b c d) []) = ((!(b == d) == true || true) && ((!(b == d) == true || true) && ((!(b == d) == true || (b == d) == true && true && true) && ((!(b == d) == true || true) && ((!(b == d) == true || (b == d) == true && true && true) && ((!(b == d) == true || (b == d) == true && ((b == d) == true && ((b == d) == true && true)) && (decide ((0 + m) * 2 ≤ q.length) && decide (m ≤ 1000000000) && true && true)) && ((!(b == d) == true || (b == d) == true && true && true) && ((bif b == d then (b == d) == true else true) && true && true))))))) && true) from by kernel_rfl)]
  cases h : b == d <;> simp [bndL, hq] <;> omega
theorem body108 {q : List Int} {m : Nat} {a b c d : Int} (hq : q.length = m * 2) (hm : m ≤ 1000000000) : Exec PP T none x108.nt 0 x108.body (startSt [.s (.sl 0 0 2 m), .pb [.int .i64 a, .int .i64 b] 0 ff, .pb [.int .i64 c, .int .i64 d] 0 ff] [⟨true, .xvec .i64 2 q⟩]) .r (RB 6 (forF q m a b c d)) := by
  refine exec_seq (x := x108.body.a) (y := x108.body.b) a108 ?_
  unfold forF
  cases h : a == c && b == d with
  | true => exact exec_seq_x (x := x108.body.b.a) (y := x108.body.b.b) (b108y h) (by simp)
  | false =>
    refine exec_seq (x := x108.body.b.a) (y := x108.body.b.b) (b108n h) ?_
    rw [cond_false]
    cases h1 : a == c with
    | true =>
      have := cc108y (q := q) (m := m) (a := a) (b := b) (c := c) (d := d) hq hm h1
      rw [take_all2 hq] at this
      exact exec_seq_x (x := x108.body.b.b.a) (y := x108.body.b.b.b) this (by simp)
    | false =>
      refine exec_seq (x := x108.body.b.b.a) (y := x108.body.b.b.b) (cc108n h1) ?_
      have := d108y (q := q) (m := m) (a := a) (b := b) (c := c) (d := d) hq hm
      rw [take_all2 hq, show (bif b == d then !(joinF q m a c) else false) = (b == d && !(joinF q m a c)) by cases b == d <;> rfl] at this
      exact this
def vFor : List PA → TV := fun pas => match pas with | [.sl _ q m, .pr a b, .pr c d] => B (forF q m a b c d) | _ => anyT
noncomputable abbrev spFor : Spec := genS [.sl 2, .pr, .pr] (fun _ => true) vFor fun _ => []
theorem ok108 : SpecOK PP (compC T) 108 spFor := ok_gen o108 (by kernel_rfl) fun pas hf hc => match pas, hf with
  | [.sl _ q m, .pr a b, .pr c d], ⟨⟨rfl, hq, hm⟩, _, _, _⟩ => ⟨_, 0, .r, body108 hq hm, fun _ => rfl, by kernel_rfl, by kernel_rfl, by kernel_rfl⟩
noncomputable def Lc32 : List (Nat × Spec) := [(78, pureS gHas)]
theorem Lc32_ok : SpecsL Lc32 := specsL_cons ok78 (pureS_fp gHas_fp) o78 (fun p hp => absurd hp (by simp))
noncomputable abbrev gc32 : Cal → Option Spec := specsΓ Lc32
theorem envc32 : EnvOK PP T gc32 := envL Lc32_ok
def L32 : XC := x32.body.b.a.b.i.i
abbrev V32 (q c : List Int) : List HO := [⟨true, .xvec .i64 2 q⟩, ⟨true, .xvec .i64 1 c⟩]
abbrev S32 (n : Int) (q c : List Int) (m k i : Nat) : St := mkSt [(0, iS n), (1, lsS 0 m), (2, s1S 1 k), (7, iS i)] (V32 q c) 2 []
def chB (n : Int) (q : List Int) (m : Nat) (c : List Int) (i : Nat) : Bool := decide (at1 c i < 0) || (decide (at1 c i ≥ n) || (decide (0 < i) && !(hasP q m (at1 c (i - 1)) (at1 c i))))
theorem a32 {n : Int} {q c : List Int} {m k : Nat}  : Exec PP T none x32.nt 0 x32.body.a (startSt [.s (.int .i64 n), .s (.sl 0 0 2 m), .s (.sl 1 0 1 k)] (V32 q c)) .n (mkSt [(0, iS n), (1, lsS 0 m), (2, s1S 1 k)] (V32 q c) 2 []) := by
  refine exec_orun env0 false 60 [] [0, 1] (fun _ => rfl) (by kernel_rfl) (by kernel_rfl) (by kernel_rfl) (by kernel_rfl)
theorem b32 {n : Int} {q c : List Int} {m k : Nat}  : Exec PP T none x32.nt 0 x32.body.b.a.a (mkSt [(0, iS n), (1, lsS 0 m), (2, s1S 1 k)] (V32 q c) 2 []) .n (S32 n q c m k 0) := by
  refine exec_orun env0 false 60 [] [0, 1] (fun _ => rfl) (by kernel_rfl) (by kernel_rfl) (by kernel_rfl) (by kernel_rfl)
theorem z32 {n : Int} {q c : List Int} {m k : Nat}  : Exec PP T none x32.nt 0 L32 (S32 n q c m k k) (.x 0) (S32 n q c m k k) := by
  refine exec_orun envc32 false 60 [false] [0, 1] (fun _ => rfl) (by kernel_rfl) (by kernel_rfl) (by kernel_rfl) ?_
  rw [(show obOf (orun gc32 false 60 L32 (S32 n q c m k k) [false]) = (!decide (Int.ofNat k < Int.ofNat k) && true) from by kernel_rfl)]
  all_goals (first | rfl | (simp; done) | (simp; omega) | (simp [rng64]; done) | (simp [rng64]; omega) | (simp [rng64_eq]; omega))
theorem ee32 {n : Int} {q c : List Int} {m k : Nat}  : Exec PP T none x32.nt 0 x32.body.b.b (S32 n q c m k k) .r (RB 6 (decide (Int.ofNat k ≥ 1))) := by
  refine exec_orun env0 false 60 [] [] (fun _ => rfl) (by kernel_rfl) (by kernel_rfl) (by kernel_rfl) (by kernel_rfl)
theorem p32a {n : Int} {q c : List Int} {m k i : Nat} (hi : i < k) : Exec PP T none x32.nt 0 L32.a (S32 n q c m k i) .n (S32 n q c m k i) := by
  refine exec_orun env0 false 60 [true] [0, 1] (fun _ => rfl) (by kernel_rfl) (by kernel_rfl) (by kernel_rfl) ?_
  rw [(show obOf (orun g0 false 60 L32.a (S32 n q c m k i) [true]) = (decide (Int.ofNat i < Int.ofNat k) && true) from by kernel_rfl)]
  all_goals (first | rfl | (simp; done) | (simp; omega) | (simp [rng64]; done) | (simp [rng64]; omega) | (simp [rng64_eq]; omega))
theorem p32e {n : Int} {q c : List Int} {m k i : Nat} (hi : i < k) (hk : k ≤ 1000000000) : Exec PP T none x32.nt 0 L32.b.b (S32 n q c m k i) .n (S32 n q c m k (i + 1)) := by
  refine exec_orun env0 false 60 [] [0, 1] (fun _ => rfl) (by kernel_rfl) (by kernel_rfl) (by kernel_rfl) ?_
  rw [(show obOf (orun g0 false 60 L32.b.b (S32 n q c m k i) []) = (rng64 (Int.ofNat i.succ) && true) from by kernel_rfl)]
  all_goals (first | rfl | (simp; done) | (simp; omega) | (simp [rng64]; done) | (simp [rng64]; omega) | (simp [rng64_eq]; omega))
def chR (n : Int) (q : List Int) (m : Nat) (c : List Int) (i : Nat) : Bool := bif (bif decide (at1 c i < 0) then true else decide (at1 c i ≥ n)) then true else (bif decide (Int.ofNat i > 0) then !(hasP ((q.drop (0 * 2)).take (m * 2)) m (at1 c (Int.ofNat i - 1).toNat) (at1 c i)) else false)
theorem chR_eq {n : Int} {q : List Int} {m : Nat} {c : List Int} {i : Nat} (hq : q.length = m * 2) : chR n q m c i = chB n q m c i := by
  unfold chR chB
  rw [take_all2 hq, show (Int.ofNat i - 1).toNat = i - 1 by simp, show decide (Int.ofNat i > 0) = decide (0 < i) by simp]
  cases decide (at1 c i < 0) <;> cases decide (at1 c i ≥ n) <;> cases decide (0 < i) <;> rfl
abbrev Q32 (n : Int) (q c : List Int) (m k i : Nat) (b : Bool) : St := mkSt [(0, iS n), (1, lsS 0 m), (2, s1S 1 k), (7, iS i), (45, ⟨true, B b⟩)] (V32 q c) 2 []
theorem qq32 {n : Int} {q c : List Int} {m k i : Nat} (hq : q.length = m * 2) (hc : c.length = k * 1) (hm : m ≤ 1000000000) (hk : k ≤ 1000000000) (hi : i < k) : Exec PP T none x32.nt 0 L32.b.a.i.a (S32 n q c m k i) .n (Q32 n q c m k i (chR n q m c i)) := by
  refine exec_orun envc32 false 60 [] [0, 1] (fun _ => rfl) (by kernel_rfl) (by kernel_rfl) (by kernel_rfl) ?_
  rw [(show obOf (orun gc32 false 60 L32.b.a.i.a (S32 n q c m k i) []) = ((fun b0_ : Bool => (fun b1_ : Bool => decide (0 ≤ Int.ofNat i) && decide (Int.ofNat i < Int.ofNat k) && (decide (0 + (0 + i) * 1 < c.length) && ((!decide (c.getD (0 + (0 + i) * 1) 0 < 0) == false || true) && ((!decide (c.getD (0 + (0 + i) * 1) 0 < 0) == false || true) && ((!decide (c.getD (0 + (0 + i) * 1) 0 < 0) == false || decide (c.getD (0 + (0 + i) * 1) 0 < 0) == false && (decide (c.getD (0 + (0 + i) * 1) 0 < 0) == false && true) && (decide (0 ≤ Int.ofNat i) && decide (Int.ofNat i < Int.ofNat k))) && ((!decide (c.getD (0 + (0 + i) * 1) 0 < 0) == false || decide (c.getD (0 + (0 + i) * 1) 0 < 0) == false && true && decide (0 + (0 + i) * 1 < c.length)) && ((!decide (c.getD (0 + (0 + i) * 1) 0 < 0) == false || true) && ((!decide (c.getD (0 + (0 + i) * 1) 0 < 0) == false || decide (c.getD (0 + (0 + i) * 1) 0 < 0) == false && (decide (c.getD (0 + (0 + i) * 1) 0 < 0) == false && true) && true) && ((bif decide (c.getD (0 + (0 + i) * 1) 0 < 0) then true else decide (c.getD (0 + (0 + i) * 1) 0 < 0) == false) && true && ((!b0_ == false || true) && ((!b0_ == false || b0_ == false && true && true) && ((!b0_ == false || b0_ == false && true && true) && ((!b1_ || true) && ((!b1_ || true) && ((!b1_ || true) && ((!b1_ || b0_ == false && decide (Int.ofNat i > 0) == true && true && rng64 (Int.ofNat i - 1)) && ((!b1_ || b0_ == false && decide (Int.ofNat i > 0) == true && (b0_ == false && decide (Int.ofNat i > 0) == true && true) && (decide (0 ≤ Int.ofNat i - 1) && decide (Int.ofNat i - 1 < Int.ofNat k))) && ((!b1_ || b0_ == false && decide (Int.ofNat i > 0) == true && true && decide (0 + (0 + (Int.ofNat i - 1).toNat) * 1 < c.length)) && ((!b1_ || true) && ((!b1_ || true) && ((!b1_ || b0_ == false && decide (Int.ofNat i > 0) == true && (b0_ == false && decide (Int.ofNat i > 0) == true && true) && (decide (0 ≤ Int.ofNat i) && decide (Int.ofNat i < Int.ofNat k))) && ((!b1_ || b0_ == false && decide (Int.ofNat i > 0) == true && true && decide (0 + (0 + i) * 1 < c.length)) && ((!b1_ || b0_ == false && decide (Int.ofNat i > 0) == true && (b0_ == false && decide (Int.ofNat i > 0) == true && true) && true) && ((!b1_ || b0_ == false && decide (Int.ofNat i > 0) == true && (b0_ == false && decide (Int.ofNat i > 0) == true && true) && (decide ((0 + m) * 2 ≤ q.length) && decide (m ≤ 1000000000))) && ((!b1_ || b0_ == false && decide (Int.ofNat i > 0) == true && true && true) && ((!b0_ == false || (b0_ == false && bif decide (Int.ofNat i > 0) then b0_ == false && decide (Int.ofNat i > 0) == true else true) && true) && ((bif bif decide (c.getD (0 + (0 + i) * 1) 0 < 0) then true else decide (c.getD (0 + (0 + i) * 1) 0 ≥ n) then true else b0_ == false) && true && true)))))))))))))))))))))))))) && true) (b0_ == false && decide (Int.ofNat i > 0) == true)) (bif decide (c.getD (0 + (0 + i) * 1) 0 < 0) then true else decide (c.getD (0 + (0 + i) * 1) 0 ≥ n))) from by kernel_rfl)]
  dsimp only
  generalize decide (c.getD (0 + (0 + i) * 1) 0 < 0) = A
  generalize decide (c.getD (0 + (0 + i) * 1) 0 ≥ n) = D
  by_cases h0 : 0 < i
  · rw [show decide (Int.ofNat i > 0) = true by simp; omega]
    cases A <;> cases D <;> simp [bndL, hq, rng64_eq] <;> omega
  · rw [show decide (Int.ofNat i > 0) = false by simp; omega]
    cases A <;> cases D <;> simp [bndL, hq, rng64_eq] <;> omega
theorem t32 {n : Int} {q c : List Int} {m k i : Nat}  : Exec PP T none x32.nt 0 L32.b.a.i.b (Q32 n q c m k i true) .r (RB 6 false) := by
  refine exec_orun env0 false 60 [true] [] (fun _ => rfl) (by kernel_rfl) (by kernel_rfl) (by kernel_rfl) (by kernel_rfl)
theorem n32 {n : Int} {q c : List Int} {m k i : Nat}  : Exec PP T none x32.nt 0 L32.b.a.i.b (Q32 n q c m k i false) .n (S32 n q c m k i) := by
  refine exec_orun env0 false 60 [false] [0, 1] (fun _ => rfl) (by kernel_rfl) (by kernel_rfl) (by kernel_rfl) (by kernel_rfl)
def chainB (n : Int) (q : List Int) (m : Nat) (c : List Int) (k : Nat) : Bool := !(Nat.blt (fstN (chB n q m c) k) k) && decide (1 ≤ k)
theorem body32 {n : Int} {q c : List Int} {m k : Nat} (hq : q.length = m * 2) (hm : m ≤ 1000000000) (hc : c.length = k * 1) (hk : k ≤ 1000000000) : Exec PP T none x32.nt 0 x32.body (startSt [.s (.int .i64 n), .s (.sl 0 0 2 m), .s (.sl 1 0 1 k)] (V32 q c)) .r (RB 6 (chainB n q m c k)) := by
  refine exec_seq (x := x32.body.a) (y := x32.body.b) a32 ?_
  unfold chainB
  have q0 : ∀ i, i < k → Exec PP T none x32.nt 0 L32.b.a.i.a (S32 n q c m k i) .n (Q32 n q c m k i (chB n q m c i)) := fun i hi => by
    have := qq32 (n := n) (i := i) hq hc hm hk hi
    rw [chR_eq hq] at this
    exact this
  rcases exec_loop_find (S32 n q c m k) (chB n q m c) k (eh := .r) (Sh := fun _ => RB 6 false) (fun i hi h => by
    have := q0 i hi
    rw [h] at this
    exact exec_seq (x := L32.a) (y := L32.b) (p32a hi) (exec_seq (x := L32.b.a) (y := L32.b.b) (exec_block (id := 1) (x := L32.b.a.i) (e := .n) (exec_seq (x := L32.b.a.i.a) (y := L32.b.a.i.b) this n32)) (p32e hi hk))) (fun i hi h => by
    have := q0 i hi
    rw [h] at this
    exact exec_seq (x := L32.a) (y := L32.b) (p32a hi) (exec_seq_x (x := L32.b.a) (y := L32.b.b) (exec_block (id := 1) (x := L32.b.a.i) (e := .r) (exec_seq (x := L32.b.a.i.a) (y := L32.b.a.i.b) this t32)) (by simp [XE.unblock]))) (by simp) z32 (by simp) with ⟨h1, h2⟩ | ⟨h1, h2⟩
  · rw [blt_lt h1, Bool.not_true, Bool.false_and]
    exact exec_seq_x (x := x32.body.b.a) (y := x32.body.b.b) (exec_seq (x := x32.body.b.a.a) (y := .block 0 (.loop L32)) b32 (exec_block (e := .r) h2)) (by simp)
  · rw [show Nat.blt (fstN (chB n q m c) k) k = false by rw [h1]; exact blt_self k, Bool.not_false, Bool.true_and, show decide (1 ≤ k) = decide (Int.ofNat k ≥ 1) by simp; omega]
    exact exec_seq (x := x32.body.b.a) (y := x32.body.b.b) (exec_seq (x := x32.body.b.a.a) (y := .block 0 (.loop L32)) b32 (exec_block (e := .x 0) h2)) ee32
def vChn : List PA → TV := fun pas => match pas with | [.int n, .sl _ q m, .sl _ c k] => B (chainB n q m c k) | _ => anyT
noncomputable abbrev spChn : Spec := genS [.int, .sl 2, .sl 1] (fun _ => true) vChn fun _ => []
theorem ok32 : SpecOK PP (compC T) 32 spChn := ok_gen o32 (by kernel_rfl) fun pas hf hc => match pas, hf with
  | [.int n, .sl _ q m, .sl _ c k], ⟨_, ⟨rfl, hq, hm⟩, ⟨rfl, hc, hk⟩, _⟩ => ⟨_, 0, .r, body32 hq hm hc hk, fun _ => rfl, by kernel_rfl, by kernel_rfl, by kernel_rfl⟩
end Go.Proofs.Yteekkjfjpoaihaa.Eng
namespace Go.Proofs.Yteekkjfjpoaihaa.Eng
open Go Go.Proofs
theorem take2 {q : List Int} {m : Nat} (hq : q.length = m * 2) : q.take (m * 2) = q := by simp [← hq]
theorem take1 {q : List Int} {m : Nat} (hq : q.length = m * 1) : q.take (m * 1) = q := by rw [← hq]; simp
noncomputable def Le31 : List (Nat × Spec) := [(78, pureS gHas)]
theorem Le31_ok : SpecsL Le31 := specsL_cons ok78 (pureS_fp gHas_fp) o78 (fun p hp => absurd hp (by simp))
noncomputable abbrev ge31 : Cal → Option Spec := specsΓ Le31
theorem enve31 : EnvOK PP T ge31 := envL Le31_ok
def L31 : XC := x31.body.b.b.a.b.i.i
def M31 : XC := L31.b.a.i.b.i.i
def gg31 (q : List Int) (m : Nat) (a b : Nat) : Bool := hasP q m (Int.ofNat b) (Int.ofNat a)
abbrev A31 (n : Nat) (q : List Int) (m : Nat) : St := mkSt [(0, iS n), (1, lsS 0 m)] ([⟨true, .xvec .i64 2 q⟩]) 1 []
abbrev B31 (n : Nat) (q : List Int) (m : Nat) (k : Nat) (o : List Int) : St := mkSt [(5, lsS 1 k), (0, iS n), (1, lsS 0 m)] ([⟨true, .xvec .i64 2 q⟩, ⟨false, .ivec 38 .i64 2 o⟩]) 2 []
abbrev S31 (n : Nat) (q : List Int) (m : Nat) (k : Nat) (o : List Int) (a : Nat) : St := mkSt [(0, iS n), (1, lsS 0 m), (5, lsS 1 k), (6, iS a)] ([⟨true, .xvec .i64 2 q⟩, ⟨false, .ivec 38 .i64 2 o⟩]) 2 []
abbrev U31 (n : Nat) (q : List Int) (m : Nat) (k : Nat) (o : List Int) (a b : Nat) : St := mkSt [(0, iS n), (1, lsS 0 m), (5, lsS 1 k), (6, iS a), (7, iS b)] ([⟨true, .xvec .i64 2 q⟩, ⟨false, .ivec 38 .i64 2 o⟩]) 2 []
theorem a31 {n : Nat} {q : List Int} {m : Nat}  : Exec PP T none x31.nt 0 x31.body.a (startSt [.s (.int .i64 (Int.ofNat n)), .s (.sl 0 0 2 m)] [⟨true, .xvec .i64 2 q⟩]) .n (A31 n q m) := by
  refine exec_orun env0 false 60 [] [0] (fun _ => rfl) (by kernel_rfl) (by kernel_rfl) (by kernel_rfl) (by kernel_rfl)
theorem a31q {n : Nat} {q : List Int} {m : Nat}  : Exec PP T none x31.nt 0 x31.body.b.a (A31 n q m) .n (mkSt [(0, iS n), (1, lsS 0 m), (5, ⟨true, .av (.s .nils)⟩)] ([⟨true, .xvec .i64 2 q⟩]) 1 []) := by
  refine exec_orun env0 false 60 [] [0] (fun _ => rfl) (by kernel_rfl) (by kernel_rfl) (by kernel_rfl) (by kernel_rfl)
theorem a31' {n : Nat} {q : List Int} {m : Nat} : Exec PP T none x31.nt 0 x31.body.b.a (A31 n q m) .n (B31 n q m 0 []) := a31q.post (weak_nil 5 38 .i64 2 rfl rfl rfl)
theorem b31 {n : Nat} {q : List Int} {m : Nat} {k : Nat} {o : List Int}  : Exec PP T none x31.nt 0 x31.body.b.b.a.a (B31 n q m k o) .n (S31 n q m k o 0) := by
  refine exec_orun env0 false 60 [] [0, 1] (fun _ => rfl) (by kernel_rfl) (by kernel_rfl) (by kernel_rfl) (by kernel_rfl)
theorem l31a {n : Nat} {q : List Int} {m : Nat} {k : Nat} {o : List Int} {a : Nat} (ha : a < n) : Exec PP T none x31.nt 0 L31.a (S31 n q m k o a) .n (S31 n q m k o a) := by
  refine exec_orun env0 false 60 [true] [0, 1] (fun _ => rfl) (by kernel_rfl) (by kernel_rfl) (by kernel_rfl) ?_
  rw [(show obOf (orun g0 false 60 L31.a (S31 n q m k o a) [true]) = (decide (Int.ofNat a < Int.ofNat n) && true) from by kernel_rfl)]
  all_goals (first | rfl | (simp; done) | (simp; omega) | (simp [rng64]; done) | (simp [rng64]; omega) | (simp [rng64_eq]; omega))
theorem l31x {n : Nat} {q : List Int} {m : Nat} {k : Nat} {o : List Int}  : Exec PP T none x31.nt 0 L31.a (S31 n q m k o n) (.x 0) (S31 n q m k o n) := by
  refine exec_orun env0 false 60 [false] [0, 1] (fun _ => rfl) (by kernel_rfl) (by kernel_rfl) (by kernel_rfl) ?_
  rw [(show obOf (orun g0 false 60 L31.a (S31 n q m k o n) [false]) = (!decide (Int.ofNat n < Int.ofNat n) && true) from by kernel_rfl)]
  all_goals (first | rfl | (simp; done) | (simp; omega) | (simp [rng64]; done) | (simp [rng64]; omega) | (simp [rng64_eq]; omega))
theorem l31c {n : Nat} {q : List Int} {m : Nat} {k : Nat} {o : List Int} {a : Nat} (ha : a < 7) : Exec PP T none x31.nt 0 L31.b.a.i.a (S31 n q m k o a) .n (U31 n q m k o a 0) := by
  refine exec_orun env0 false 60 [] [0, 1] (fun _ => rfl) (by kernel_rfl) (by kernel_rfl) (by kernel_rfl) ?_
  rw [(show obOf (orun g0 false 60 L31.b.a.i.a (S31 n q m k o a) []) = (true) from by kernel_rfl)]
  all_goals (first | rfl | (simp; done) | (simp; omega) | (simp [rng64]; done) | (simp [rng64]; omega) | (simp [rng64_eq]; omega))
theorem l31e {n : Nat} {q : List Int} {m : Nat} {k : Nat} {o : List Int} {a b : Nat} (ha : a < 7) : Exec PP T none x31.nt 0 L31.b.b (U31 n q m k o a b) .n (S31 n q m k o (a + 1)) := by
  refine exec_orun env0 false 60 [] [0, 1] (fun _ => rfl) (by kernel_rfl) (by kernel_rfl) (by kernel_rfl) ?_
  rw [(show obOf (orun g0 false 60 L31.b.b (U31 n q m k o a b) []) = (rng64 (Int.ofNat a.succ) && true) from by kernel_rfl)]
  all_goals (first | rfl | (simp; done) | (simp; omega) | (simp [rng64]; done) | (simp [rng64]; omega) | (simp [rng64_eq]; omega))
theorem m31f {n : Nat} {q : List Int} {m : Nat} {k : Nat} {o : List Int} {a b : Nat} (hq : q.length = m * 2) (hm : m ≤ 1000000000) (hn : n ≤ 7) (ha : a < n) (hb : b < n) (h : hasP q m (Int.ofNat b) (Int.ofNat a) = false) : Exec PP T none x31.nt 0 M31 (U31 n q m k o a b) .n (U31 n q m k o a (b + 1)) := by
  refine exec_orun enve31 false 60 [true, false] [0, 1] (fun _ => rfl) (by kernel_rfl) (by kernel_rfl) (by kernel_rfl) ?_
  rw [(show obOf (orun ge31 false 60 M31 (U31 n q m k o a b) [true, false]) = (decide (Int.ofNat b < Int.ofNat n) && true && (decide ((0 + m) * 2 ≤ q.length) && decide (m ≤ 1000000000) && true && (!hasP (List.take (m * 2) q) m (Int.ofNat b) (Int.ofNat a) && true) && (rng64 (Int.ofNat b.succ) && true))) from by kernel_rfl)]
  simp only [take_all2 hq, take2 hq]
  revert h
  cases h1 : hasP q m (Int.ofNat b) (Int.ofNat a) <;> simp [bndL, rng64, hq] <;> omega
theorem m31t {n : Nat} {q : List Int} {m : Nat} {k : Nat} {o : List Int} {a b : Nat} (hq : q.length = m * 2) (hm : m ≤ 1000000000) (ho : o.length = k * 2) (hk : k ≤ 100) (hn : n ≤ 7) (ha : a < n) (hb : b < n) (h : hasP q m (Int.ofNat b) (Int.ofNat a) = true) : Exec PP T none x31.nt 0 M31 (U31 n q m k o a b) .n (U31 n q m (k + 1) (List.take (k * 2) o ++ [Int.ofNat a, Int.ofNat b]) a (b + 1)) := by
  refine exec_orun enve31 false 60 [true, true] [0, 11] (fun _ => rfl) (by kernel_rfl) (by kernel_rfl) (by kernel_rfl) ?_
  rw [(show obOf (orun ge31 false 60 M31 (U31 n q m k o a b) [true, true]) = (decide (Int.ofNat b < Int.ofNat n) && true && (decide ((0 + m) * 2 ≤ q.length) && decide (m ≤ 1000000000) && true && (hasP (List.take (m * 2) q) m (Int.ofNat b) (Int.ofNat a) && (decide (2 ≤ Nat.succ 1) && decide (k * 2 ≤ o.length) && decide (k.succ ≤ 1000000000) && true && true && true)) && (rng64 (Int.ofNat b.succ) && true))) from by kernel_rfl)]
  simp only [take_all2 hq, take2 hq]
  revert h
  cases h1 : hasP q m (Int.ofNat b) (Int.ofNat a) <;> simp [bndL, rng64, hq] <;> omega
theorem m31x {n : Nat} {q : List Int} {m : Nat} {k : Nat} {o : List Int} {a : Nat}  : Exec PP T none x31.nt 0 M31 (U31 n q m k o a n) (.x 2) (U31 n q m k o a n) := by
  refine exec_orun enve31 false 60 [false] [0, 1] (fun _ => rfl) (by kernel_rfl) (by kernel_rfl) (by kernel_rfl) ?_
  rw [(show obOf (orun ge31 false 60 M31 (U31 n q m k o a n) [false]) = (!decide (Int.ofNat n < Int.ofNat n) && true) from by kernel_rfl)]
  all_goals (first | rfl | (simp; done) | (simp; omega) | (simp [rng64]; done) | (simp [rng64]; omega) | (simp [rng64_eq]; omega))
theorem d31 {n : Nat} {q : List Int} {m : Nat} {k : Nat} {o : List Int} {a : Nat}  : Exec PP T none x31.nt 0 x31.body.b.b.b (S31 n q m k o a) .r (mkSt [(4, lsS 0 k)] [⟨false, .ivec 38 .i64 2 o⟩] 1 []) := by
  refine exec_orun env0 false 60 [] [1] (fun _ => rfl) (by kernel_rfl) (by kernel_rfl) (by kernel_rfl) (by kernel_rfl)
abbrev sU31 (n : Nat) (q : List Int) (m : Nat) (a b : Nat) : St := U31 n q m (midL (gg31 q m) n a b).length (flat (midL (gg31 q m) n a b)) a b
abbrev sS31 (n : Nat) (q : List Int) (m : Nat) (a : Nat) : St := S31 n q m (listL (gg31 q m) n a).length (flat (listL (gg31 q m) n a)) a
theorem m31 {n : Nat} {q : List Int} {m : Nat} {a b : Nat} (hq : q.length = m * 2) (hm : m ≤ 1000000000) (hn : n ≤ 7) (ha : a < n) (hb : b < n) : Exec PP T none x31.nt 0 M31 (sU31 n q m a b) .n (sU31 n q m a (b + 1)) := by
  cases h : gg31 q m a b with
  | false =>
    unfold sU31
    rw [midL_f h]
    unfold gg31 at h
    exact m31f hq hm hn ha hb h
  | true =>
    unfold sU31
    rw [midL_tl h, midL_tf h]
    unfold gg31 at h
    exact m31t hq hm (flat_len _) (midL_len (by omega) hn (by omega)) hn ha hb h
theorem l31 {n : Nat} {q : List Int} {m : Nat} {a : Nat} (hq : q.length = m * 2) (hm : m ≤ 1000000000) (hn : n ≤ 7) (ha : a < n) : Exec PP T none x31.nt 0 L31 (sS31 n q m a) .n (sS31 n q m (a + 1)) := by
  refine exec_seq (x := L31.a) (y := L31.b) (l31a ha) (exec_seq (x := L31.b.a) (y := L31.b.b) (exec_block (id := 1) (x := L31.b.a.i) (e := .n) (exec_seq (x := L31.b.a.i.a) (y := L31.b.a.i.b) (l31c (by omega)) (exec_block (id := 2) (x := .loop M31) (e := .x 2) (S1 := sU31 n q m a n) ?_))) ?_)
  · have := exec_loop_up (fun b => sU31 n q m a b) n (fun b hb => m31 hq hm hn ha hb) m31x (by simp) 0 (by omega)
    unfold sU31 at this
    rw [midL_0] at this
    exact this
  · unfold sU31 sS31
    rw [midL_end]
    exact l31e (by omega)
theorem body31 {n : Nat} {q : List Int} {m : Nat} (hq : q.length = m * 2) (hm : m ≤ 1000000000) (hn : n ≤ 7) : Exec PP T none x31.nt 0 x31.body (startSt [.s (.int .i64 (Int.ofNat n)), .s (.sl 0 0 2 m)] [⟨true, .xvec .i64 2 q⟩]) .r (mkSt [(4, lsS 0 (listL (gg31 q m) n n).length)] [⟨false, .ivec 38 .i64 2 (flat (listL (gg31 q m) n n))⟩] 1 []) := by
  refine exec_seq (x := x31.body.a) (y := x31.body.b) a31 (exec_seq (x := x31.body.b.a) (y := x31.body.b.b) a31' (exec_seq (x := x31.body.b.b.a) (y := x31.body.b.b.b) (exec_seq (x := x31.body.b.b.a.a) (y := .block 0 (.loop L31)) b31 (exec_block (e := .x 0) (S1 := sS31 n q m n) ?_)) d31))
  exact exec_loop_up (fun a => sS31 n q m a) n (fun a ha => l31 hq hm hn ha) (exec_seq_x (x := L31.a) (y := L31.b) l31x (by simp)) (by simp) 0 (by omega)
def cRTurned : List PA → Bool := fun pas => match pas with | [.int n, _] => decide (0 ≤ n) && decide (n ≤ 7) | _ => false
def lRTurned : List PA → List (Int × Int) := fun pas => match pas with | [.int n, .sl _ q m] => listL (gg31 q m) n.toNat n.toNat | _ => []
def vRTurned : List PA → TV := fun pas => .av (.s (.sl 0 0 2 (lRTurned pas).length))
def nRTurned : List PA → List HO := fun pas => [⟨false, .ivec 38 .i64 2 (flat (lRTurned pas))⟩]
noncomputable abbrev spRTurned : Spec := genS [.int, .sl 2] cRTurned vRTurned nRTurned
theorem ok31 : SpecOK PP (compC T) 31 spRTurned := ok_gen o31 (by kernel_rfl) fun pas hf hc => match pas, hf with
  | [.int n, .sl _ q m], ⟨_, ⟨rfl, hq, hm⟩, _⟩ => by
    unfold cRTurned at hc
    simp only [Bool.and_eq_true, decide_eq_true_eq] at hc
    obtain ⟨k, rfl⟩ : ∃ k : Nat, n = Int.ofNat k := ⟨n.toNat, by simp; omega⟩
    exact ⟨_, 1, .r, body31 hq hm (by have := hc.2; simp at this; omega), fun _ => rfl, by kernel_rfl, by kernel_rfl, by kernel_rfl⟩
noncomputable def Le34 : List (Nat × Spec) := [(83, spJoin)]
theorem Le34_ok : SpecsL Le34 := specsL_cons ok83 (genS_fp) o83 (fun p hp => absurd hp (by simp))
noncomputable abbrev ge34 : Cal → Option Spec := specsΓ Le34
theorem enve34 : EnvOK PP T ge34 := envL Le34_ok
def L34 : XC := x34.body.b.b.a.b.i.i
def M34 : XC := L34.b.a.i.b.i.i
def gg34 (q : List Int) (m : Nat) (a b : Nat) : Bool := decide (a < b) && !(joinF q m (Int.ofNat a) (Int.ofNat b))
abbrev A34 (n : Nat) (q : List Int) (m : Nat) : St := mkSt [(0, iS n), (1, lsS 0 m)] ([⟨true, .xvec .i64 2 q⟩]) 1 []
abbrev B34 (n : Nat) (q : List Int) (m : Nat) (k : Nat) (o : List Int) : St := mkSt [(5, lsS 1 k), (0, iS n), (1, lsS 0 m)] ([⟨true, .xvec .i64 2 q⟩, ⟨false, .ivec 38 .i64 2 o⟩]) 2 []
abbrev S34 (n : Nat) (q : List Int) (m : Nat) (k : Nat) (o : List Int) (a : Nat) : St := mkSt [(0, iS n), (1, lsS 0 m), (5, lsS 1 k), (6, iS a)] ([⟨true, .xvec .i64 2 q⟩, ⟨false, .ivec 38 .i64 2 o⟩]) 2 []
abbrev U34 (n : Nat) (q : List Int) (m : Nat) (k : Nat) (o : List Int) (a b : Nat) : St := mkSt [(0, iS n), (1, lsS 0 m), (5, lsS 1 k), (6, iS a), (7, iS b)] ([⟨true, .xvec .i64 2 q⟩, ⟨false, .ivec 38 .i64 2 o⟩]) 2 []
theorem a34 {n : Nat} {q : List Int} {m : Nat}  : Exec PP T none x34.nt 0 x34.body.a (startSt [.s (.int .i64 (Int.ofNat n)), .s (.sl 0 0 2 m)] [⟨true, .xvec .i64 2 q⟩]) .n (A34 n q m) := by
  refine exec_orun env0 false 60 [] [0] (fun _ => rfl) (by kernel_rfl) (by kernel_rfl) (by kernel_rfl) (by kernel_rfl)
theorem a34q {n : Nat} {q : List Int} {m : Nat}  : Exec PP T none x34.nt 0 x34.body.b.a (A34 n q m) .n (mkSt [(0, iS n), (1, lsS 0 m), (5, ⟨true, .av (.s .nils)⟩)] ([⟨true, .xvec .i64 2 q⟩]) 1 []) := by
  refine exec_orun env0 false 60 [] [0] (fun _ => rfl) (by kernel_rfl) (by kernel_rfl) (by kernel_rfl) (by kernel_rfl)
theorem a34' {n : Nat} {q : List Int} {m : Nat} : Exec PP T none x34.nt 0 x34.body.b.a (A34 n q m) .n (B34 n q m 0 []) := a34q.post (weak_nil 5 38 .i64 2 rfl rfl rfl)
theorem b34 {n : Nat} {q : List Int} {m : Nat} {k : Nat} {o : List Int}  : Exec PP T none x34.nt 0 x34.body.b.b.a.a (B34 n q m k o) .n (S34 n q m k o 0) := by
  refine exec_orun env0 false 60 [] [0, 1] (fun _ => rfl) (by kernel_rfl) (by kernel_rfl) (by kernel_rfl) (by kernel_rfl)
theorem l34a {n : Nat} {q : List Int} {m : Nat} {k : Nat} {o : List Int} {a : Nat} (ha : a < n) : Exec PP T none x34.nt 0 L34.a (S34 n q m k o a) .n (S34 n q m k o a) := by
  refine exec_orun env0 false 60 [true] [0, 1] (fun _ => rfl) (by kernel_rfl) (by kernel_rfl) (by kernel_rfl) ?_
  rw [(show obOf (orun g0 false 60 L34.a (S34 n q m k o a) [true]) = (decide (Int.ofNat a < Int.ofNat n) && true) from by kernel_rfl)]
  all_goals (first | rfl | (simp; done) | (simp; omega) | (simp [rng64]; done) | (simp [rng64]; omega) | (simp [rng64_eq]; omega))
theorem l34x {n : Nat} {q : List Int} {m : Nat} {k : Nat} {o : List Int}  : Exec PP T none x34.nt 0 L34.a (S34 n q m k o n) (.x 0) (S34 n q m k o n) := by
  refine exec_orun env0 false 60 [false] [0, 1] (fun _ => rfl) (by kernel_rfl) (by kernel_rfl) (by kernel_rfl) ?_
  rw [(show obOf (orun g0 false 60 L34.a (S34 n q m k o n) [false]) = (!decide (Int.ofNat n < Int.ofNat n) && true) from by kernel_rfl)]
  all_goals (first | rfl | (simp; done) | (simp; omega) | (simp [rng64]; done) | (simp [rng64]; omega) | (simp [rng64_eq]; omega))
theorem l34c {n : Nat} {q : List Int} {m : Nat} {k : Nat} {o : List Int} {a : Nat} (ha : a < 7) : Exec PP T none x34.nt 0 L34.b.a.i.a (S34 n q m k o a) .n (U34 n q m k o a (a + 1)) := by
  refine exec_orun env0 false 60 [] [0, 1] (fun _ => rfl) (by kernel_rfl) (by kernel_rfl) (by kernel_rfl) ?_
  rw [(show obOf (orun g0 false 60 L34.b.a.i.a (S34 n q m k o a) []) = (rng64 (Int.ofNat a.succ) && true) from by kernel_rfl)]
  all_goals (first | rfl | (simp; done) | (simp; omega) | (simp [rng64]; done) | (simp [rng64]; omega) | (simp [rng64_eq]; omega))
theorem l34e {n : Nat} {q : List Int} {m : Nat} {k : Nat} {o : List Int} {a b : Nat} (ha : a < 7) : Exec PP T none x34.nt 0 L34.b.b (U34 n q m k o a b) .n (S34 n q m k o (a + 1)) := by
  refine exec_orun env0 false 60 [] [0, 1] (fun _ => rfl) (by kernel_rfl) (by kernel_rfl) (by kernel_rfl) ?_
  rw [(show obOf (orun g0 false 60 L34.b.b (U34 n q m k o a b) []) = (rng64 (Int.ofNat a.succ) && true) from by kernel_rfl)]
  all_goals (first | rfl | (simp; done) | (simp; omega) | (simp [rng64]; done) | (simp [rng64]; omega) | (simp [rng64_eq]; omega))
theorem m34f {n : Nat} {q : List Int} {m : Nat} {k : Nat} {o : List Int} {a b : Nat} (hq : q.length = m * 2) (hm : m ≤ 1000000000) (hn : n ≤ 7) (ha : a < n) (hb : b < n) (h : (!(joinF q m (Int.ofNat a) (Int.ofNat b))) = false) : Exec PP T none x34.nt 0 M34 (U34 n q m k o a b) .n (U34 n q m k o a (b + 1)) := by
  refine exec_orun enve34 false 60 [true, false] [0, 1] (fun _ => rfl) (by kernel_rfl) (by kernel_rfl) (by kernel_rfl) ?_
  rw [(show obOf (orun ge34 false 60 M34 (U34 n q m k o a b) [true, false]) = (decide (Int.ofNat b < Int.ofNat n) && true && (decide ((0 + m) * 2 ≤ q.length) && decide (m ≤ 1000000000) && true && true && true && (!!joinF (List.take (m * 2) q) m (Int.ofNat a) (Int.ofNat b) && true) && (rng64 (Int.ofNat b.succ) && true))) from by kernel_rfl)]
  simp only [take_all2 hq, take2 hq]
  revert h
  cases h1 : joinF q m (Int.ofNat a) (Int.ofNat b) <;> simp [bndL, rng64, hq] <;> omega
theorem m34t {n : Nat} {q : List Int} {m : Nat} {k : Nat} {o : List Int} {a b : Nat} (hq : q.length = m * 2) (hm : m ≤ 1000000000) (ho : o.length = k * 2) (hk : k ≤ 100) (hn : n ≤ 7) (ha : a < n) (hb : b < n) (h : (!(joinF q m (Int.ofNat a) (Int.ofNat b))) = true) : Exec PP T none x34.nt 0 M34 (U34 n q m k o a b) .n (U34 n q m (k + 1) (List.take (k * 2) o ++ [Int.ofNat a, Int.ofNat b]) a (b + 1)) := by
  refine exec_orun enve34 false 60 [true, true] [0, 11] (fun _ => rfl) (by kernel_rfl) (by kernel_rfl) (by kernel_rfl) ?_
  rw [(show obOf (orun ge34 false 60 M34 (U34 n q m k o a b) [true, true]) = (decide (Int.ofNat b < Int.ofNat n) && true && (decide ((0 + m) * 2 ≤ q.length) && decide (m ≤ 1000000000) && true && true && true && (!joinF (List.take (m * 2) q) m (Int.ofNat a) (Int.ofNat b) && (decide (2 ≤ Nat.succ 1) && decide (k * 2 ≤ o.length) && decide (k.succ ≤ 1000000000) && true && true && true)) && (rng64 (Int.ofNat b.succ) && true))) from by kernel_rfl)]
  simp only [take_all2 hq, take2 hq]
  revert h
  cases h1 : joinF q m (Int.ofNat a) (Int.ofNat b) <;> simp [bndL, rng64, hq] <;> omega
theorem m34x {n : Nat} {q : List Int} {m : Nat} {k : Nat} {o : List Int} {a : Nat}  : Exec PP T none x34.nt 0 M34 (U34 n q m k o a n) (.x 2) (U34 n q m k o a n) := by
  refine exec_orun enve34 false 60 [false] [0, 1] (fun _ => rfl) (by kernel_rfl) (by kernel_rfl) (by kernel_rfl) ?_
  rw [(show obOf (orun ge34 false 60 M34 (U34 n q m k o a n) [false]) = (!decide (Int.ofNat n < Int.ofNat n) && true) from by kernel_rfl)]
  all_goals (first | rfl | (simp; done) | (simp; omega) | (simp [rng64]; done) | (simp [rng64]; omega) | (simp [rng64_eq]; omega))
theorem d34 {n : Nat} {q : List Int} {m : Nat} {k : Nat} {o : List Int} {a : Nat}  : Exec PP T none x34.nt 0 x34.body.b.b.b (S34 n q m k o a) .r (mkSt [(4, lsS 0 k)] [⟨false, .ivec 38 .i64 2 o⟩] 1 []) := by
  refine exec_orun env0 false 60 [] [1] (fun _ => rfl) (by kernel_rfl) (by kernel_rfl) (by kernel_rfl) (by kernel_rfl)
abbrev sU34 (n : Nat) (q : List Int) (m : Nat) (a b : Nat) : St := U34 n q m (midL (gg34 q m) n a b).length (flat (midL (gg34 q m) n a b)) a b
abbrev sS34 (n : Nat) (q : List Int) (m : Nat) (a : Nat) : St := S34 n q m (listL (gg34 q m) n a).length (flat (listL (gg34 q m) n a)) a
theorem m34 {n : Nat} {q : List Int} {m : Nat} {a b : Nat} (hq : q.length = m * 2) (hm : m ≤ 1000000000) (hn : n ≤ 7) (ha : a < n) (hb : b < n) (hlo : a < b) : Exec PP T none x34.nt 0 M34 (sU34 n q m a b) .n (sU34 n q m a (b + 1)) := by
  cases h : gg34 q m a b with
  | false =>
    unfold sU34
    rw [midL_f h]
    unfold gg34 at h
    rw [decide_eq_true hlo, Bool.true_and] at h
    exact m34f hq hm hn ha hb h
  | true =>
    unfold sU34
    rw [midL_tl h, midL_tf h]
    unfold gg34 at h
    rw [decide_eq_true hlo, Bool.true_and] at h
    exact m34t hq hm (flat_len _) (midL_len (by omega) hn (by omega)) hn ha hb h
theorem l34 {n : Nat} {q : List Int} {m : Nat} {a : Nat} (hq : q.length = m * 2) (hm : m ≤ 1000000000) (hn : n ≤ 7) (ha : a < n) : Exec PP T none x34.nt 0 L34 (sS34 n q m a) .n (sS34 n q m (a + 1)) := by
  refine exec_seq (x := L34.a) (y := L34.b) (l34a ha) (exec_seq (x := L34.b.a) (y := L34.b.b) (exec_block (id := 1) (x := L34.b.a.i) (e := .n) (exec_seq (x := L34.b.a.i.a) (y := L34.b.a.i.b) (l34c (by omega)) (exec_block (id := 2) (x := .loop M34) (e := .x 2) (S1 := sU34 n q m a n) ?_))) ?_)
  · have := exec_loop_from (fun b => sU34 n q m a b) (a + 1) n (fun b hlo hb => m34 hq hm hn ha hb (by omega)) m34x (by simp) (by omega)
    unfold sU34 at this
    rw [midL_lo (b := a + 1) fun j hj => (by unfold gg34; rw [decide_eq_false (by omega), Bool.false_and])] at this
    exact this
  · unfold sU34 sS34
    rw [midL_end]
    exact l34e (by omega)
theorem body34 {n : Nat} {q : List Int} {m : Nat} (hq : q.length = m * 2) (hm : m ≤ 1000000000) (hn : n ≤ 7) : Exec PP T none x34.nt 0 x34.body (startSt [.s (.int .i64 (Int.ofNat n)), .s (.sl 0 0 2 m)] [⟨true, .xvec .i64 2 q⟩]) .r (mkSt [(4, lsS 0 (listL (gg34 q m) n n).length)] [⟨false, .ivec 38 .i64 2 (flat (listL (gg34 q m) n n))⟩] 1 []) := by
  refine exec_seq (x := x34.body.a) (y := x34.body.b) a34 (exec_seq (x := x34.body.b.a) (y := x34.body.b.b) a34' (exec_seq (x := x34.body.b.b.a) (y := x34.body.b.b.b) (exec_seq (x := x34.body.b.b.a.a) (y := .block 0 (.loop L34)) b34 (exec_block (e := .x 0) (S1 := sS34 n q m n) ?_)) d34))
  exact exec_loop_up (fun a => sS34 n q m a) n (fun a ha => l34 hq hm hn ha) (exec_seq_x (x := L34.a) (y := L34.b) l34x (by simp)) (by simp) 0 (by omega)
def cROthers : List PA → Bool := fun pas => match pas with | [.int n, _] => decide (0 ≤ n) && decide (n ≤ 7) | _ => false
def lROthers : List PA → List (Int × Int) := fun pas => match pas with | [.int n, .sl _ q m] => listL (gg34 q m) n.toNat n.toNat | _ => []
def vROthers : List PA → TV := fun pas => .av (.s (.sl 0 0 2 (lROthers pas).length))
def nROthers : List PA → List HO := fun pas => [⟨false, .ivec 38 .i64 2 (flat (lROthers pas))⟩]
noncomputable abbrev spROthers : Spec := genS [.int, .sl 2] cROthers vROthers nROthers
theorem ok34 : SpecOK PP (compC T) 34 spROthers := ok_gen o34 (by kernel_rfl) fun pas hf hc => match pas, hf with
  | [.int n, .sl _ q m], ⟨_, ⟨rfl, hq, hm⟩, _⟩ => by
    unfold cROthers at hc
    simp only [Bool.and_eq_true, decide_eq_true_eq] at hc
    obtain ⟨k, rfl⟩ : ∃ k : Nat, n = Int.ofNat k := ⟨n.toNat, by simp; omega⟩
    exact ⟨_, 1, .r, body34 hq hm (by have := hc.2; simp at this; omega), fun _ => rfl, by kernel_rfl, by kernel_rfl, by kernel_rfl⟩
noncomputable def Le35 : List (Nat × Spec) := [(78, pureS gHas)]
theorem Le35_ok : SpecsL Le35 := specsL_cons ok78 (pureS_fp gHas_fp) o78 (fun p hp => absurd hp (by simp))
noncomputable abbrev ge35 : Cal → Option Spec := specsΓ Le35
theorem enve35 : EnvOK PP T ge35 := envL Le35_ok
def L35 : XC := x35.body.b.b.a.b.i.i
def M35 : XC := L35.b.a.i.b.i.i
def gg35 (q : List Int) (m : Nat) (a b : Nat) : Bool := decide (a < b) && (hasP q m (Int.ofNat a) (Int.ofNat b) || hasP q m (Int.ofNat b) (Int.ofNat a))
abbrev A35 (n : Nat) (q : List Int) (m : Nat) : St := mkSt [(0, iS n), (1, lsS 0 m)] ([⟨true, .xvec .i64 2 q⟩]) 1 []
abbrev B35 (n : Nat) (q : List Int) (m : Nat) (k : Nat) (o : List Int) : St := mkSt [(5, lsS 1 k), (0, iS n), (1, lsS 0 m)] ([⟨true, .xvec .i64 2 q⟩, ⟨false, .ivec 38 .i64 2 o⟩]) 2 []
abbrev S35 (n : Nat) (q : List Int) (m : Nat) (k : Nat) (o : List Int) (a : Nat) : St := mkSt [(0, iS n), (1, lsS 0 m), (5, lsS 1 k), (6, iS a)] ([⟨true, .xvec .i64 2 q⟩, ⟨false, .ivec 38 .i64 2 o⟩]) 2 []
abbrev U35 (n : Nat) (q : List Int) (m : Nat) (k : Nat) (o : List Int) (a b : Nat) : St := mkSt [(0, iS n), (1, lsS 0 m), (5, lsS 1 k), (6, iS a), (7, iS b)] ([⟨true, .xvec .i64 2 q⟩, ⟨false, .ivec 38 .i64 2 o⟩]) 2 []
theorem a35 {n : Nat} {q : List Int} {m : Nat}  : Exec PP T none x35.nt 0 x35.body.a (startSt [.s (.int .i64 (Int.ofNat n)), .s (.sl 0 0 2 m)] [⟨true, .xvec .i64 2 q⟩]) .n (A35 n q m) := by
  refine exec_orun env0 false 60 [] [0] (fun _ => rfl) (by kernel_rfl) (by kernel_rfl) (by kernel_rfl) (by kernel_rfl)
theorem a35q {n : Nat} {q : List Int} {m : Nat}  : Exec PP T none x35.nt 0 x35.body.b.a (A35 n q m) .n (mkSt [(0, iS n), (1, lsS 0 m), (5, ⟨true, .av (.s .nils)⟩)] ([⟨true, .xvec .i64 2 q⟩]) 1 []) := by
  refine exec_orun env0 false 60 [] [0] (fun _ => rfl) (by kernel_rfl) (by kernel_rfl) (by kernel_rfl) (by kernel_rfl)
theorem a35' {n : Nat} {q : List Int} {m : Nat} : Exec PP T none x35.nt 0 x35.body.b.a (A35 n q m) .n (B35 n q m 0 []) := a35q.post (weak_nil 5 38 .i64 2 rfl rfl rfl)
theorem b35 {n : Nat} {q : List Int} {m : Nat} {k : Nat} {o : List Int}  : Exec PP T none x35.nt 0 x35.body.b.b.a.a (B35 n q m k o) .n (S35 n q m k o 0) := by
  refine exec_orun env0 false 60 [] [0, 1] (fun _ => rfl) (by kernel_rfl) (by kernel_rfl) (by kernel_rfl) (by kernel_rfl)
theorem l35a {n : Nat} {q : List Int} {m : Nat} {k : Nat} {o : List Int} {a : Nat} (ha : a < n) : Exec PP T none x35.nt 0 L35.a (S35 n q m k o a) .n (S35 n q m k o a) := by
  refine exec_orun env0 false 60 [true] [0, 1] (fun _ => rfl) (by kernel_rfl) (by kernel_rfl) (by kernel_rfl) ?_
  rw [(show obOf (orun g0 false 60 L35.a (S35 n q m k o a) [true]) = (decide (Int.ofNat a < Int.ofNat n) && true) from by kernel_rfl)]
  all_goals (first | rfl | (simp; done) | (simp; omega) | (simp [rng64]; done) | (simp [rng64]; omega) | (simp [rng64_eq]; omega))
theorem l35x {n : Nat} {q : List Int} {m : Nat} {k : Nat} {o : List Int}  : Exec PP T none x35.nt 0 L35.a (S35 n q m k o n) (.x 0) (S35 n q m k o n) := by
  refine exec_orun env0 false 60 [false] [0, 1] (fun _ => rfl) (by kernel_rfl) (by kernel_rfl) (by kernel_rfl) ?_
  rw [(show obOf (orun g0 false 60 L35.a (S35 n q m k o n) [false]) = (!decide (Int.ofNat n < Int.ofNat n) && true) from by kernel_rfl)]
  all_goals (first | rfl | (simp; done) | (simp; omega) | (simp [rng64]; done) | (simp [rng64]; omega) | (simp [rng64_eq]; omega))
theorem l35c {n : Nat} {q : List Int} {m : Nat} {k : Nat} {o : List Int} {a : Nat} (ha : a < 7) : Exec PP T none x35.nt 0 L35.b.a.i.a (S35 n q m k o a) .n (U35 n q m k o a (a + 1)) := by
  refine exec_orun env0 false 60 [] [0, 1] (fun _ => rfl) (by kernel_rfl) (by kernel_rfl) (by kernel_rfl) ?_
  rw [(show obOf (orun g0 false 60 L35.b.a.i.a (S35 n q m k o a) []) = (rng64 (Int.ofNat a.succ) && true) from by kernel_rfl)]
  all_goals (first | rfl | (simp; done) | (simp; omega) | (simp [rng64]; done) | (simp [rng64]; omega) | (simp [rng64_eq]; omega))
theorem l35e {n : Nat} {q : List Int} {m : Nat} {k : Nat} {o : List Int} {a b : Nat} (ha : a < 7) : Exec PP T none x35.nt 0 L35.b.b (U35 n q m k o a b) .n (S35 n q m k o (a + 1)) := by
  refine exec_orun env0 false 60 [] [0, 1] (fun _ => rfl) (by kernel_rfl) (by kernel_rfl) (by kernel_rfl) ?_
  rw [(show obOf (orun g0 false 60 L35.b.b (U35 n q m k o a b) []) = (rng64 (Int.ofNat a.succ) && true) from by kernel_rfl)]
  all_goals (first | rfl | (simp; done) | (simp; omega) | (simp [rng64]; done) | (simp [rng64]; omega) | (simp [rng64_eq]; omega))
theorem m35f {n : Nat} {q : List Int} {m : Nat} {k : Nat} {o : List Int} {a b : Nat} (hq : q.length = m * 2) (hm : m ≤ 1000000000) (hn : n ≤ 7) (ha : a < n) (hb : b < n) (h : (hasP q m (Int.ofNat a) (Int.ofNat b) || hasP q m (Int.ofNat b) (Int.ofNat a)) = false) : Exec PP T none x35.nt 0 M35 (U35 n q m k o a b) .n (U35 n q m k o a (b + 1)) := by
  refine exec_orun enve35 false 60 [true, false] [0, 1] (fun _ => rfl) (by kernel_rfl) (by kernel_rfl) (by kernel_rfl) ?_
  rw [(show obOf (orun ge35 false 60 M35 (U35 n q m k o a b) [true, false]) = (decide (Int.ofNat b < Int.ofNat n) && true && (decide ((0 + m) * 2 ≤ q.length) && decide (m ≤ 1000000000) && ((!hasP (List.take (m * 2) q) m (Int.ofNat a) (Int.ofNat b) == false || true) && ((!hasP (List.take (m * 2) q) m (Int.ofNat a) (Int.ofNat b) == false || true) && ((!hasP (List.take (m * 2) q) m (Int.ofNat a) (Int.ofNat b) == false || true) && ((!hasP (List.take (m * 2) q) m (Int.ofNat a) (Int.ofNat b) == false || hasP (List.take (m * 2) q) m (Int.ofNat a) (Int.ofNat b) == false && (hasP (List.take (m * 2) q) m (Int.ofNat a) (Int.ofNat b) == false && true) && true) && ((!hasP (List.take (m * 2) q) m (Int.ofNat a) (Int.ofNat b) == false || hasP (List.take (m * 2) q) m (Int.ofNat a) (Int.ofNat b) == false && (hasP (List.take (m * 2) q) m (Int.ofNat a) (Int.ofNat b) == false && true) && (decide ((0 + m) * 2 ≤ q.length) && decide (m ≤ 1000000000))) && ((bif hasP (List.take (m * 2) q) m (Int.ofNat a) (Int.ofNat b) then true else hasP (List.take (m * 2) q) m (Int.ofNat a) (Int.ofNat b) == false) && true && true)))))) && ((!bif hasP (List.take (m * 2) q) m (Int.ofNat a) (Int.ofNat b) then true else hasP (List.take (m * 2) q) m (Int.ofNat b) (Int.ofNat a)) && true) && (rng64 (Int.ofNat b.succ) && true))) from by kernel_rfl)]
  simp only [take_all2 hq, take2 hq]
  revert h
  cases h1 : hasP q m (Int.ofNat a) (Int.ofNat b) <;> cases h2 : hasP q m (Int.ofNat b) (Int.ofNat a) <;> simp [bndL, rng64, hq] <;> omega
theorem m35t {n : Nat} {q : List Int} {m : Nat} {k : Nat} {o : List Int} {a b : Nat} (hq : q.length = m * 2) (hm : m ≤ 1000000000) (ho : o.length = k * 2) (hk : k ≤ 100) (hn : n ≤ 7) (ha : a < n) (hb : b < n) (h : (hasP q m (Int.ofNat a) (Int.ofNat b) || hasP q m (Int.ofNat b) (Int.ofNat a)) = true) : Exec PP T none x35.nt 0 M35 (U35 n q m k o a b) .n (U35 n q m (k + 1) (List.take (k * 2) o ++ [Int.ofNat a, Int.ofNat b]) a (b + 1)) := by
  refine exec_orun enve35 false 60 [true, true] [0, 19] (fun _ => rfl) (by kernel_rfl) (by kernel_rfl) (by kernel_rfl) ?_
  rw [(show obOf (orun ge35 false 60 M35 (U35 n q m k o a b) [true, true]) = (decide (Int.ofNat b < Int.ofNat n) && true && (decide ((0 + m) * 2 ≤ q.length) && decide (m ≤ 1000000000) && ((!hasP (List.take (m * 2) q) m (Int.ofNat a) (Int.ofNat b) == false || true) && ((!hasP (List.take (m * 2) q) m (Int.ofNat a) (Int.ofNat b) == false || true) && ((!hasP (List.take (m * 2) q) m (Int.ofNat a) (Int.ofNat b) == false || true) && ((!hasP (List.take (m * 2) q) m (Int.ofNat a) (Int.ofNat b) == false || hasP (List.take (m * 2) q) m (Int.ofNat a) (Int.ofNat b) == false && (hasP (List.take (m * 2) q) m (Int.ofNat a) (Int.ofNat b) == false && true) && true) && ((!hasP (List.take (m * 2) q) m (Int.ofNat a) (Int.ofNat b) == false || hasP (List.take (m * 2) q) m (Int.ofNat a) (Int.ofNat b) == false && (hasP (List.take (m * 2) q) m (Int.ofNat a) (Int.ofNat b) == false && true) && (decide ((0 + m) * 2 ≤ q.length) && decide (m ≤ 1000000000))) && ((bif hasP (List.take (m * 2) q) m (Int.ofNat a) (Int.ofNat b) then true else hasP (List.take (m * 2) q) m (Int.ofNat a) (Int.ofNat b) == false) && true && true)))))) && ((bif hasP (List.take (m * 2) q) m (Int.ofNat a) (Int.ofNat b) then true else hasP (List.take (m * 2) q) m (Int.ofNat b) (Int.ofNat a)) && (decide (2 ≤ Nat.succ 1) && decide (k * 2 ≤ o.length) && decide (k.succ ≤ 1000000000) && true && true && true)) && (rng64 (Int.ofNat b.succ) && true))) from by kernel_rfl)]
  simp only [take_all2 hq, take2 hq]
  revert h
  cases h1 : hasP q m (Int.ofNat a) (Int.ofNat b) <;> cases h2 : hasP q m (Int.ofNat b) (Int.ofNat a) <;> simp [bndL, rng64, hq] <;> omega
theorem m35x {n : Nat} {q : List Int} {m : Nat} {k : Nat} {o : List Int} {a : Nat}  : Exec PP T none x35.nt 0 M35 (U35 n q m k o a n) (.x 2) (U35 n q m k o a n) := by
  refine exec_orun enve35 false 60 [false] [0, 1] (fun _ => rfl) (by kernel_rfl) (by kernel_rfl) (by kernel_rfl) ?_
  rw [(show obOf (orun ge35 false 60 M35 (U35 n q m k o a n) [false]) = (!decide (Int.ofNat n < Int.ofNat n) && true) from by kernel_rfl)]
  all_goals (first | rfl | (simp; done) | (simp; omega) | (simp [rng64]; done) | (simp [rng64]; omega) | (simp [rng64_eq]; omega))
theorem d35 {n : Nat} {q : List Int} {m : Nat} {k : Nat} {o : List Int} {a : Nat}  : Exec PP T none x35.nt 0 x35.body.b.b.b (S35 n q m k o a) .r (mkSt [(4, lsS 0 k)] [⟨false, .ivec 38 .i64 2 o⟩] 1 []) := by
  refine exec_orun env0 false 60 [] [1] (fun _ => rfl) (by kernel_rfl) (by kernel_rfl) (by kernel_rfl) (by kernel_rfl)
abbrev sU35 (n : Nat) (q : List Int) (m : Nat) (a b : Nat) : St := U35 n q m (midL (gg35 q m) n a b).length (flat (midL (gg35 q m) n a b)) a b
abbrev sS35 (n : Nat) (q : List Int) (m : Nat) (a : Nat) : St := S35 n q m (listL (gg35 q m) n a).length (flat (listL (gg35 q m) n a)) a
theorem m35 {n : Nat} {q : List Int} {m : Nat} {a b : Nat} (hq : q.length = m * 2) (hm : m ≤ 1000000000) (hn : n ≤ 7) (ha : a < n) (hb : b < n) (hlo : a < b) : Exec PP T none x35.nt 0 M35 (sU35 n q m a b) .n (sU35 n q m a (b + 1)) := by
  cases h : gg35 q m a b with
  | false =>
    unfold sU35
    rw [midL_f h]
    unfold gg35 at h
    rw [decide_eq_true hlo, Bool.true_and] at h
    exact m35f hq hm hn ha hb h
  | true =>
    unfold sU35
    rw [midL_tl h, midL_tf h]
    unfold gg35 at h
    rw [decide_eq_true hlo, Bool.true_and] at h
    exact m35t hq hm (flat_len _) (midL_len (by omega) hn (by omega)) hn ha hb h
theorem l35 {n : Nat} {q : List Int} {m : Nat} {a : Nat} (hq : q.length = m * 2) (hm : m ≤ 1000000000) (hn : n ≤ 7) (ha : a < n) : Exec PP T none x35.nt 0 L35 (sS35 n q m a) .n (sS35 n q m (a + 1)) := by
  refine exec_seq (x := L35.a) (y := L35.b) (l35a ha) (exec_seq (x := L35.b.a) (y := L35.b.b) (exec_block (id := 1) (x := L35.b.a.i) (e := .n) (exec_seq (x := L35.b.a.i.a) (y := L35.b.a.i.b) (l35c (by omega)) (exec_block (id := 2) (x := .loop M35) (e := .x 2) (S1 := sU35 n q m a n) ?_))) ?_)
  · have := exec_loop_from (fun b => sU35 n q m a b) (a + 1) n (fun b hlo hb => m35 hq hm hn ha hb (by omega)) m35x (by simp) (by omega)
    unfold sU35 at this
    rw [midL_lo (b := a + 1) fun j hj => (by unfold gg35; rw [decide_eq_false (by omega), Bool.false_and])] at this
    exact this
  · unfold sU35 sS35
    rw [midL_end]
    exact l35e (by omega)
theorem body35 {n : Nat} {q : List Int} {m : Nat} (hq : q.length = m * 2) (hm : m ≤ 1000000000) (hn : n ≤ 7) : Exec PP T none x35.nt 0 x35.body (startSt [.s (.int .i64 (Int.ofNat n)), .s (.sl 0 0 2 m)] [⟨true, .xvec .i64 2 q⟩]) .r (mkSt [(4, lsS 0 (listL (gg35 q m) n n).length)] [⟨false, .ivec 38 .i64 2 (flat (listL (gg35 q m) n n))⟩] 1 []) := by
  refine exec_seq (x := x35.body.a) (y := x35.body.b) a35 (exec_seq (x := x35.body.b.a) (y := x35.body.b.b) a35' (exec_seq (x := x35.body.b.b.a) (y := x35.body.b.b.b) (exec_seq (x := x35.body.b.b.a.a) (y := .block 0 (.loop L35)) b35 (exec_block (e := .x 0) (S1 := sS35 n q m n) ?_)) d35))
  exact exec_loop_up (fun a => sS35 n q m a) n (fun a ha => l35 hq hm hn ha) (exec_seq_x (x := L35.a) (y := L35.b) l35x (by simp)) (by simp) 0 (by omega)
def cRGraph : List PA → Bool := fun pas => match pas with | [.int n, _] => decide (0 ≤ n) && decide (n ≤ 7) | _ => false
def lRGraph : List PA → List (Int × Int) := fun pas => match pas with | [.int n, .sl _ q m] => listL (gg35 q m) n.toNat n.toNat | _ => []
def vRGraph : List PA → TV := fun pas => .av (.s (.sl 0 0 2 (lRGraph pas).length))
def nRGraph : List PA → List HO := fun pas => [⟨false, .ivec 38 .i64 2 (flat (lRGraph pas))⟩]
noncomputable abbrev spRGraph : Spec := genS [.int, .sl 2] cRGraph vRGraph nRGraph
theorem ok35 : SpecOK PP (compC T) 35 spRGraph := ok_gen o35 (by kernel_rfl) fun pas hf hc => match pas, hf with
  | [.int n, .sl _ q m], ⟨_, ⟨rfl, hq, hm⟩, _⟩ => by
    unfold cRGraph at hc
    simp only [Bool.and_eq_true, decide_eq_true_eq] at hc
    obtain ⟨k, rfl⟩ : ∃ k : Nat, n = Int.ofNat k := ⟨n.toNat, by simp; omega⟩
    exact ⟨_, 1, .r, body35 hq hm (by have := hc.2; simp at this; omega), fun _ => rfl, by kernel_rfl, by kernel_rfl, by kernel_rfl⟩
noncomputable def Le84 : List (Nat × Spec) := [(83, spJoin)]
theorem Le84_ok : SpecsL Le84 := specsL_cons ok83 (genS_fp) o83 (fun p hp => absurd hp (by simp))
noncomputable abbrev ge84 : Cal → Option Spec := specsΓ Le84
theorem enve84 : EnvOK PP T ge84 := envL Le84_ok
def L84 : XC := x84.body.b.b.a.b.i.i
def M84 : XC := L84.b.a.i.b.i.i
def gg84 (q : List Int) (m : Nat) (a b : Nat) : Bool := (Int.ofNat a != Int.ofNat b) && joinF q m (Int.ofNat a) (Int.ofNat b)
abbrev A84 (n : Nat) (q : List Int) (m : Nat) : St := mkSt [(0, iS n), (1, lsS 0 m)] ([⟨true, .xvec .i64 2 q⟩]) 1 []
abbrev B84 (n : Nat) (q : List Int) (m : Nat) (k : Nat) (o : List Int) : St := mkSt [(5, lsS 1 k), (0, iS n), (1, lsS 0 m)] ([⟨true, .xvec .i64 2 q⟩, ⟨false, .ivec 38 .i64 2 o⟩]) 2 []
abbrev S84 (n : Nat) (q : List Int) (m : Nat) (k : Nat) (o : List Int) (a : Nat) : St := mkSt [(0, iS n), (1, lsS 0 m), (5, lsS 1 k), (6, iS a)] ([⟨true, .xvec .i64 2 q⟩, ⟨false, .ivec 38 .i64 2 o⟩]) 2 []
abbrev U84 (n : Nat) (q : List Int) (m : Nat) (k : Nat) (o : List Int) (a b : Nat) : St := mkSt [(0, iS n), (1, lsS 0 m), (5, lsS 1 k), (6, iS a), (7, iS b)] ([⟨true, .xvec .i64 2 q⟩, ⟨false, .ivec 38 .i64 2 o⟩]) 2 []
theorem a84 {n : Nat} {q : List Int} {m : Nat}  : Exec PP T none x84.nt 0 x84.body.a (startSt [.s (.int .i64 (Int.ofNat n)), .s (.sl 0 0 2 m)] [⟨true, .xvec .i64 2 q⟩]) .n (A84 n q m) := by
  refine exec_orun env0 false 60 [] [0] (fun _ => rfl) (by kernel_rfl) (by kernel_rfl) (by kernel_rfl) (by kernel_rfl)
theorem a84q {n : Nat} {q : List Int} {m : Nat}  : Exec PP T none x84.nt 0 x84.body.b.a (A84 n q m) .n (mkSt [(0, iS n), (1, lsS 0 m), (5, ⟨true, .av (.s .nils)⟩)] ([⟨true, .xvec .i64 2 q⟩]) 1 []) := by
  refine exec_orun env0 false 60 [] [0] (fun _ => rfl) (by kernel_rfl) (by kernel_rfl) (by kernel_rfl) (by kernel_rfl)
theorem a84' {n : Nat} {q : List Int} {m : Nat} : Exec PP T none x84.nt 0 x84.body.b.a (A84 n q m) .n (B84 n q m 0 []) := a84q.post (weak_nil 5 38 .i64 2 rfl rfl rfl)
theorem b84 {n : Nat} {q : List Int} {m : Nat} {k : Nat} {o : List Int}  : Exec PP T none x84.nt 0 x84.body.b.b.a.a (B84 n q m k o) .n (S84 n q m k o 0) := by
  refine exec_orun env0 false 60 [] [0, 1] (fun _ => rfl) (by kernel_rfl) (by kernel_rfl) (by kernel_rfl) (by kernel_rfl)
theorem l84a {n : Nat} {q : List Int} {m : Nat} {k : Nat} {o : List Int} {a : Nat} (ha : a < n) : Exec PP T none x84.nt 0 L84.a (S84 n q m k o a) .n (S84 n q m k o a) := by
  refine exec_orun env0 false 60 [true] [0, 1] (fun _ => rfl) (by kernel_rfl) (by kernel_rfl) (by kernel_rfl) ?_
  rw [(show obOf (orun g0 false 60 L84.a (S84 n q m k o a) [true]) = (decide (Int.ofNat a < Int.ofNat n) && true) from by kernel_rfl)]
  all_goals (first | rfl | (simp; done) | (simp; omega) | (simp [rng64]; done) | (simp [rng64]; omega) | (simp [rng64_eq]; omega))
theorem l84x {n : Nat} {q : List Int} {m : Nat} {k : Nat} {o : List Int}  : Exec PP T none x84.nt 0 L84.a (S84 n q m k o n) (.x 0) (S84 n q m k o n) := by
  refine exec_orun env0 false 60 [false] [0, 1] (fun _ => rfl) (by kernel_rfl) (by kernel_rfl) (by kernel_rfl) ?_
  rw [(show obOf (orun g0 false 60 L84.a (S84 n q m k o n) [false]) = (!decide (Int.ofNat n < Int.ofNat n) && true) from by kernel_rfl)]
  all_goals (first | rfl | (simp; done) | (simp; omega) | (simp [rng64]; done) | (simp [rng64]; omega) | (simp [rng64_eq]; omega))
theorem l84c {n : Nat} {q : List Int} {m : Nat} {k : Nat} {o : List Int} {a : Nat} (ha : a < 7) : Exec PP T none x84.nt 0 L84.b.a.i.a (S84 n q m k o a) .n (U84 n q m k o a 0) := by
  refine exec_orun env0 false 60 [] [0, 1] (fun _ => rfl) (by kernel_rfl) (by kernel_rfl) (by kernel_rfl) ?_
  rw [(show obOf (orun g0 false 60 L84.b.a.i.a (S84 n q m k o a) []) = (true) from by kernel_rfl)]
  all_goals (first | rfl | (simp; done) | (simp; omega) | (simp [rng64]; done) | (simp [rng64]; omega) | (simp [rng64_eq]; omega))
theorem l84e {n : Nat} {q : List Int} {m : Nat} {k : Nat} {o : List Int} {a b : Nat} (ha : a < 7) : Exec PP T none x84.nt 0 L84.b.b (U84 n q m k o a b) .n (S84 n q m k o (a + 1)) := by
  refine exec_orun env0 false 60 [] [0, 1] (fun _ => rfl) (by kernel_rfl) (by kernel_rfl) (by kernel_rfl) ?_
  rw [(show obOf (orun g0 false 60 L84.b.b (U84 n q m k o a b) []) = (rng64 (Int.ofNat a.succ) && true) from by kernel_rfl)]
  all_goals (first | rfl | (simp; done) | (simp; omega) | (simp [rng64]; done) | (simp [rng64]; omega) | (simp [rng64_eq]; omega))
theorem m84f {n : Nat} {q : List Int} {m : Nat} {k : Nat} {o : List Int} {a b : Nat} (hq : q.length = m * 2) (hm : m ≤ 1000000000) (hn : n ≤ 7) (ha : a < n) (hb : b < n) (h : ((Int.ofNat a != Int.ofNat b) && joinF q m (Int.ofNat a) (Int.ofNat b)) = false) : Exec PP T none x84.nt 0 M84 (U84 n q m k o a b) .n (U84 n q m k o a (b + 1)) := by
  refine exec_orun enve84 false 60 [true, false] [0, 1] (fun _ => rfl) (by kernel_rfl) (by kernel_rfl) (by kernel_rfl) ?_
  rw [(show obOf (orun ge84 false 60 M84 (U84 n q m k o a b) [true, false]) = (decide (Int.ofNat b < Int.ofNat n) && true && ((!(Int.ofNat a != Int.ofNat b) == true || true) && ((!(Int.ofNat a != Int.ofNat b) == true || true) && ((!(Int.ofNat a != Int.ofNat b) == true || true) && ((!(Int.ofNat a != Int.ofNat b) == true || (Int.ofNat a != Int.ofNat b) == true && ((Int.ofNat a != Int.ofNat b) == true && ((Int.ofNat a != Int.ofNat b) == true && true)) && (decide ((0 + m) * 2 ≤ q.length) && decide (m ≤ 1000000000) && true && true)) && ((bif Int.ofNat a != Int.ofNat b then (Int.ofNat a != Int.ofNat b) == true else true) && true && true)))) && ((!bif Int.ofNat a != Int.ofNat b then joinF (List.take (m * 2) q) m (Int.ofNat a) (Int.ofNat b) else false) && true) && (rng64 (Int.ofNat b.succ) && true))) from by kernel_rfl)]
  simp only [take_all2 hq, take2 hq]
  revert h
  cases h1 : (Int.ofNat a != Int.ofNat b) <;> cases h2 : joinF q m (Int.ofNat a) (Int.ofNat b) <;> simp [bndL, rng64, hq] <;> omega
theorem m84t {n : Nat} {q : List Int} {m : Nat} {k : Nat} {o : List Int} {a b : Nat} (hq : q.length = m * 2) (hm : m ≤ 1000000000) (ho : o.length = k * 2) (hk : k ≤ 100) (hn : n ≤ 7) (ha : a < n) (hb : b < n) (h : ((Int.ofNat a != Int.ofNat b) && joinF q m (Int.ofNat a) (Int.ofNat b)) = true) : Exec PP T none x84.nt 0 M84 (U84 n q m k o a b) .n (U84 n q m (k + 1) (List.take (k * 2) o ++ [Int.ofNat a, Int.ofNat b]) a (b + 1)) := by
  refine exec_orun enve84 false 60 [true, true] [0, 11] (fun _ => rfl) (by kernel_rfl) (by kernel_rfl) (by kernel_rfl) ?_
  rw [(show obOf (orun ge84 false 60 M84 (U84 n q m k o a b) [true, true]) = (decide (Int.ofNat b < Int.ofNat n) && true && ((!(Int.ofNat a != Int.ofNat b) == true || true) && ((!(Int.ofNat a != Int.ofNat b) == true || true) && ((!(Int.ofNat a != Int.ofNat b) == true || true) && ((!(Int.ofNat a != Int.ofNat b) == true || (Int.ofNat a != Int.ofNat b) == true && ((Int.ofNat a != Int.ofNat b) == true && ((Int.ofNat a != Int.ofNat b) == true && true)) && (decide ((0 + m) * 2 ≤ q.length) && decide (m ≤ 1000000000) && true && true)) && ((bif Int.ofNat a != Int.ofNat b then (Int.ofNat a != Int.ofNat b) == true else true) && true && true)))) && ((bif Int.ofNat a != Int.ofNat b then joinF (List.take (m * 2) q) m (Int.ofNat a) (Int.ofNat b) else false) && (decide (2 ≤ Nat.succ 1) && decide (k * 2 ≤ o.length) && decide (k.succ ≤ 1000000000) && true && true && true)) && (rng64 (Int.ofNat b.succ) && true))) from by kernel_rfl)]
  simp only [take_all2 hq, take2 hq]
  revert h
  cases h1 : (Int.ofNat a != Int.ofNat b) <;> cases h2 : joinF q m (Int.ofNat a) (Int.ofNat b) <;> simp [bndL, rng64, hq] <;> omega
theorem m84x {n : Nat} {q : List Int} {m : Nat} {k : Nat} {o : List Int} {a : Nat}  : Exec PP T none x84.nt 0 M84 (U84 n q m k o a n) (.x 2) (U84 n q m k o a n) := by
  refine exec_orun enve84 false 60 [false] [0, 1] (fun _ => rfl) (by kernel_rfl) (by kernel_rfl) (by kernel_rfl) ?_
  rw [(show obOf (orun ge84 false 60 M84 (U84 n q m k o a n) [false]) = (!decide (Int.ofNat n < Int.ofNat n) && true) from by kernel_rfl)]
  all_goals (first | rfl | (simp; done) | (simp; omega) | (simp [rng64]; done) | (simp [rng64]; omega) | (simp [rng64_eq]; omega))
theorem d84 {n : Nat} {q : List Int} {m : Nat} {k : Nat} {o : List Int} {a : Nat}  : Exec PP T none x84.nt 0 x84.body.b.b.b (S84 n q m k o a) .r (mkSt [(4, lsS 0 k)] [⟨false, .ivec 38 .i64 2 o⟩] 1 []) := by
  refine exec_orun env0 false 60 [] [1] (fun _ => rfl) (by kernel_rfl) (by kernel_rfl) (by kernel_rfl) (by kernel_rfl)
abbrev sU84 (n : Nat) (q : List Int) (m : Nat) (a b : Nat) : St := U84 n q m (midL (gg84 q m) n a b).length (flat (midL (gg84 q m) n a b)) a b
abbrev sS84 (n : Nat) (q : List Int) (m : Nat) (a : Nat) : St := S84 n q m (listL (gg84 q m) n a).length (flat (listL (gg84 q m) n a)) a
theorem m84 {n : Nat} {q : List Int} {m : Nat} {a b : Nat} (hq : q.length = m * 2) (hm : m ≤ 1000000000) (hn : n ≤ 7) (ha : a < n) (hb : b < n) : Exec PP T none x84.nt 0 M84 (sU84 n q m a b) .n (sU84 n q m a (b + 1)) := by
  cases h : gg84 q m a b with
  | false =>
    unfold sU84
    rw [midL_f h]
    unfold gg84 at h
    exact m84f hq hm hn ha hb h
  | true =>
    unfold sU84
    rw [midL_tl h, midL_tf h]
    unfold gg84 at h
    exact m84t hq hm (flat_len _) (midL_len (by omega) hn (by omega)) hn ha hb h
theorem l84 {n : Nat} {q : List Int} {m : Nat} {a : Nat} (hq : q.length = m * 2) (hm : m ≤ 1000000000) (hn : n ≤ 7) (ha : a < n) : Exec PP T none x84.nt 0 L84 (sS84 n q m a) .n (sS84 n q m (a + 1)) := by
  refine exec_seq (x := L84.a) (y := L84.b) (l84a ha) (exec_seq (x := L84.b.a) (y := L84.b.b) (exec_block (id := 1) (x := L84.b.a.i) (e := .n) (exec_seq (x := L84.b.a.i.a) (y := L84.b.a.i.b) (l84c (by omega)) (exec_block (id := 2) (x := .loop M84) (e := .x 2) (S1 := sU84 n q m a n) ?_))) ?_)
  · have := exec_loop_up (fun b => sU84 n q m a b) n (fun b hb => m84 hq hm hn ha hb) m84x (by simp) 0 (by omega)
    unfold sU84 at this
    rw [midL_0] at this
    exact this
  · unfold sU84 sS84
    rw [midL_end]
    exact l84e (by omega)
theorem body84 {n : Nat} {q : List Int} {m : Nat} (hq : q.length = m * 2) (hm : m ≤ 1000000000) (hn : n ≤ 7) : Exec PP T none x84.nt 0 x84.body (startSt [.s (.int .i64 (Int.ofNat n)), .s (.sl 0 0 2 m)] [⟨true, .xvec .i64 2 q⟩]) .r (mkSt [(4, lsS 0 (listL (gg84 q m) n n).length)] [⟨false, .ivec 38 .i64 2 (flat (listL (gg84 q m) n n))⟩] 1 []) := by
  refine exec_seq (x := x84.body.a) (y := x84.body.b) a84 (exec_seq (x := x84.body.b.a) (y := x84.body.b.b) a84' (exec_seq (x := x84.body.b.b.a) (y := x84.body.b.b.b) (exec_seq (x := x84.body.b.b.a.a) (y := .block 0 (.loop L84)) b84 (exec_block (e := .x 0) (S1 := sS84 n q m n) ?_)) d84))
  exact exec_loop_up (fun a => sS84 n q m a) n (fun a ha => l84 hq hm hn ha) (exec_seq_x (x := L84.a) (y := L84.b) l84x (by simp)) (by simp) 0 (by omega)
def cRarrows : List PA → Bool := fun pas => match pas with | [.int n, _] => decide (0 ≤ n) && decide (n ≤ 7) | _ => false
def lRarrows : List PA → List (Int × Int) := fun pas => match pas with | [.int n, .sl _ q m] => listL (gg84 q m) n.toNat n.toNat | _ => []
def vRarrows : List PA → TV := fun pas => .av (.s (.sl 0 0 2 (lRarrows pas).length))
def nRarrows : List PA → List HO := fun pas => [⟨false, .ivec 38 .i64 2 (flat (lRarrows pas))⟩]
noncomputable abbrev spRarrows : Spec := genS [.int, .sl 2] cRarrows vRarrows nRarrows
theorem ok84 : SpecOK PP (compC T) 84 spRarrows := ok_gen o84 (by kernel_rfl) fun pas hf hc => match pas, hf with
  | [.int n, .sl _ q m], ⟨_, ⟨rfl, hq, hm⟩, _⟩ => by
    unfold cRarrows at hc
    simp only [Bool.and_eq_true, decide_eq_true_eq] at hc
    obtain ⟨k, rfl⟩ : ∃ k : Nat, n = Int.ofNat k := ⟨n.toNat, by simp; omega⟩
    exact ⟨_, 1, .r, body84 hq hm (by have := hc.2; simp at this; omega), fun _ => rfl, by kernel_rfl, by kernel_rfl, by kernel_rfl⟩
noncomputable def Le38 : List (Nat × Spec) := [(86, spBef)]
theorem Le38_ok : SpecsL Le38 := specsL_cons ok86 (genS_fp) o86 (fun p hp => absurd hp (by simp))
noncomputable abbrev ge38 : Cal → Option Spec := specsΓ Le38
theorem enve38 : EnvOK PP T ge38 := envL Le38_ok
def L38 : XC := x38.body.b.b.a.b.i.i
def M38 : XC := L38.b.a.i.b.i.i
def gg38 (q q' : List Int) (m m' : Nat) (a b : Nat) : Bool := (Int.ofNat a != Int.ofNat b) && (befF q m (Int.ofNat a) (Int.ofNat b) && befF q' m' (Int.ofNat a) (Int.ofNat b))
abbrev A38 (n : Nat) (q q' : List Int) (m m' : Nat) : St := mkSt [(0, iS n), (3, g1S 2)] ([⟨true, .xvec .i64 1 q⟩, ⟨true, .xvec .i64 1 q'⟩, ⟨false, .row 48 [.sl 0 0 1 m, .sl 1 0 1 m'] 0 ff⟩]) 3 []
abbrev B38 (n : Nat) (q q' : List Int) (m m' : Nat) (k : Nat) (o : List Int) : St := mkSt [(5, lsS 3 k), (0, iS n), (3, g1S 2)] ([⟨true, .xvec .i64 1 q⟩, ⟨true, .xvec .i64 1 q'⟩, ⟨false, .row 48 [.sl 0 0 1 m, .sl 1 0 1 m'] 0 ff⟩, ⟨false, .ivec 38 .i64 2 o⟩]) 4 []
abbrev S38 (n : Nat) (q q' : List Int) (m m' : Nat) (k : Nat) (o : List Int) (a : Nat) : St := mkSt [(0, iS n), (3, g1S 2), (5, lsS 3 k), (6, iS a)] ([⟨true, .xvec .i64 1 q⟩, ⟨true, .xvec .i64 1 q'⟩, ⟨false, .row 48 [.sl 0 0 1 m, .sl 1 0 1 m'] 0 ff⟩, ⟨false, .ivec 38 .i64 2 o⟩]) 4 []
abbrev U38 (n : Nat) (q q' : List Int) (m m' : Nat) (k : Nat) (o : List Int) (a b : Nat) : St := mkSt [(0, iS n), (3, g1S 2), (5, lsS 3 k), (6, iS a), (7, iS b)] ([⟨true, .xvec .i64 1 q⟩, ⟨true, .xvec .i64 1 q'⟩, ⟨false, .row 48 [.sl 0 0 1 m, .sl 1 0 1 m'] 0 ff⟩, ⟨false, .ivec 38 .i64 2 o⟩]) 4 []
theorem a38 {n : Nat} {q q' : List Int} {m m' : Nat}  : Exec PP T none x38.nt 0 x38.body.a (startSt [.s (.int .i64 (Int.ofNat n)), .pb [.sl 0 0 1 m, .sl 1 0 1 m'] 0 ff] [⟨true, .xvec .i64 1 q⟩, ⟨true, .xvec .i64 1 q'⟩]) .n (A38 n q q' m m') := by
  refine exec_orun env0 false 60 [] [0, 1, 2] (fun _ => rfl) (by kernel_rfl) (by kernel_rfl) (by kernel_rfl) (by kernel_rfl)
theorem a38q {n : Nat} {q q' : List Int} {m m' : Nat}  : Exec PP T none x38.nt 0 x38.body.b.a (A38 n q q' m m') .n (mkSt [(0, iS n), (3, g1S 2), (5, ⟨true, .av (.s .nils)⟩)] ([⟨true, .xvec .i64 1 q⟩, ⟨true, .xvec .i64 1 q'⟩, ⟨false, .row 48 [.sl 0 0 1 m, .sl 1 0 1 m'] 0 ff⟩]) 3 []) := by
  refine exec_orun env0 false 60 [] [0, 1, 2] (fun _ => rfl) (by kernel_rfl) (by kernel_rfl) (by kernel_rfl) (by kernel_rfl)
theorem a38' {n : Nat} {q q' : List Int} {m m' : Nat} : Exec PP T none x38.nt 0 x38.body.b.a (A38 n q q' m m') .n (B38 n q q' m m' 0 []) := a38q.post (weak_nil 5 38 .i64 2 rfl rfl rfl)
theorem b38 {n : Nat} {q q' : List Int} {m m' : Nat} {k : Nat} {o : List Int}  : Exec PP T none x38.nt 0 x38.body.b.b.a.a (B38 n q q' m m' k o) .n (S38 n q q' m m' k o 0) := by
  refine exec_orun env0 false 60 [] [0, 1, 2, 3] (fun _ => rfl) (by kernel_rfl) (by kernel_rfl) (by kernel_rfl) (by kernel_rfl)
theorem l38a {n : Nat} {q q' : List Int} {m m' : Nat} {k : Nat} {o : List Int} {a : Nat} (ha : a < n) : Exec PP T none x38.nt 0 L38.a (S38 n q q' m m' k o a) .n (S38 n q q' m m' k o a) := by
  refine exec_orun env0 false 60 [true] [0, 1, 2, 3] (fun _ => rfl) (by kernel_rfl) (by kernel_rfl) (by kernel_rfl) ?_
  rw [(show obOf (orun g0 false 60 L38.a (S38 n q q' m m' k o a) [true]) = (decide (Int.ofNat a < Int.ofNat n) && true) from by kernel_rfl)]
  all_goals (first | rfl | (simp; done) | (simp; omega) | (simp [rng64]; done) | (simp [rng64]; omega) | (simp [rng64_eq]; omega))
theorem l38x {n : Nat} {q q' : List Int} {m m' : Nat} {k : Nat} {o : List Int}  : Exec PP T none x38.nt 0 L38.a (S38 n q q' m m' k o n) (.x 0) (S38 n q q' m m' k o n) := by
  refine exec_orun env0 false 60 [false] [0, 1, 2, 3] (fun _ => rfl) (by kernel_rfl) (by kernel_rfl) (by kernel_rfl) ?_
  rw [(show obOf (orun g0 false 60 L38.a (S38 n q q' m m' k o n) [false]) = (!decide (Int.ofNat n < Int.ofNat n) && true) from by kernel_rfl)]
  all_goals (first | rfl | (simp; done) | (simp; omega) | (simp [rng64]; done) | (simp [rng64]; omega) | (simp [rng64_eq]; omega))
theorem l38c {n : Nat} {q q' : List Int} {m m' : Nat} {k : Nat} {o : List Int} {a : Nat} (ha : a < 7) : Exec PP T none x38.nt 0 L38.b.a.i.a (S38 n q q' m m' k o a) .n (U38 n q q' m m' k o a 0) := by
  refine exec_orun env0 false 60 [] [0, 1, 2, 3] (fun _ => rfl) (by kernel_rfl) (by kernel_rfl) (by kernel_rfl) ?_
  rw [(show obOf (orun g0 false 60 L38.b.a.i.a (S38 n q q' m m' k o a) []) = (true) from by kernel_rfl)]
  all_goals (first | rfl | (simp; done) | (simp; omega) | (simp [rng64]; done) | (simp [rng64]; omega) | (simp [rng64_eq]; omega))
theorem l38e {n : Nat} {q q' : List Int} {m m' : Nat} {k : Nat} {o : List Int} {a b : Nat} (ha : a < 7) : Exec PP T none x38.nt 0 L38.b.b (U38 n q q' m m' k o a b) .n (S38 n q q' m m' k o (a + 1)) := by
  refine exec_orun env0 false 60 [] [0, 1, 2, 3] (fun _ => rfl) (by kernel_rfl) (by kernel_rfl) (by kernel_rfl) ?_
  rw [(show obOf (orun g0 false 60 L38.b.b (U38 n q q' m m' k o a b) []) = (rng64 (Int.ofNat a.succ) && true) from by kernel_rfl)]
  all_goals (first | rfl | (simp; done) | (simp; omega) | (simp [rng64]; done) | (simp [rng64]; omega) | (simp [rng64_eq]; omega))
theorem m38f {n : Nat} {q q' : List Int} {m m' : Nat} {k : Nat} {o : List Int} {a b : Nat} (hq : q.length = m * 1) (hm : m ≤ 1000000000) (hq' : q'.length = m' * 1) (hm' : m' ≤ 1000000000) (hn : n ≤ 7) (ha : a < n) (hb : b < n) (h : ((Int.ofNat a != Int.ofNat b) && (befF q m (Int.ofNat a) (Int.ofNat b) && befF q' m' (Int.ofNat a) (Int.ofNat b))) = false) : Exec PP T none x38.nt 0 M38 (U38 n q q' m m' k o a b) .n (U38 n q q' m m' k o a (b + 1)) := by
  refine exec_orun enve38 false 60 [true, false] [0, 1, 2, 3] (fun _ => rfl) (by kernel_rfl) (by kernel_rfl) (by kernel_rfl) ?_
  rw [(show obOf (orun ge38 false 60 M38 (U38 n q q' m m' k o a b) [true, false]) = ((fun b0_ : Bool => (fun b1_ : Bool => decide (Int.ofNat b < Int.ofNat n) && true && ((!b1_ == true || true) && ((!b1_ == true || b1_ == true && true && true) && ((!b1_ == true || true) && ((!b1_ == true || true) && ((!b1_ == true || b1_ == true && (b1_ == true && (b1_ == true && true)) && (decide ((0 + m) * 1 ≤ q.length) && decide (m ≤ 1000000000) && true && true)) && ((bif Int.ofNat a != Int.ofNat b then b1_ == true else true) && true && ((!b0_ == true || true) && ((!b0_ == true || b0_ == true && true && true) && ((!b0_ == true || true) && ((!b0_ == true || true) && ((!b0_ == true || b0_ == true && (b0_ == true && (b0_ == true && true)) && (decide ((0 + m') * 1 ≤ q'.length) && decide (m' ≤ 1000000000) && true && true)) && ((bif bif Int.ofNat a != Int.ofNat b then befF (List.take (m * 1) q) m (Int.ofNat a) (Int.ofNat b) else false then b0_ == true else true) && true && true))))))))))) && ((!bif bif Int.ofNat a != Int.ofNat b then befF (List.take (m * 1) q) m (Int.ofNat a) (Int.ofNat b) else false then befF (List.take (m' * 1) q') m' (Int.ofNat a) (Int.ofNat b) else false) && true) && (rng64 (Int.ofNat b.succ) && true))) (Int.ofNat a != Int.ofNat b)) (bif Int.ofNat a != Int.ofNat b then befF (List.take (m * 1) q) m (Int.ofNat a) (Int.ofNat b) else false)) from by kernel_rfl)]
  dsimp only
  simp only [take_all1 hq, take_all1 hq', take1 hq, take1 hq']
  revert h
  cases h1 : (Int.ofNat a != Int.ofNat b) <;> cases h2 : befF q m (Int.ofNat a) (Int.ofNat b) <;> cases h3 : befF q' m' (Int.ofNat a) (Int.ofNat b) <;> simp [bndL, rng64, hq, hq'] <;> omega
theorem m38t {n : Nat} {q q' : List Int} {m m' : Nat} {k : Nat} {o : List Int} {a b : Nat} (hq : q.length = m * 1) (hm : m ≤ 1000000000) (hq' : q'.length = m' * 1) (hm' : m' ≤ 1000000000) (ho : o.length = k * 2) (hk : k ≤ 100) (hn : n ≤ 7) (ha : a < n) (hb : b < n) (h : ((Int.ofNat a != Int.ofNat b) && (befF q m (Int.ofNat a) (Int.ofNat b) && befF q' m' (Int.ofNat a) (Int.ofNat b))) = true) : Exec PP T none x38.nt 0 M38 (U38 n q q' m m' k o a b) .n (U38 n q q' m m' (k + 1) (List.take (k * 2) o ++ [Int.ofNat a, Int.ofNat b]) a (b + 1)) := by
  refine exec_orun enve38 false 60 [true, true] [0, 1, 2, 21] (fun _ => rfl) (by kernel_rfl) (by kernel_rfl) (by kernel_rfl) ?_
  rw [(show obOf (orun ge38 false 60 M38 (U38 n q q' m m' k o a b) [true, true]) = ((fun b0_ : Bool => (fun b1_ : Bool => decide (Int.ofNat b < Int.ofNat n) && true && ((!b1_ == true || true) && ((!b1_ == true || b1_ == true && true && true) && ((!b1_ == true || true) && ((!b1_ == true || true) && ((!b1_ == true || b1_ == true && (b1_ == true && (b1_ == true && true)) && (decide ((0 + m) * 1 ≤ q.length) && decide (m ≤ 1000000000) && true && true)) && ((bif Int.ofNat a != Int.ofNat b then b1_ == true else true) && true && ((!b0_ == true || true) && ((!b0_ == true || b0_ == true && true && true) && ((!b0_ == true || true) && ((!b0_ == true || true) && ((!b0_ == true || b0_ == true && (b0_ == true && (b0_ == true && true)) && (decide ((0 + m') * 1 ≤ q'.length) && decide (m' ≤ 1000000000) && true && true)) && ((bif bif Int.ofNat a != Int.ofNat b then befF (List.take (m * 1) q) m (Int.ofNat a) (Int.ofNat b) else false then b0_ == true else true) && true && true))))))))))) && ((bif bif Int.ofNat a != Int.ofNat b then befF (List.take (m * 1) q) m (Int.ofNat a) (Int.ofNat b) else false then befF (List.take (m' * 1) q') m' (Int.ofNat a) (Int.ofNat b) else false) && (decide (2 ≤ Nat.succ 1) && decide (k * 2 ≤ o.length) && decide (k.succ ≤ 1000000000) && true && true && true)) && (rng64 (Int.ofNat b.succ) && true))) (Int.ofNat a != Int.ofNat b)) (bif Int.ofNat a != Int.ofNat b then befF (List.take (m * 1) q) m (Int.ofNat a) (Int.ofNat b) else false)) from by kernel_rfl)]
  dsimp only
  simp only [take_all1 hq, take_all1 hq', take1 hq, take1 hq']
  revert h
  cases h1 : (Int.ofNat a != Int.ofNat b) <;> cases h2 : befF q m (Int.ofNat a) (Int.ofNat b) <;> cases h3 : befF q' m' (Int.ofNat a) (Int.ofNat b) <;> simp [bndL, rng64, hq, hq'] <;> omega
theorem m38x {n : Nat} {q q' : List Int} {m m' : Nat} {k : Nat} {o : List Int} {a : Nat}  : Exec PP T none x38.nt 0 M38 (U38 n q q' m m' k o a n) (.x 2) (U38 n q q' m m' k o a n) := by
  refine exec_orun enve38 false 60 [false] [0, 1, 2, 3] (fun _ => rfl) (by kernel_rfl) (by kernel_rfl) (by kernel_rfl) ?_
  rw [(show obOf (orun ge38 false 60 M38 (U38 n q q' m m' k o a n) [false]) = (!decide (Int.ofNat n < Int.ofNat n) && true) from by kernel_rfl)]
  all_goals (first | rfl | (simp; done) | (simp; omega) | (simp [rng64]; done) | (simp [rng64]; omega) | (simp [rng64_eq]; omega))
theorem d38 {n : Nat} {q q' : List Int} {m m' : Nat} {k : Nat} {o : List Int} {a : Nat}  : Exec PP T none x38.nt 0 x38.body.b.b.b (S38 n q q' m m' k o a) .r (mkSt [(4, lsS 0 k)] [⟨false, .ivec 38 .i64 2 o⟩] 1 []) := by
  refine exec_orun env0 false 60 [] [3] (fun _ => rfl) (by kernel_rfl) (by kernel_rfl) (by kernel_rfl) (by kernel_rfl)
abbrev sU38 (n : Nat) (q q' : List Int) (m m' : Nat) (a b : Nat) : St := U38 n q q' m m' (midL (gg38 q q' m m') n a b).length (flat (midL (gg38 q q' m m') n a b)) a b
abbrev sS38 (n : Nat) (q q' : List Int) (m m' : Nat) (a : Nat) : St := S38 n q q' m m' (listL (gg38 q q' m m') n a).length (flat (listL (gg38 q q' m m') n a)) a
theorem m38 {n : Nat} {q q' : List Int} {m m' : Nat} {a b : Nat} (hq : q.length = m * 1) (hm : m ≤ 1000000000) (hq' : q'.length = m' * 1) (hm' : m' ≤ 1000000000) (hn : n ≤ 7) (ha : a < n) (hb : b < n) : Exec PP T none x38.nt 0 M38 (sU38 n q q' m m' a b) .n (sU38 n q q' m m' a (b + 1)) := by
  cases h : gg38 q q' m m' a b with
  | false =>
    unfold sU38
    rw [midL_f h]
    unfold gg38 at h
    exact m38f hq hm hq' hm' hn ha hb h
  | true =>
    unfold sU38
    rw [midL_tl h, midL_tf h]
    unfold gg38 at h
    exact m38t hq hm hq' hm' (flat_len _) (midL_len (by omega) hn (by omega)) hn ha hb h
theorem l38 {n : Nat} {q q' : List Int} {m m' : Nat} {a : Nat} (hq : q.length = m * 1) (hm : m ≤ 1000000000) (hq' : q'.length = m' * 1) (hm' : m' ≤ 1000000000) (hn : n ≤ 7) (ha : a < n) : Exec PP T none x38.nt 0 L38 (sS38 n q q' m m' a) .n (sS38 n q q' m m' (a + 1)) := by
  refine exec_seq (x := L38.a) (y := L38.b) (l38a ha) (exec_seq (x := L38.b.a) (y := L38.b.b) (exec_block (id := 1) (x := L38.b.a.i) (e := .n) (exec_seq (x := L38.b.a.i.a) (y := L38.b.a.i.b) (l38c (by omega)) (exec_block (id := 2) (x := .loop M38) (e := .x 2) (S1 := sU38 n q q' m m' a n) ?_))) ?_)
  · have := exec_loop_up (fun b => sU38 n q q' m m' a b) n (fun b hb => m38 hq hm hq' hm' hn ha hb) m38x (by simp) 0 (by omega)
    unfold sU38 at this
    rw [midL_0] at this
    exact this
  · unfold sU38 sS38
    rw [midL_end]
    exact l38e (by omega)
theorem body38 {n : Nat} {q q' : List Int} {m m' : Nat} (hq : q.length = m * 1) (hm : m ≤ 1000000000) (hq' : q'.length = m' * 1) (hm' : m' ≤ 1000000000) (hn : n ≤ 7) : Exec PP T none x38.nt 0 x38.body (startSt [.s (.int .i64 (Int.ofNat n)), .pb [.sl 0 0 1 m, .sl 1 0 1 m'] 0 ff] [⟨true, .xvec .i64 1 q⟩, ⟨true, .xvec .i64 1 q'⟩]) .r (mkSt [(4, lsS 0 (listL (gg38 q q' m m') n n).length)] [⟨false, .ivec 38 .i64 2 (flat (listL (gg38 q q' m m') n n))⟩] 1 []) := by
  refine exec_seq (x := x38.body.a) (y := x38.body.b) a38 (exec_seq (x := x38.body.b.a) (y := x38.body.b.b) a38' (exec_seq (x := x38.body.b.b.a) (y := x38.body.b.b.b) (exec_seq (x := x38.body.b.b.a.a) (y := .block 0 (.loop L38)) b38 (exec_block (e := .x 0) (S1 := sS38 n q q' m m' n) ?_)) d38))
  exact exec_loop_up (fun a => sS38 n q q' m m' a) n (fun a ha => l38 hq hm hq' hm' hn ha) (exec_seq_x (x := L38.a) (y := L38.b) l38x (by simp)) (by simp) 0 (by omega)
def cRCommon : List PA → Bool := fun pas => match pas with | [.int n, _] => decide (0 ≤ n) && decide (n ≤ 7) | _ => false
def lRCommon : List PA → List (Int × Int) := fun pas => match pas with | [.int n, .two _ q q' m m'] => listL (gg38 q q' m m') n.toNat n.toNat | _ => []
def vRCommon : List PA → TV := fun pas => .av (.s (.sl 0 0 2 (lRCommon pas).length))
def nRCommon : List PA → List HO := fun pas => [⟨false, .ivec 38 .i64 2 (flat (lRCommon pas))⟩]
noncomputable abbrev spRCommon : Spec := genS [.int, .two 1] cRCommon vRCommon nRCommon
theorem ok38 : SpecOK PP (compC T) 38 spRCommon := ok_gen o38 (by kernel_rfl) fun pas hf hc => match pas, hf with
  | [.int n, .two _ q q' m m'], ⟨_, ⟨rfl, ⟨hq, hm⟩, hq', hm'⟩, _⟩ => by
    unfold cRCommon at hc
    simp only [Bool.and_eq_true, decide_eq_true_eq] at hc
    obtain ⟨k, rfl⟩ : ∃ k : Nat, n = Int.ofNat k := ⟨n.toNat, by simp; omega⟩
    exact ⟨_, 1, .r, body38 hq hm hq' hm' (by have := hc.2; simp at this; omega), fun _ => rfl, by kernel_rfl, by kernel_rfl, by kernel_rfl⟩
end Go.Proofs.Yteekkjfjpoaihaa.Eng
namespace Go.Proofs.Yteekkjfjpoaihaa.Eng
open Go Go.Proofs
/-- the two numbers of a pair, as the runs name them -/
def ra (q : List Int) (i : Nat) : Int := q.getD (0 + ((0 + i) * 2 + 0)) 0
def rb (q : List Int) (i : Nat) : Int := q.getD (0 + ((0 + i) * 2 + 1)) 0
def L30 : XC := x30.body.b.b.a.b.i.i
def M30 : XC := L30.b.a.i.b.i.i
abbrev S30 (n : Nat) (q : List Int) (m : Nat) (o : List Int) (r : Nat) : St := mkSt [(0, iS n), (1, lsS 0 m), (5, s1S 1 n), (6, iS r)] [⟨true, .xvec .i64 2 q⟩, ⟨false, .ivec 3 .i64 1 o⟩] 2 []
abbrev U30 (n : Nat) (q : List Int) (m : Nat) (o : List Int) (r i : Nat) : St := mkSt [(0, iS n), (1, lsS 0 m), (5, s1S 1 n), (6, iS r), (7, iS i)] [⟨true, .xvec .i64 2 q⟩, ⟨false, .ivec 3 .i64 1 o⟩] 2 []
def layS (q : List Int) (o : List Int) (i : Nat) : List Int := o.set (0 + (0 + (rb q i).toNat) * 1) (max (at1 o (rb q i).toNat) (at1 o (ra q i).toNat + 1))
def layR (q : List Int) (o : List Int) : Nat → List Int
  | 0 => o
  | i + 1 => layS q (layR q o i) i
def layA (q : List Int) (m n : Nat) : Nat → List Int
  | 0 => List.replicate n 0
  | r + 1 => layR q (layA q m n r) m
def OkO (n : Nat) (b : Int) (o : List Int) : Prop := o.length = n ∧ ∀ x ∈ o, 0 ≤ x ∧ x ≤ b
theorem OkO.at {n : Nat} {b : Int} {o : List Int} (h : OkO n b o) (hb : 0 ≤ b) (i : Nat) : 0 ≤ at1 o i ∧ at1 o i ≤ b := by
  rw [at1_eq, List.getD_eq_getElem?_getD]
  cases hi : o[i]? with
  | none => simpa using hb
  | some x => exact h.2 x (List.mem_of_getElem? hi)
theorem OkO.layS {n : Nat} {b : Int} {q o : List Int} {i : Nat} (h : OkO n b o) (hb : 0 ≤ b) : OkO n (b + 1) (layS q o i) := by
  refine ⟨by simp [Eng.layS, h.1], fun x hx => ?_⟩
  rcases List.mem_or_eq_of_mem_set hx with h1 | h1
  · have := h.2 x h1
    omega
  · have k1 := h.at hb (rb q i).toNat
    have k2 := h.at hb (ra q i).toNat
    omega
theorem OkO.layR {n : Nat} {b : Int} {q o : List Int} (h : OkO n b o) (hb : 0 ≤ b) : ∀ i : Nat, OkO n (b + (i : Int)) (layR q o i)
  | 0 => by
    show OkO n (b + 0) o
    rw [Int.add_zero]
    exact h
  | i + 1 => by
    have := (OkO.layR h hb i (q := q)).layS (q := q) (i := i) (by omega)
    rw [show b + ((i + 1 : Nat) : Int) = b + i + 1 by omega]
    exact this
theorem OkO.layA {n m : Nat} {q : List Int} : ∀ r : Nat, OkO n ((r * m : Nat) : Int) (layA q m n r)
  | 0 => ⟨by simp [Eng.layA], fun x hx => by
    have := (List.mem_replicate.1 hx).2
    subst this
    simp⟩
  | r + 1 => by
    have := (OkO.layA (n := n) (m := m) (q := q) r).layR (q := q) (by omega) m
    rw [Nat.succ_mul]
    rw [Int.natCast_add]
    exact this
theorem a30 {n : Nat} {q : List Int} {m : Nat}  : Exec PP T none x30.nt 0 x30.body.a (startSt [.s (.int .i64 (Int.ofNat n)), .s (.sl 0 0 2 m)] [⟨true, .xvec .i64 2 q⟩]) .n (mkSt [(0, iS n), (1, lsS 0 m)] [⟨true, .xvec .i64 2 q⟩] 1 []) := by
  refine exec_orun env0 false 60 [] [0] (fun _ => rfl) (by kernel_rfl) (by kernel_rfl) (by kernel_rfl) (by kernel_rfl)
theorem b30 {n : Nat} {q : List Int} {m : Nat} (hn : n ≤ 7) : Exec PP T none x30.nt 0 x30.body.b.a (mkSt [(0, iS n), (1, lsS 0 m)] [⟨true, .xvec .i64 2 q⟩] 1 []) .n (mkSt [(0, iS n), (1, lsS 0 m), (5, s1S 1 n)] [⟨true, .xvec .i64 2 q⟩, ⟨false, .ivec 3 .i64 1 (List.replicate n 0)⟩] 2 []) := by
  refine exec_orun env0 false 60 [] [0, 1] (fun _ => rfl) (by kernel_rfl) (by kernel_rfl) (by kernel_rfl) ?_
  rw [(show obOf (orun g0 false 60 x30.body.b.a (mkSt [(0, iS n), (1, lsS 0 m)] [⟨true, .xvec .i64 2 q⟩] 1 []) []) = (decide (0 ≤ Int.ofNat n) && decide (n ≤ 1000000000) && true && true && true) from by kernel_rfl)]
  simp [bndL]
  omega
theorem cc30 {n : Nat} {q o : List Int} {m : Nat}  : Exec PP T none x30.nt 0 x30.body.b.b.a.a (mkSt [(0, iS n), (1, lsS 0 m), (5, s1S 1 n)] [⟨true, .xvec .i64 2 q⟩, ⟨false, .ivec 3 .i64 1 o⟩] 2 []) .n (S30 n q m o 0) := by
  refine exec_orun env0 false 60 [] [0, 1] (fun _ => rfl) (by kernel_rfl) (by kernel_rfl) (by kernel_rfl) (by kernel_rfl)
theorem l30a {n : Nat} {q o : List Int} {m r : Nat} (h : r < n) : Exec PP T none x30.nt 0 L30.a (S30 n q m o r) .n (S30 n q m o r) := by
  refine exec_orun env0 false 60 [true] [0, 1] (fun _ => rfl) (by kernel_rfl) (by kernel_rfl) (by kernel_rfl) ?_
  rw [(show obOf (orun g0 false 60 L30.a (S30 n q m o r) [true]) = (decide (Int.ofNat r < Int.ofNat n) && true) from by kernel_rfl)]
  all_goals (first | rfl | (simp; done) | (simp; omega) | (simp [rng64]; done) | (simp [rng64]; omega) | (simp [rng64_eq]; omega))
theorem l30x {n : Nat} {q o : List Int} {m : Nat}  : Exec PP T none x30.nt 0 L30.a (S30 n q m o n) (.x 0) (S30 n q m o n) := by
  refine exec_orun env0 false 60 [false] [0, 1] (fun _ => rfl) (by kernel_rfl) (by kernel_rfl) (by kernel_rfl) ?_
  rw [(show obOf (orun g0 false 60 L30.a (S30 n q m o n) [false]) = (!decide (Int.ofNat n < Int.ofNat n) && true) from by kernel_rfl)]
  all_goals (first | rfl | (simp; done) | (simp; omega) | (simp [rng64]; done) | (simp [rng64]; omega) | (simp [rng64_eq]; omega))
theorem l30c {n : Nat} {q o : List Int} {m r : Nat}  : Exec PP T none x30.nt 0 L30.b.a.i.a (S30 n q m o r) .n (U30 n q m o r 0) := by
  refine exec_orun env0 false 60 [] [0, 1] (fun _ => rfl) (by kernel_rfl) (by kernel_rfl) (by kernel_rfl) (by kernel_rfl)
theorem l30e {n : Nat} {q o : List Int} {m r i : Nat} (h : r < 7) : Exec PP T none x30.nt 0 L30.b.b (U30 n q m o r i) .n (S30 n q m o (r + 1)) := by
  refine exec_orun env0 false 60 [] [0, 1] (fun _ => rfl) (by kernel_rfl) (by kernel_rfl) (by kernel_rfl) ?_
  rw [(show obOf (orun g0 false 60 L30.b.b (U30 n q m o r i) []) = (rng64 (Int.ofNat r.succ) && true) from by kernel_rfl)]
  all_goals (first | rfl | (simp; done) | (simp; omega) | (simp [rng64]; done) | (simp [rng64]; omega) | (simp [rng64_eq]; omega))
theorem m30 {n : Nat} {q o : List Int} {m r i : Nat} (hq : q.length = m * 2) (hm : m ≤ 1000) (ho : o.length = n) (hi : i < m) (ha : 0 ≤ ra q i ∧ ra q i < n) (hb : 0 ≤ rb q i ∧ rb q i < n) (hr : 0 ≤ at1 o (ra q i).toNat ∧ at1 o (ra q i).toNat ≤ 100000) : Exec PP T none x30.nt 0 M30 (U30 n q m o r i) .n (U30 n q m (layS q o i) r (i + 1)) := by
  refine exec_orun env0 false 60 [true] [0, 1] (fun _ => rfl) (by kernel_rfl) (by kernel_rfl) (by kernel_rfl) ?_
  rw [(show obOf (orun g0 false 60 M30 (U30 n q m o r i) [true]) = (decide (Int.ofNat i < Int.ofNat m) && true && (decide (0 ≤ Int.ofNat i) && decide (Int.ofNat i < Int.ofNat m) && (decide ((Nat.add 0 ((0 + i) * 2)).succ < q.length) && (decide (0 ≤ Int.ofNat i) && decide (Int.ofNat i < Int.ofNat m) && (decide ((Nat.add 0 ((0 + i) * 2)).succ < q.length) && (decide (0 ≤ q.getD (Nat.add 0 ((0 + i) * 2)).succ 0) && decide (q.getD (Nat.add 0 ((0 + i) * 2)).succ 0 < Int.ofNat n) && (decide (0 + (0 + (q.getD (Nat.add 0 ((0 + i) * 2)).succ 0).toNat) * 1 < o.length) && (decide (0 ≤ Int.ofNat i) && decide (Int.ofNat i < Int.ofNat m) && (decide (0 + ((0 + i) * 2 + 0) < q.length) && (decide (0 ≤ q.getD (0 + ((0 + i) * 2 + 0)) 0) && decide (q.getD (0 + ((0 + i) * 2 + 0)) 0 < Int.ofNat n) && (decide (0 + (0 + (q.getD (0 + ((0 + i) * 2 + 0)) 0).toNat) * 1 < o.length) && (rng64 (o.getD (0 + (0 + (q.getD (0 + ((0 + i) * 2 + 0)) 0).toNat) * 1) 0 + 1) && (decide (0 ≤ q.getD (Nat.add 0 ((0 + i) * 2)).succ 0) && decide (q.getD (Nat.add 0 ((0 + i) * 2)).succ 0 < Int.ofNat n) && (decide (0 + (0 + (q.getD (Nat.add 0 ((0 + i) * 2)).succ 0).toNat) * 1 < o.length) && true && true && true)))))))))))) && true && (rng64 (Int.ofNat i.succ) && true))) from by kernel_rfl)]
  unfold at1 at hr
  unfold ra at ha hr
  unfold rb at hb
  simp only [Bool.and_eq_true, decide_eq_true_eq, rng64_eq, Bool.or_eq_true]
  simp only [Int.ofNat_eq_natCast] at *
  have e2 : (0 + ((0 + i) * 2 + 1)) < q.length := by omega
  have e1 : (0 + ((0 + i) * 2 + 0)) < q.length := by omega
  simp at *
  omega
theorem m30x {n : Nat} {q o : List Int} {m r : Nat}  : Exec PP T none x30.nt 0 M30 (U30 n q m o r m) (.x 2) (U30 n q m o r m) := by
  refine exec_orun env0 false 60 [false] [0, 1] (fun _ => rfl) (by kernel_rfl) (by kernel_rfl) (by kernel_rfl) ?_
  rw [(show obOf (orun g0 false 60 M30 (U30 n q m o r m) [false]) = (!decide (Int.ofNat m < Int.ofNat m) && true) from by kernel_rfl)]
  all_goals (first | rfl | (simp; done) | (simp; omega) | (simp [rng64]; done) | (simp [rng64]; omega) | (simp [rng64_eq]; omega))
theorem d30 {n : Nat} {q o : List Int} {m r : Nat}  : Exec PP T none x30.nt 0 x30.body.b.b.b (S30 n q m o r) .r (mkSt [(4, s1S 0 n)] [⟨false, .ivec 3 .i64 1 o⟩] 1 []) := by
  refine exec_orun env0 false 60 [] [1] (fun _ => rfl) (by kernel_rfl) (by kernel_rfl) (by kernel_rfl) (by kernel_rfl)
def pairsIn (n : Int) (q : List Int) (m : Nat) : Bool := (List.range m).all fun i => decide (0 ≤ ra q i) && decide (ra q i < n) && (decide (0 ≤ rb q i) && decide (rb q i < n))
theorem pairsIn_at {n : Int} {q : List Int} {m : Nat} (h : pairsIn n q m = true) {i : Nat} (hi : i < m) : (0 ≤ ra q i ∧ ra q i < n) ∧ 0 ≤ rb q i ∧ rb q i < n := by
  have := List.all_eq_true.1 h i (List.mem_range.2 hi)
  simp only [Bool.and_eq_true, decide_eq_true_eq] at this
  exact this
theorem l30 {n : Nat} {q : List Int} {m r : Nat} (hq : q.length = m * 2) (hm : m ≤ 1000) (hn : n ≤ 7) (hp : pairsIn n q m = true) (hr : r < n) : Exec PP T none x30.nt 0 L30 (S30 n q m (layA q m n r) r) .n (S30 n q m (layA q m n (r + 1)) (r + 1)) := by
  refine exec_seq (x := L30.a) (y := L30.b) (l30a hr) (exec_seq (x := L30.b.a) (y := L30.b.b) (exec_block (id := 1) (x := L30.b.a.i) (e := .n) (exec_seq (x := L30.b.a.i.a) (y := L30.b.a.i.b) l30c (exec_block (id := 2) (x := .loop M30) (e := .x 2) (S1 := U30 n q m (layA q m n (r + 1)) r m) ?_))) (l30e (by omega)))
  have hA := OkO.layA (n := n) (m := m) (q := q) r
  have hle : r * m ≤ 7 * 1000 := Nat.mul_le_mul (by omega) hm
  exact exec_loop_up (fun i => U30 n q m (layR q (layA q m n r) i) r i) m (fun i hi => by
    have hO := hA.layR (q := q) (by omega) i
    obtain ⟨h1, h2⟩ := pairsIn_at hp hi
    have h3 := hO.at (by omega) (ra q i).toNat
    exact m30 hq hm hO.1 hi h1 h2 ⟨h3.1, by omega⟩) m30x (by simp) 0 (by omega)
theorem body30 {n : Nat} {q : List Int} {m : Nat} (hq : q.length = m * 2) (hm : m ≤ 1000) (hn : n ≤ 7) (hp : pairsIn n q m = true) : Exec PP T none x30.nt 0 x30.body (startSt [.s (.int .i64 (Int.ofNat n)), .s (.sl 0 0 2 m)] [⟨true, .xvec .i64 2 q⟩]) .r (mkSt [(4, s1S 0 n)] [⟨false, .ivec 3 .i64 1 (layA q m n n)⟩] 1 []) := by
  refine exec_seq (x := x30.body.a) (y := x30.body.b) a30 (exec_seq (x := x30.body.b.a) (y := x30.body.b.b) (b30 hn) (exec_seq (x := x30.body.b.b.a) (y := x30.body.b.b.b) (exec_seq (x := x30.body.b.b.a.a) (y := .block 0 (.loop L30)) cc30 (exec_block (e := .x 0) (S1 := S30 n q m (layA q m n n) n) ?_)) d30))
  exact exec_loop_up (fun r => S30 n q m (layA q m n r) r) n (fun r hr => l30 hq hm hn hp hr) (exec_seq_x (x := L30.a) (y := L30.b) l30x (by simp)) (by simp) 0 (by omega)
def cRLayers : List PA → Bool := fun pas => match pas with | [.int n, .sl _ q m] => decide (0 ≤ n) && decide (n ≤ 7) && (decide (m ≤ 1000) && pairsIn n q m) | _ => false
def nRLayers : List PA → List HO := fun pas => match pas with | [.int n, .sl _ q m] => [⟨false, .ivec 3 .i64 1 (layA q m n.toNat n.toNat)⟩] | _ => [⟨false, .ivec 3 .i64 1 []⟩]
def vRLayers : List PA → TV := fun pas => match pas with | [.int n, .sl _ q m] => .av (.s (.sl 0 0 1 n.toNat)) | _ => .av (.s (.sl 0 0 1 0))
noncomputable abbrev spRLayers : Spec := genS [.int, .sl 2] cRLayers vRLayers nRLayers
theorem ok30 : SpecOK PP (compC T) 30 spRLayers := ok_gen o30 (by kernel_rfl) fun pas hf hc => match pas, hf with
  | [.int n, .sl _ q m], ⟨_, ⟨rfl, hq, hm⟩, _⟩ => by
    unfold cRLayers at hc
    simp only [Bool.and_eq_true, decide_eq_true_eq] at hc
    obtain ⟨k, rfl⟩ : ∃ k : Nat, n = Int.ofNat k := ⟨n.toNat, by simp; omega⟩
    exact ⟨_, 1, .r, body30 hq hc.2.1 (by have := hc.1.2; simp at this; omega) hc.2.2, fun _ => rfl, by kernel_rfl, by kernel_rfl, by kernel_rfl⟩
end Go.Proofs.Yteekkjfjpoaihaa.Eng

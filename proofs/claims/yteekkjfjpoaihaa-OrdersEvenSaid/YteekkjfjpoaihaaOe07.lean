/- A part of the proof of ordersEven_holds. -/
import Derived.Test.YteekkjfjpoaihaaOe06
set_option linter.all false
namespace Go.Proofs.Yteekkjfjpoaihaa.Eng
open Go Go.Proofs
def L51 : XC := x51.body.b.a.b.i.i
def M51 : XC := L51.b.b.a.i.b.b.i.i
def N51 : XC := M51.b.b.a.i.b.b.b.b.i.i
abbrev G51 (f : Nat → Bool) : List HO := [⟨false, .row 70 [] 49 f⟩]
abbrev S51 (f : Nat → Bool) (a : Nat) : St := mkSt [(1, g1S 0), (6, ⟨true, I a⟩)] (G51 f) 1 []
abbrev P51 (f : Nat → Bool) (a : Nat) : St := mkSt [(1, g1S 0), (6, ⟨true, I a⟩), (7, ⟨true, B (decide (Int.ofNat a < 7))⟩)] (G51 f) 1 []
abbrev U51 (f : Nat → Bool) (a b : Nat) : St := mkSt [(1, g1S 0), (3, ⟨true, I a⟩), (6, ⟨true, I a⟩), (9, ⟨true, I b⟩)] (G51 f) 1 []
abbrev Q51 (f : Nat → Bool) (a b : Nat) : St := mkSt [(1, g1S 0), (3, ⟨true, I a⟩), (6, ⟨true, I a⟩), (9, ⟨true, I b⟩), (10, ⟨true, B (decide (Int.ofNat b < 7))⟩)] (G51 f) 1 []
abbrev W51 (f : Nat → Bool) (a b : Nat) : St := mkSt [(1, g1S 0), (3, ⟨true, I a⟩), (4, ⟨true, I b⟩), (6, ⟨true, I a⟩), (9, ⟨true, I b⟩)] (G51 f) 1 []
abbrev V51 (f : Nat → Bool) (a b c : Nat) : St := mkSt [(1, g1S 0), (3, ⟨true, I a⟩), (4, ⟨true, I b⟩), (6, ⟨true, I a⟩), (9, ⟨true, I b⟩), (23, ⟨true, I c⟩)] (G51 f) 1 []
theorem a51 {f : Nat → Bool} : Exec PP T none x51.nt 0 x51.body.a (startSt [.pb [] 49 f] []) .n (mkSt [(1, g1S 0)] (G51 f) 1 []) := by
  refine exec_orun env0 false 60 [] [0] (fun _ => rfl) (by kernel_rfl) (by kernel_rfl) (by kernel_rfl) (by kernel_rfl)
theorem b51 {f : Nat → Bool} : Exec PP T none x51.nt 0 x51.body.b.a.a (mkSt [(1, g1S 0)] (G51 f) 1 []) .n (S51 f 0) := by
  refine exec_orun env0 false 60 [] [0] (fun _ => rfl) (by kernel_rfl) (by kernel_rfl) (by kernel_rfl) (by kernel_rfl)
theorem d51 {f : Nat → Bool} : Exec PP T none x51.nt 0 x51.body.b.b (S51 f 7) .r (RB 2 true) := by
  refine exec_orun env0 false 60 [] [] (fun _ => rfl) (by kernel_rfl) (by kernel_rfl) (by kernel_rfl) (by kernel_rfl)
theorem l51a {f : Nat → Bool} {a : Nat} : Exec PP T none x51.nt 0 L51.a (S51 f a) .n (P51 f a) := by
  refine exec_orun env0 false 60 [] [0] (fun _ => rfl) (by kernel_rfl) (by kernel_rfl) (by kernel_rfl) (by kernel_rfl)
theorem l51b {f : Nat → Bool} {a : Nat} (h : a < 7) : Exec PP T none x51.nt 0 L51.b.a (P51 f a) .n (S51 f a) := by
  refine exec_orun env0 false 60 [true] [0] (fun _ => rfl) (by kernel_rfl) (by kernel_rfl) (by kernel_rfl) ?_
  rw [(show obOf (orun g0 false 60 L51.b.a (P51 f a) [true]) = (decide (Int.ofNat a < 7) && true) from by kernel_rfl)]
  simp
  omega
theorem l51x {f : Nat → Bool} : Exec PP T none x51.nt 0 L51.b.a (P51 f 7) (.x 0) (S51 f 7) := by
  refine exec_orun env0 false 60 [false] [0] (fun _ => rfl) (by kernel_rfl) (by kernel_rfl) (by kernel_rfl) (by kernel_rfl)
theorem l51c {f : Nat → Bool} {a : Nat} : Exec PP T none x51.nt 0 L51.b.b.a.i.a (S51 f a) .n (mkSt [(1, g1S 0), (3, ⟨true, I a⟩), (6, ⟨true, I a⟩)] (G51 f) 1 []) := by
  refine exec_orun env0 false 60 [] [0] (fun _ => rfl) (by kernel_rfl) (by kernel_rfl) (by kernel_rfl) (by kernel_rfl)
theorem l51d {f : Nat → Bool} {a : Nat} : Exec PP T none x51.nt 0 L51.b.b.a.i.b.a (mkSt [(1, g1S 0), (3, ⟨true, I a⟩), (6, ⟨true, I a⟩)] (G51 f) 1 []) .n (U51 f a 0) := by
  refine exec_orun env0 false 60 [] [0] (fun _ => rfl) (by kernel_rfl) (by kernel_rfl) (by kernel_rfl) (by kernel_rfl)
theorem l51e {f : Nat → Bool} {a b : Nat} (h : a < 7) : Exec PP T none x51.nt 0 L51.b.b.b (U51 f a b) .n (S51 f (a + 1)) := by
  refine exec_orun env0 false 60 [] [0] (fun _ => rfl) (by kernel_rfl) (by kernel_rfl) (by kernel_rfl) ?_
  rw [(show obOf (orun g0 false 60 L51.b.b.b (U51 f a b) []) = (rng64 (Int.ofNat a.succ) && true) from by kernel_rfl)]
  simp [rng64]
  omega
theorem m51a {f : Nat → Bool} {a b : Nat} : Exec PP T none x51.nt 0 M51.a (U51 f a b) .n (Q51 f a b) := by
  refine exec_orun env0 false 60 [] [0] (fun _ => rfl) (by kernel_rfl) (by kernel_rfl) (by kernel_rfl) (by kernel_rfl)
theorem m51b {f : Nat → Bool} {a b : Nat} (h : b < 7) : Exec PP T none x51.nt 0 M51.b.a (Q51 f a b) .n (U51 f a b) := by
  refine exec_orun env0 false 60 [true] [0] (fun _ => rfl) (by kernel_rfl) (by kernel_rfl) (by kernel_rfl) ?_
  rw [(show obOf (orun g0 false 60 M51.b.a (Q51 f a b) [true]) = (decide (Int.ofNat b < 7) && true) from by kernel_rfl)]
  simp
  omega
theorem m51x {f : Nat → Bool} {a : Nat} : Exec PP T none x51.nt 0 M51.b.a (Q51 f a 7) (.x 2) (U51 f a 7) := by
  refine exec_orun env0 false 60 [false] [0] (fun _ => rfl) (by kernel_rfl) (by kernel_rfl) (by kernel_rfl) (by kernel_rfl)
theorem m51e {f : Nat → Bool} {a b : Nat} (h : b < 7) : Exec PP T none x51.nt 0 M51.b.b.b (U51 f a b) .n (U51 f a (b + 1)) := by
  refine exec_orun env0 false 60 [] [0] (fun _ => rfl) (by kernel_rfl) (by kernel_rfl) (by kernel_rfl) ?_
  rw [(show obOf (orun g0 false 60 M51.b.b.b (U51 f a b) []) = (rng64 (Int.ofNat b.succ) && true) from by kernel_rfl)]
  simp [rng64]
  omega
theorem y51a {f : Nat → Bool} {a b : Nat} : Exec PP T none x51.nt 0 M51.b.b.a.i.a (U51 f a b) .n (W51 f a b) := by
  refine exec_orun env0 false 60 [] [0] (fun _ => rfl) (by kernel_rfl) (by kernel_rfl) (by kernel_rfl) (by kernel_rfl)
def at7 (f : Nat → Bool) (a b : Nat) : Bool := f (a * 7 + b)
theorem y51b {f : Nat → Bool} {a b : Nat} (ha : a < 7) (hb : b < 7) (h : at7 f a b = true) : Exec PP T none x51.nt 0 M51.b.b.a.i.b.a (W51 f a b) .n (W51 f a b) := by
  refine exec_orun env0 false 60 [false] [0] (fun _ => rfl) (by kernel_rfl) (by kernel_rfl) (by kernel_rfl) ?_
  rw [(show obOf (orun g0 false 60 M51.b.b.a.i.b.a (W51 f a b) [false]) = (decide (0 ≤ Int.ofNat a) && decide (Int.ofNat a < 7) && (decide (0 ≤ Int.ofNat b) && decide (Int.ofNat b < 7) && (decide (0 + (0 + a * 7 + b * 1) < 49) && true)) && (!!f (0 + (0 + a * 7 + b * 1)) && true)) from by kernel_rfl)]
  unfold at7 at h
  simp [h]
  omega
theorem y51x {f : Nat → Bool} {a b : Nat} (ha : a < 7) (hb : b < 7) (h : at7 f a b = false) : Exec PP T none x51.nt 0 M51.b.b.a.i.b.a (W51 f a b) (.x 3) (U51 f a b) := by
  refine exec_orun env0 false 60 [true] [0] (fun _ => rfl) (by kernel_rfl) (by kernel_rfl) (by kernel_rfl) ?_
  rw [(show obOf (orun g0 false 60 M51.b.b.a.i.b.a (W51 f a b) [true]) = (decide (0 ≤ Int.ofNat a) && decide (Int.ofNat a < 7) && (decide (0 ≤ Int.ofNat b) && decide (Int.ofNat b < 7) && (decide (0 + (0 + a * 7 + b * 1) < 49) && true)) && (!f (0 + (0 + a * 7 + b * 1)) && true)) from by kernel_rfl)]
  unfold at7 at h
  simp [h]
  omega
theorem y51c {f : Nat → Bool} {a b : Nat} (ha : a < 7) (hb : b < 7) (h : at7 f b a = false) : Exec PP T none x51.nt 0 M51.b.b.a.i.b.b.a (W51 f a b) .n (W51 f a b) := by
  refine exec_orun env0 false 60 [false] [0] (fun _ => rfl) (by kernel_rfl) (by kernel_rfl) (by kernel_rfl) ?_
  rw [(show obOf (orun g0 false 60 M51.b.b.a.i.b.b.a (W51 f a b) [false]) = (decide (0 ≤ Int.ofNat b) && decide (Int.ofNat b < 7) && (decide (0 ≤ Int.ofNat a) && decide (Int.ofNat a < 7) && (decide (0 + (0 + b * 7 + a * 1) < 49) && true)) && (!f (0 + (0 + b * 7 + a * 1)) && true)) from by kernel_rfl)]
  unfold at7 at h
  simp [h]
  omega
theorem y51r {f : Nat → Bool} {a b : Nat} (ha : a < 7) (hb : b < 7) (h : at7 f b a = true) : Exec PP T none x51.nt 0 M51.b.b.a.i.b.b.a (W51 f a b) .r (RB 2 false) := by
  refine exec_orun env0 false 60 [true] [] (fun _ => rfl) (by kernel_rfl) (by kernel_rfl) (by kernel_rfl) ?_
  rw [(show obOf (orun g0 false 60 M51.b.b.a.i.b.b.a (W51 f a b) [true]) = (decide (0 ≤ Int.ofNat b) && decide (Int.ofNat b < 7) && (decide (0 ≤ Int.ofNat a) && decide (Int.ofNat a < 7) && (decide (0 + (0 + b * 7 + a * 1) < 49) && true)) && (f (0 + (0 + b * 7 + a * 1)) && true)) from by kernel_rfl)]
  unfold at7 at h
  simp [h]
  omega
theorem y51d {f : Nat → Bool} {a b : Nat} : Exec PP T none x51.nt 0 M51.b.b.a.i.b.b.b.a (W51 f a b) .n (V51 f a b 0) := by
  refine exec_orun env0 false 60 [] [0] (fun _ => rfl) (by kernel_rfl) (by kernel_rfl) (by kernel_rfl) (by kernel_rfl)
def bc51 (f : Nat → Bool) (a b c : Nat) : Bool := at7 f b c && !(at7 f a c)
theorem n51 {f : Nat → Bool} {a b c : Nat} (ha : a < 7) (hb : b < 7) (hc : c < 7) (h : bc51 f a b c = false) : Exec PP T none x51.nt 0 N51 (V51 f a b c) .n (V51 f a b (c + 1)) := by
  refine exec_orun env0 false 60 [true, false] [0] (fun _ => rfl) (by kernel_rfl) (by kernel_rfl) (by kernel_rfl) ?_
  rw [(show obOf (orun g0 false 60 N51 (V51 f a b c) [true, false]) = (decide (Int.ofNat c < 7) && true && (decide (0 ≤ Int.ofNat b) && decide (Int.ofNat b < 7) && (decide (0 ≤ Int.ofNat c) && decide (Int.ofNat c < 7) && (decide (0 + (0 + b * 7 + c * 1) < 49) && ((!f (0 + (0 + b * 7 + c * 1)) == true || true) && ((!f (0 + (0 + b * 7 + c * 1)) == true || true) && ((!f (0 + (0 + b * 7 + c * 1)) == true || f (0 + (0 + b * 7 + c * 1)) == true && true && (decide (0 ≤ Int.ofNat a) && decide (Int.ofNat a < 7))) && ((!f (0 + (0 + b * 7 + c * 1)) == true || f (0 + (0 + b * 7 + c * 1)) == true && (f (0 + (0 + b * 7 + c * 1)) == true && true) && (decide (0 ≤ Int.ofNat c) && decide (Int.ofNat c < 7))) && ((!f (0 + (0 + b * 7 + c * 1)) == true || f (0 + (0 + b * 7 + c * 1)) == true && true && decide (0 + (0 + a * 7 + c * 1) < 49)) && ((!f (0 + (0 + b * 7 + c * 1)) == true || f (0 + (0 + b * 7 + c * 1)) == true && true && true) && ((bif f (0 + (0 + b * 7 + c * 1)) then f (0 + (0 + b * 7 + c * 1)) == true else true) && true && true))))))))) && ((!bif f (0 + (0 + b * 7 + c * 1)) then !f (0 + (0 + a * 7 + c * 1)) else false) && true) && (rng64 (Int.ofNat c.succ) && true))) from by kernel_rfl)]
  unfold bc51 at7 at h
  have e3 : rng64 ((c : Int) + 1) = true := by rw [rng64_eq]; simp; omega
  cases h1 : f (b * 7 + c) with
  | false => simp [h1, e3]; omega
  | true => simp [h1] at h; simp [h1, h, e3]; omega
theorem n51r {f : Nat → Bool} {a b c : Nat} (ha : a < 7) (hb : b < 7) (hc : c < 7) (h : bc51 f a b c = true) : Exec PP T none x51.nt 0 N51 (V51 f a b c) .r (RB 2 false) := by
  refine exec_orun env0 false 60 [true, true] [] (fun _ => rfl) (by kernel_rfl) (by kernel_rfl) (by kernel_rfl) ?_
  rw [(show obOf (orun g0 false 60 N51 (V51 f a b c) [true, true]) = (decide (Int.ofNat c < 7) && true && (decide (0 ≤ Int.ofNat b) && decide (Int.ofNat b < 7) && (decide (0 ≤ Int.ofNat c) && decide (Int.ofNat c < 7) && (decide (0 + (0 + b * 7 + c * 1) < 49) && ((!f (0 + (0 + b * 7 + c * 1)) == true || true) && ((!f (0 + (0 + b * 7 + c * 1)) == true || true) && ((!f (0 + (0 + b * 7 + c * 1)) == true || f (0 + (0 + b * 7 + c * 1)) == true && true && (decide (0 ≤ Int.ofNat a) && decide (Int.ofNat a < 7))) && ((!f (0 + (0 + b * 7 + c * 1)) == true || f (0 + (0 + b * 7 + c * 1)) == true && (f (0 + (0 + b * 7 + c * 1)) == true && true) && (decide (0 ≤ Int.ofNat c) && decide (Int.ofNat c < 7))) && ((!f (0 + (0 + b * 7 + c * 1)) == true || f (0 + (0 + b * 7 + c * 1)) == true && true && decide (0 + (0 + a * 7 + c * 1) < 49)) && ((!f (0 + (0 + b * 7 + c * 1)) == true || f (0 + (0 + b * 7 + c * 1)) == true && true && true) && ((bif f (0 + (0 + b * 7 + c * 1)) then f (0 + (0 + b * 7 + c * 1)) == true else true) && true && true))))))))) && ((bif f (0 + (0 + b * 7 + c * 1)) then !f (0 + (0 + a * 7 + c * 1)) else false) && true))) from by kernel_rfl)]
  unfold bc51 at7 at h
  simp at h
  simp [h.1, h.2]
  omega
theorem n51x {f : Nat → Bool} {a b : Nat} : Exec PP T none x51.nt 0 N51 (V51 f a b 7) (.x 4) (U51 f a b) := by
  refine exec_orun env0 false 60 [false] [0] (fun _ => rfl) (by kernel_rfl) (by kernel_rfl) (by kernel_rfl) (by kernel_rfl)
/-- a pair of nodes with which a relation is not transitive -/
def bb51 (f : Nat → Bool) (a b : Nat) : Bool := at7 f a b && (at7 f b a || (List.range 7).any (bc51 f a b))
def transB (f : Nat → Bool) : Bool := !((List.range 7).any fun a => (List.range 7).any (bb51 f a))
theorem m51 {f : Nat → Bool} {a b : Nat} (ha : a < 7) (hb : b < 7) (h : bb51 f a b = false) : Exec PP T none x51.nt 0 M51 (U51 f a b) .n (U51 f a (b + 1)) := by
  refine exec_seq (x := M51.a) (y := M51.b) m51a (exec_seq (x := M51.b.a) (y := M51.b.b) (m51b hb) ?_)
  unfold bb51 at h
  cases h1 : at7 f a b with
  | false => exact exec_seq (x := M51.b.b.a) (y := M51.b.b.b) (exec_block (id := 3) (x := M51.b.b.a.i) (e := .x 3) (exec_seq (x := M51.b.b.a.i.a) (y := M51.b.b.a.i.b) y51a (exec_seq_x (x := M51.b.b.a.i.b.a) (y := M51.b.b.a.i.b.b) (y51x ha hb h1) (by simp)))) (m51e hb)
  | true =>
    rw [h1, Bool.true_and, Bool.or_eq_false_iff] at h
    have h3 := any_none _ _ h.2
    exact exec_seq (x := M51.b.b.a) (y := M51.b.b.b) (exec_block (id := 3) (x := M51.b.b.a.i) (e := .n) (exec_seq (x := M51.b.b.a.i.a) (y := M51.b.b.a.i.b) y51a (exec_seq (x := M51.b.b.a.i.b.a) (y := M51.b.b.a.i.b.b) (y51b ha hb h1) (exec_seq (x := M51.b.b.a.i.b.b.a) (y := M51.b.b.a.i.b.b.b) (y51c ha hb h.1)
      (exec_seq (x := M51.b.b.a.i.b.b.b.a) (y := .block 4 (.loop N51)) y51d (exec_block (e := .x 4) (exec_loop_up (V51 f a b) 7 (fun c hc => n51 ha hb hc (h3 c hc)) n51x (by simp) 0 (by omega)))))))) (m51e hb)
theorem m51r {f : Nat → Bool} {a b : Nat} (ha : a < 7) (hb : b < 7) (h : bb51 f a b = true) : Exec PP T none x51.nt 0 M51 (U51 f a b) .r (RB 2 false) := by
  refine exec_seq (x := M51.a) (y := M51.b) m51a (exec_seq (x := M51.b.a) (y := M51.b.b) (m51b hb) ?_)
  unfold bb51 at h
  rw [Bool.and_eq_true] at h
  refine exec_seq_x (x := M51.b.b.a) (y := M51.b.b.b) (exec_block (id := 3) (x := M51.b.b.a.i) (e := .r) (exec_seq (x := M51.b.b.a.i.a) (y := M51.b.b.a.i.b) y51a (exec_seq (x := M51.b.b.a.i.b.a) (y := M51.b.b.a.i.b.b) (y51b ha hb h.1) ?_))) (by simp)
  cases h1 : at7 f b a with
  | true => exact exec_seq_x (x := M51.b.b.a.i.b.b.a) (y := M51.b.b.a.i.b.b.b) (y51r ha hb h1) (by simp)
  | false =>
    rw [h1, Bool.false_or] at h
    obtain ⟨p, q1, q2, q3⟩ := any_first _ _ h.2
    exact exec_seq (x := M51.b.b.a.i.b.b.a) (y := M51.b.b.a.i.b.b.b) (y51c ha hb h1)
      (exec_seq (x := M51.b.b.a.i.b.b.b.a) (y := .block 4 (.loop N51)) y51d (exec_block (e := .r) (exec_loop_up (V51 f a b) p (fun c hc => n51 ha hb (by omega) (q3 c hc)) (n51r ha hb q1 q2) (by simp) 0 (by omega))))
theorem l51 {f : Nat → Bool} {a : Nat} (ha : a < 7) (h : (List.range 7).any (bb51 f a) = false) : Exec PP T none x51.nt 0 L51 (S51 f a) .n (S51 f (a + 1)) := by
  have h3 := any_none _ _ h
  exact exec_seq (x := L51.a) (y := L51.b) l51a (exec_seq (x := L51.b.a) (y := L51.b.b) (l51b ha) (exec_seq (x := L51.b.b.a) (y := L51.b.b.b) (exec_block (id := 1) (x := L51.b.b.a.i) (e := .n) (exec_seq (x := L51.b.b.a.i.a) (y := L51.b.b.a.i.b) l51c (exec_seq (x := L51.b.b.a.i.b.a) (y := .block 2 (.loop M51)) l51d
    (exec_block (e := .x 2) (exec_loop_up (U51 f a) 7 (fun b hb => m51 ha hb (h3 b hb)) (exec_seq (x := M51.a) (y := M51.b) m51a (exec_seq_x (x := M51.b.a) (y := M51.b.b) m51x (by simp))) (by simp) 0 (by omega)))))) (l51e (b := 7) ha)))
theorem l51r {f : Nat → Bool} {a : Nat} (ha : a < 7) (h : (List.range 7).any (bb51 f a) = true) : Exec PP T none x51.nt 0 L51 (S51 f a) .r (RB 2 false) := by
  obtain ⟨p, q1, q2, q3⟩ := any_first _ _ h
  exact exec_seq (x := L51.a) (y := L51.b) l51a (exec_seq (x := L51.b.a) (y := L51.b.b) (l51b ha) (exec_seq_x (x := L51.b.b.a) (y := L51.b.b.b) (exec_block (id := 1) (x := L51.b.b.a.i) (e := .r) (exec_seq (x := L51.b.b.a.i.a) (y := L51.b.b.a.i.b) l51c (exec_seq (x := L51.b.b.a.i.b.a) (y := .block 2 (.loop M51)) l51d
    (exec_block (e := .r) (exec_loop_up (U51 f a) p (fun b hb => m51 ha (by omega) (q3 b hb)) (m51r ha q1 q2) (by simp) 0 (by omega)))))) (by simp)))
theorem body51 {f : Nat → Bool} : Exec PP T none x51.nt 0 x51.body (startSt [.pb [] 49 f] []) .r (RB 2 (transB f)) := by
  refine exec_seq (x := x51.body.a) (y := x51.body.b) a51 ?_
  unfold transB
  cases hh : (List.range 7).any fun a => (List.range 7).any (bb51 f a) with
  | true =>
    obtain ⟨p, q1, q2, q3⟩ := any_first _ _ hh
    exact exec_seq_x (x := x51.body.b.a) (y := x51.body.b.b) (exec_seq (x := x51.body.b.a.a) (y := .block 0 (.loop L51)) b51 (exec_block (e := .r) (exec_loop_up (S51 f) p (fun a ha => l51 (by omega) (q3 a ha)) (l51r q1 q2) (by simp) 0 (by omega)))) (by simp)
  | false =>
    have h3 := any_none _ _ hh
    exact exec_seq (x := x51.body.b.a) (y := x51.body.b.b) (exec_seq (x := x51.body.b.a.a) (y := .block 0 (.loop L51)) b51 (exec_block (e := .x 0) (exec_loop_up (S51 f) 7 (fun a ha => l51 ha (h3 a ha)) (exec_seq (x := L51.a) (y := L51.b) l51a (exec_seq_x (x := L51.b.a) (y := L51.b.b) l51x (by simp))) (by simp) 0 (by omega)))) d51
theorem pb0_any {m m' : MM} {n : Nat} {f : Nat → Bool} {v : Value} (h : AR m (.pb [] n f) v) : AR m' (.pb [] n f) v := by
  obtain ⟨cs, e1, vs, e2, e3, e4⟩ := h
  refine ⟨cs, e1, vs, ?_, e3, e4⟩
  match vs, e2 with
  | [], _ => trivial
def gRel (g : (Nat → Bool) → TV) (args : List AV) (_ : Nat → Option HO) : Option (Bool × TV × List Nat) := match args with
  | [.pb [] 49 f] => some (true, g f, [])
  | _ => none
theorem gRel_fp (g : (Nat → Bool) → TV) : PureFp (gRel g) := by
  intro args h h' q hg hf
  exact hg
theorem gRel_ok {f : FuncId} {x : XFn} (hx : FunOK PP T f x) (t : (Nat → Bool) → List (Nat × Slot)) (g : (Nat → Bool) → TV) (hlen : Nat.ble 1 x.nt = true) (hb : ∀ f, Exec PP T none x.nt 0 x.body (startSt [.pb [] 49 f] []) .r (mkSt (t f) [] 0 []))
    (hres : ∀ f, resV (mkSt (t f) [] 0 []).sl.get (mkSt (t f) [] 0 []).hp.get x.res = some (true, g f)) (hids : ∀ f, (g f).ids = []) : SpecOK PP (compC T) f (pureS (gRel g)) := by
  refine spec_pure tokP hx fun ctx m h w args vals v rd base hH hargs hg => ?_
  unfold gRel at hg
  split at hg
  · rename_i fb
    simp only [Option.some.injEq, Prod.mk.injEq] at hg
    obtain ⟨_, rfl, rfl⟩ := hg
    match vals, hargs with
    | [v1], ⟨ha1, _⟩ =>
      exact ⟨emV, [], [.pb [] 49 fb], shown_val ro0 ⟨pb0_any ha1, trivial⟩ hlen (hb fb) (fun _ => rfl) (hres fb) (hids fb)⟩
  · cases hg
theorem ok51 : SpecOK PP (compC T) 51 (pureS (gRel fun f => B (transB f))) :=
  gRel_ok o51 (fun f => [(2, ⟨true, B (transB f)⟩)]) _ (by kernel_rfl) (fun _ => body51) (fun f => by kernel_rfl) (fun f => by kernel_rfl)
end Go.Proofs.Yteekkjfjpoaihaa.Eng
namespace Go.Proofs.Yteekkjfjpoaihaa.Eng
open Go Go.Proofs
def L4 : List (Nat × Spec) := (51, pureS (gRel fun f => B (transB f))) :: L3
theorem L4_ok : SpecsL L4 := specsL_cons ok51 (pureS_fp (gRel_fp _)) o51 L3_ok
noncomputable abbrev g4 : Cal → Option Spec := specsΓ L4
theorem env4 : EnvOK PP T g4 := envL L4_ok
def L59 : XC := x59.body.b.b.b.a.b.i.i
abbrev G59 (q : List Int) (f : Nat → Bool) : List HO := [⟨true, .xvec .i64 2 q⟩, ⟨false, .row 70 [] 49 ff⟩, ⟨false, .row 70 [] 49 f⟩]
abbrev S59 (n : Int) (q : List Int) (m : Nat) (f : Nat → Bool) (i : Nat) : St := mkSt [(0, ⟨true, I n⟩), (1, sl0 m), (4, g1S 1), (5, ⟨true, I 0⟩), (6, g1S 2), (16, sl0 m), (17, ⟨true, I m⟩), (18, ⟨true, I i⟩)] (G59 q f) 3 []
abbrev P59 (n : Int) (q : List Int) (m : Nat) (f : Nat → Bool) (i : Nat) : St := mkSt [(0, ⟨true, I n⟩), (1, sl0 m), (4, g1S 1), (5, ⟨true, I 0⟩), (6, g1S 2), (16, sl0 m), (17, ⟨true, I m⟩), (18, ⟨true, I i⟩), (19, ⟨true, B (decide (Int.ofNat i < Int.ofNat m))⟩)] (G59 q f) 3 []
abbrev E59 (n : Int) (q : List Int) (m : Nat) (f : Nat → Bool) (i : Nat) (a b : Int) : St := mkSt [(0, ⟨true, I n⟩), (1, sl0 m), (4, g1S 1), (5, ⟨true, I 0⟩), (6, g1S 2), (7, ⟨true, I i⟩), (8, g1S 3), (16, sl0 m), (17, ⟨true, I m⟩), (18, ⟨true, I i⟩)] (G59 q f ++ [⟨false, .row 38 [.int .i64 a, .int .i64 b] 0 ff⟩]) 4 []
theorem e59a {n : Int} {q : List Int} {m i : Nat} {f : Nat → Bool} : Exec PP T none x59.nt 0 L59.a (S59 n q m f i) .n (P59 n q m f i) := by
  refine exec_orun env2 false 60 [] [0, 1, 2] (fun _ => rfl) (by kernel_rfl) (by kernel_rfl) (by kernel_rfl) (by kernel_rfl)
theorem e59b {n : Int} {q : List Int} {m i : Nat} {f : Nat → Bool} (hi : i < m) : Exec PP T none x59.nt 0 L59.b.a (P59 n q m f i) .n (S59 n q m f i) := by
  refine exec_orun env2 false 60 [true] [0, 1, 2] (fun _ => rfl) (by kernel_rfl) (by kernel_rfl) (by kernel_rfl) ?_
  rw [(show obOf (orun g2 false 60 L59.b.a (P59 n q m f i) [true]) = (decide (Int.ofNat i < Int.ofNat m) && true) from by kernel_rfl)]
  simp
  omega
theorem e59x {n : Int} {q : List Int} {m : Nat} {f : Nat → Bool} : Exec PP T none x59.nt 0 L59.b.a (P59 n q m f m) (.x 0) (S59 n q m f m) := by
  refine exec_orun env2 false 60 [false] [0, 1, 2] (fun _ => rfl) (by kernel_rfl) (by kernel_rfl) (by kernel_rfl) ?_
  rw [(show obOf (orun g2 false 60 L59.b.a (P59 n q m f m) [false]) = (!decide (Int.ofNat m < Int.ofNat m) && true) from by kernel_rfl)]
  simp
theorem e59d {n : Int} {q : List Int} {m i : Nat} {f : Nat → Bool} (hm : m ≤ 1000000000) (hi : i < m) : Exec PP T none x59.nt 0 L59.b.b.b (S59 n q m f i) .n (S59 n q m f (i + 1)) := by
  refine exec_orun env2 false 60 [] [0, 1, 2] (fun _ => rfl) (by kernel_rfl) (by kernel_rfl) (by kernel_rfl) ?_
  rw [(show obOf (orun g2 false 60 L59.b.b.b (S59 n q m f i) []) = (rng64 (Int.ofNat i.succ) && true) from by kernel_rfl)]
  simp [rng64]
  omega
theorem e59r {n : Int} {q : List Int} {m i : Nat} {f : Nat → Bool} (hq : q.length = m * 2) (hi : i < m) : Exec PP T none x59.nt 0 L59.b.b.a.i.a (S59 n q m f i) .n (E59 n q m f i (pa q i) (pb q i)) := by
  have e1 : pa q i = q.getD (0 + (0 + i) * 2 + 0) 0 := by unfold pa; congr 1; omega
  have e2 : pb q i = q.getD (0 + (0 + i) * 2 + 0 + 1) 0 := by unfold pb; congr 1; omega
  rw [e1, e2]
  refine exec_orun env2 false 60 [] [0, 1, 2, 3] (fun _ => rfl) (by kernel_rfl) (by kernel_rfl) (by kernel_rfl) ?_
  rw [(show obOf (orun g2 false 60 L59.b.b.a.i.a (S59 n q m f i) []) = (decide (0 ≤ Int.ofNat i) && decide (Int.ofNat i < Int.ofNat m) && (decide (((0 + (0 + i) * 2).add 0).succ.succ ≤ q.length) && (decide (0 = 0) && true && true && true))) from by kernel_rfl)]
  simp
  omega
def badD (n : Int) (q : List Int) (i : Nat) (a b : Int) : Bool := decide (min a b < 0) || decide (max a b ≥ n) || (a == b) || upB q i
theorem e59c {n : Int} {q : List Int} {m i : Nat} {f : Nat → Bool} {a b : Int} (hq : q.length = m * 2) (hi : i < m) (hm : m ≤ 1000000000) (ha : a = pa q i) (hbb : b = pb q i) (hb : badD n q i a b = false) : Exec PP T none x59.nt 0 L59.b.b.a.i.b.a (E59 n q m f i a b) .n (E59 n q m f i a b) := by
  refine exec_orun env3 false 60 [false] [0, 1, 2, 3] (fun _ => rfl) (by kernel_rfl) (by kernel_rfl) (by kernel_rfl) ?_
  rw [(show obOf (orun g3 false 60 L59.b.b.a.i.b.a (E59 n q m f i a b) [false]) = (decide (0 ≤ 0) && decide (0 < 2) && (decide (0 ≤ 1) && decide (1 < 2) && ((!decide (min a b < 0) == false || decide (0 ≤ 0) && decide (0 < 2)) && ((!decide (min a b < 0) == false || decide (min a b < 0) == false && true && true) && ((!decide (min a b < 0) == false || decide (0 ≤ 1) && decide (1 < 2)) && ((!decide (min a b < 0) == false || decide (min a b < 0) == false && true && true) && ((!decide (min a b < 0) == false || decide (min a b < 0) == false && (decide (min a b < 0) == false && true) && true) && ((!decide (min a b < 0) == false || true) && ((!decide (min a b < 0) == false || decide (min a b < 0) == false && (decide (min a b < 0) == false && true) && true) && ((bif decide (min a b < 0) then true else decide (min a b < 0) == false) && true && ((!(bif decide (min a b < 0) then true else decide (max a b ≥ n)) == false || decide (0 ≤ 0) && decide (0 < 2)) && ((!(bif decide (min a b < 0) then true else decide (max a b ≥ n)) == false || (bif decide (min a b < 0) then true else decide (max a b ≥ n)) == false && true && true) && ((!(bif decide (min a b < 0) then true else decide (max a b ≥ n)) == false || decide (0 ≤ 1) && decide (1 < 2)) && ((!(bif decide (min a b < 0) then true else decide (max a b ≥ n)) == false || (bif decide (min a b < 0) then true else decide (max a b ≥ n)) == false && true && true) && ((!(bif decide (min a b < 0) then true else decide (max a b ≥ n)) == false || (bif decide (min a b < 0) then true else decide (max a b ≥ n)) == false && ((bif decide (min a b < 0) then true else decide (max a b ≥ n)) == false && true) && true) && ((bif bif decide (min a b < 0) then true else decide (max a b ≥ n) then true else (bif decide (min a b < 0) then true else decide (max a b ≥ n)) == false) && true && ((!(bif bif decide (min a b < 0) then true else decide (max a b ≥ n) then true else a == b) == false || true) && ((!(bif bif decide (min a b < 0) then true else decide (max a b ≥ n) then true else a == b) == false || (bif bif decide (min a b < 0) then true else decide (max a b ≥ n) then true else a == b) == false && true && true) && ((!(bif bif decide (min a b < 0) then true else decide (max a b ≥ n) then true else a == b) == false || (bif bif decide (min a b < 0) then true else decide (max a b ≥ n) then true else a == b) == false && true && true) && ((!((bif bif decide (min a b < 0) then true else decide (max a b ≥ n) then true else a == b) == false && decide (Int.ofNat i > 0) == true) || true) && ((!((bif bif decide (min a b < 0) then true else decide (max a b ≥ n) then true else a == b) == false && decide (Int.ofNat i > 0) == true) || true) && ((!((bif bif decide (min a b < 0) then true else decide (max a b ≥ n) then true else a == b) == false && decide (Int.ofNat i > 0) == true) || (bif bif decide (min a b < 0) then true else decide (max a b ≥ n) then true else a == b) == false && decide (Int.ofNat i > 0) == true && true && rng64 (Int.ofNat i - 1)) && ((!((bif bif decide (min a b < 0) then true else decide (max a b ≥ n) then true else a == b) == false && decide (Int.ofNat i > 0) == true) || (bif bif decide (min a b < 0) then true else decide (max a b ≥ n) then true else a == b) == false && decide (Int.ofNat i > 0) == true && ((bif bif decide (min a b < 0) then true else decide (max a b ≥ n) then true else a == b) == false && decide (Int.ofNat i > 0) == true && true) && (decide (0 ≤ Int.ofNat i - 1) && decide (Int.ofNat i - 1 < Int.ofNat m))) && ((!((bif bif decide (min a b < 0) then true else decide (max a b ≥ n) then true else a == b) == false && decide (Int.ofNat i > 0) == true) || (bif bif decide (min a b < 0) then true else decide (max a b ≥ n) then true else a == b) == false && decide (Int.ofNat i > 0) == true && true && true) && ((!((bif bif decide (min a b < 0) then true else decide (max a b ≥ n) then true else a == b) == false && decide (Int.ofNat i > 0) == true) || true) && ((!((bif bif decide (min a b < 0) then true else decide (max a b ≥ n) then true else a == b) == false && decide (Int.ofNat i > 0) == true) || (bif bif decide (min a b < 0) then true else decide (max a b ≥ n) then true else a == b) == false && decide (Int.ofNat i > 0) == true && ((bif bif decide (min a b < 0) then true else decide (max a b ≥ n) then true else a == b) == false && decide (Int.ofNat i > 0) == true && true) && (decide (((0 + (0 + (Int.ofNat i - 1).toNat) * 2).add 0).succ.succ ≤ q.length) && decide (2 ≤ Nat.succ 1))) && ((!((bif bif decide (min a b < 0) then true else decide (max a b ≥ n) then true else a == b) == false && decide (Int.ofNat i > 0) == true) || (bif bif decide (min a b < 0) then true else decide (max a b ≥ n) then true else a == b) == false && decide (Int.ofNat i > 0) == true && true && true) && ((!(bif bif decide (min a b < 0) then true else decide (max a b ≥ n) then true else a == b) == false || ((bif bif decide (min a b < 0) then true else decide (max a b ≥ n) then true else a == b) == false && bif decide (Int.ofNat i > 0) then (bif bif decide (min a b < 0) then true else decide (max a b ≥ n) then true else a == b) == false && decide (Int.ofNat i > 0) == true else true) && true) && ((bif bif bif decide (min a b < 0) then true else decide (max a b ≥ n) then true else a == b then true else (bif bif decide (min a b < 0) then true else decide (max a b ≥ n) then true else a == b) == false) && true && true)))))))))))))))))))))))))))) && true && ((!bif bif bif decide (min a b < 0) then true else decide (max a b ≥ n) then true else a == b then true else bif decide (Int.ofNat i > 0) then decide (cmp2 ((List.take 2 (List.drop (0 + (0 + (Int.ofNat i - 1).toNat) * 2) q)).getD 0 0) ((List.take 2 (List.drop (0 + (0 + (Int.ofNat i - 1).toNat) * 2) q)).getD 1 0) a b ≥ 0) else false) && true)) from by kernel_rfl)]
  simp only [badD, Bool.or_eq_false_iff] at hb
  obtain ⟨⟨⟨h0, h1⟩, h2⟩, h3⟩ := hb
  simp only [h0, h1, h2]
  cases i with
  | zero => simp
  | succ j =>
    have e1 : (Int.ofNat (j + 1) - 1).toNat = j := by simp
    have e2 : Int.ofNat (j + 1) - 1 = (j : Int) := by simp
    have e3 : rng64 (j : Int) = true := by rw [rng64_eq]; simp; omega
    simp [upB, pa, pb, Nat.mul_comm 2] at h3
    simp [e1, e2, e3, cmp2_less]
    rw [ha, hbb]
    simp [pa, pb, Nat.mul_comm 2]
    exact ⟨by omega, h3⟩
abbrev Z59 (f : Nat → Bool) (e : Int) : St := mkSt [(4, g1S 0), (5, ⟨true, I e⟩)] [⟨false, .row 70 [] 49 f⟩] 1 []
theorem e59e {n : Int} {q : List Int} {m i : Nat} {f : Nat → Bool} {a b : Int} (hq : q.length = m * 2) (hi : i < m) (hm : m ≤ 1000000000) (ha : a = pa q i) (hbb : b = pb q i) (hb : badD n q i a b = true) : Exec PP T none x59.nt 0 L59.b.b.a.i.b.a (E59 n q m f i a b) .r (Z59 f 30) := by
  refine exec_orun env3 false 60 [true] [1] (fun _ => rfl) (by kernel_rfl) (by kernel_rfl) (by kernel_rfl) ?_
  rw [(show obOf (orun g3 false 60 L59.b.b.a.i.b.a (E59 n q m f i a b) [true]) = (decide (0 ≤ 0) && decide (0 < 2) && (decide (0 ≤ 1) && decide (1 < 2) && ((!decide (min a b < 0) == false || decide (0 ≤ 0) && decide (0 < 2)) && ((!decide (min a b < 0) == false || decide (min a b < 0) == false && true && true) && ((!decide (min a b < 0) == false || decide (0 ≤ 1) && decide (1 < 2)) && ((!decide (min a b < 0) == false || decide (min a b < 0) == false && true && true) && ((!decide (min a b < 0) == false || decide (min a b < 0) == false && (decide (min a b < 0) == false && true) && true) && ((!decide (min a b < 0) == false || true) && ((!decide (min a b < 0) == false || decide (min a b < 0) == false && (decide (min a b < 0) == false && true) && true) && ((bif decide (min a b < 0) then true else decide (min a b < 0) == false) && true && ((!(bif decide (min a b < 0) then true else decide (max a b ≥ n)) == false || decide (0 ≤ 0) && decide (0 < 2)) && ((!(bif decide (min a b < 0) then true else decide (max a b ≥ n)) == false || (bif decide (min a b < 0) then true else decide (max a b ≥ n)) == false && true && true) && ((!(bif decide (min a b < 0) then true else decide (max a b ≥ n)) == false || decide (0 ≤ 1) && decide (1 < 2)) && ((!(bif decide (min a b < 0) then true else decide (max a b ≥ n)) == false || (bif decide (min a b < 0) then true else decide (max a b ≥ n)) == false && true && true) && ((!(bif decide (min a b < 0) then true else decide (max a b ≥ n)) == false || (bif decide (min a b < 0) then true else decide (max a b ≥ n)) == false && ((bif decide (min a b < 0) then true else decide (max a b ≥ n)) == false && true) && true) && ((bif bif decide (min a b < 0) then true else decide (max a b ≥ n) then true else (bif decide (min a b < 0) then true else decide (max a b ≥ n)) == false) && true && ((!(bif bif decide (min a b < 0) then true else decide (max a b ≥ n) then true else a == b) == false || true) && ((!(bif bif decide (min a b < 0) then true else decide (max a b ≥ n) then true else a == b) == false || (bif bif decide (min a b < 0) then true else decide (max a b ≥ n) then true else a == b) == false && true && true) && ((!(bif bif decide (min a b < 0) then true else decide (max a b ≥ n) then true else a == b) == false || (bif bif decide (min a b < 0) then true else decide (max a b ≥ n) then true else a == b) == false && true && true) && ((!((bif bif decide (min a b < 0) then true else decide (max a b ≥ n) then true else a == b) == false && decide (Int.ofNat i > 0) == true) || true) && ((!((bif bif decide (min a b < 0) then true else decide (max a b ≥ n) then true else a == b) == false && decide (Int.ofNat i > 0) == true) || true) && ((!((bif bif decide (min a b < 0) then true else decide (max a b ≥ n) then true else a == b) == false && decide (Int.ofNat i > 0) == true) || (bif bif decide (min a b < 0) then true else decide (max a b ≥ n) then true else a == b) == false && decide (Int.ofNat i > 0) == true && true && rng64 (Int.ofNat i - 1)) && ((!((bif bif decide (min a b < 0) then true else decide (max a b ≥ n) then true else a == b) == false && decide (Int.ofNat i > 0) == true) || (bif bif decide (min a b < 0) then true else decide (max a b ≥ n) then true else a == b) == false && decide (Int.ofNat i > 0) == true && ((bif bif decide (min a b < 0) then true else decide (max a b ≥ n) then true else a == b) == false && decide (Int.ofNat i > 0) == true && true) && (decide (0 ≤ Int.ofNat i - 1) && decide (Int.ofNat i - 1 < Int.ofNat m))) && ((!((bif bif decide (min a b < 0) then true else decide (max a b ≥ n) then true else a == b) == false && decide (Int.ofNat i > 0) == true) || (bif bif decide (min a b < 0) then true else decide (max a b ≥ n) then true else a == b) == false && decide (Int.ofNat i > 0) == true && true && true) && ((!((bif bif decide (min a b < 0) then true else decide (max a b ≥ n) then true else a == b) == false && decide (Int.ofNat i > 0) == true) || true) && ((!((bif bif decide (min a b < 0) then true else decide (max a b ≥ n) then true else a == b) == false && decide (Int.ofNat i > 0) == true) || (bif bif decide (min a b < 0) then true else decide (max a b ≥ n) then true else a == b) == false && decide (Int.ofNat i > 0) == true && ((bif bif decide (min a b < 0) then true else decide (max a b ≥ n) then true else a == b) == false && decide (Int.ofNat i > 0) == true && true) && (decide (((0 + (0 + (Int.ofNat i - 1).toNat) * 2).add 0).succ.succ ≤ q.length) && decide (2 ≤ Nat.succ 1))) && ((!((bif bif decide (min a b < 0) then true else decide (max a b ≥ n) then true else a == b) == false && decide (Int.ofNat i > 0) == true) || (bif bif decide (min a b < 0) then true else decide (max a b ≥ n) then true else a == b) == false && decide (Int.ofNat i > 0) == true && true && true) && ((!(bif bif decide (min a b < 0) then true else decide (max a b ≥ n) then true else a == b) == false || ((bif bif decide (min a b < 0) then true else decide (max a b ≥ n) then true else a == b) == false && bif decide (Int.ofNat i > 0) then (bif bif decide (min a b < 0) then true else decide (max a b ≥ n) then true else a == b) == false && decide (Int.ofNat i > 0) == true else true) && true) && ((bif bif bif decide (min a b < 0) then true else decide (max a b ≥ n) then true else a == b then true else (bif bif decide (min a b < 0) then true else decide (max a b ≥ n) then true else a == b) == false) && true && true)))))))))))))))))))))))))))) && true && ((bif bif bif decide (min a b < 0) then true else decide (max a b ≥ n) then true else a == b then true else bif decide (Int.ofNat i > 0) then decide (cmp2 ((List.take 2 (List.drop (0 + (0 + (Int.ofNat i - 1).toNat) * 2) q)).getD 0 0) ((List.take 2 (List.drop (0 + (0 + (Int.ofNat i - 1).toNat) * 2) q)).getD 1 0) a b ≥ 0) else false) && (decide (0 = 0) && (decide (0 = 0) && true && true && true) && true))) from by kernel_rfl)]
  cases h0 : decide (min a b < 0) with
  | true => simp
  | false =>
  cases h1 : decide (max a b ≥ n) with
  | true => simp
  | false =>
  cases h2 : (a == b) with
  | true => simp
  | false =>
    simp only [badD, h0, h1, h2, Bool.false_or] at hb
    cases i with
    | zero => simp [upB] at hb
    | succ j =>
      have e1 : (Int.ofNat (j + 1) - 1).toNat = j := by simp
      have e2 : Int.ofNat (j + 1) - 1 = (j : Int) := by simp
      have e3 : rng64 (j : Int) = true := by rw [rng64_eq]; simp; omega
      simp [upB, pa, pb, Nat.mul_comm 2] at hb
      simp [e1, e2, e3, cmp2_less]
      rw [ha, hbb]
      simp [pa, pb, Nat.mul_comm 2]
      exact ⟨by omega, hb⟩
def relS (f : Nat → Bool) (a b : Int) : Nat → Bool := fun j => bif j.beq (0 - ([] : List SV).length + (0 + a.toNat * 7 + b.toNat * 1)) then true else f j
theorem e59s {n : Int} {q : List Int} {m i : Nat} {f : Nat → Bool} {a b : Int} (h0 : 0 ≤ a) (h1 : a < 7) (h2 : 0 ≤ b) (h3 : b < 7) : Exec PP T none x59.nt 0 L59.b.b.a.i.b.b (E59 n q m f i a b) .n (S59 n q m (relS f a b) i) := by
  refine exec_orun env2 false 60 [] [0, 1, 2] (fun _ => rfl) (by kernel_rfl) (by kernel_rfl) (by kernel_rfl) ?_
  rw [(show obOf (orun g2 false 60 L59.b.b.a.i.b.b (E59 n q m f i a b) []) = (decide (0 ≤ 0) && decide (0 < 2) && (decide (0 ≤ 1) && decide (1 < 2) && (decide (0 ≤ a) && decide (a < 7) && (decide (0 ≤ b) && decide (b < 7) && (decide (0 + (0 + a.toNat * 7 + b.toNat * 1) < 49) && true && true && true)))) && true) from by kernel_rfl)]
  simp
  omega
def relF (q : List Int) : Nat → Nat → Bool
  | 0 => ff
  | i + 1 => relS (relF q i) (pa q i) (pb q i)
def badO (n : Int) (q : List Int) (i : Nat) : Bool := badD n q i (pa q i) (pb q i)
theorem badO_rng {n : Int} {q : List Int} {i : Nat} (hn : (decide (n < 1) || decide (n > 7)) = false) (hb : badO n q i = false) : (0 ≤ pa q i ∧ pa q i < 7) ∧ 0 ≤ pb q i ∧ pb q i < 7 := by
  simp [badO, badD] at hb hn
  omega
theorem s59 {n : Int} {q : List Int} {m i : Nat} (hn : (decide (n < 1) || decide (n > 7)) = false) (hq : q.length = m * 2) (hi : i < m) (hm : m ≤ 1000000000) (hb : badO n q i = false) : Exec PP T none x59.nt 0 L59 (S59 n q m (relF q i) i) .n (S59 n q m (relF q (i + 1)) (i + 1)) := by
  obtain ⟨⟨h0, h1⟩, h2, h3⟩ := badO_rng hn hb
  exact exec_seq (x := L59.a) (y := L59.b) e59a (exec_seq (x := L59.b.a) (y := L59.b.b) (e59b hi) (exec_seq (x := L59.b.b.a) (y := L59.b.b.b) (exec_block (id := 1) (x := L59.b.b.a.i) (e := .n) (exec_seq (x := L59.b.b.a.i.a) (y := L59.b.b.a.i.b) (e59r hq hi) (exec_seq (x := L59.b.b.a.i.b.a) (y := L59.b.b.a.i.b.b) (e59c hq hi hm rfl rfl hb) (e59s h0 h1 h2 h3)))) (e59d hm hi)))
theorem s59r {n : Int} {q : List Int} {m i : Nat} {f : Nat → Bool} (hq : q.length = m * 2) (hi : i < m) (hm : m ≤ 1000000000) (hb : badO n q i = true) : Exec PP T none x59.nt 0 L59 (S59 n q m f i) .r (Z59 f 30) := by
  exact exec_seq (x := L59.a) (y := L59.b) e59a (exec_seq (x := L59.b.a) (y := L59.b.b) (e59b hi) (exec_seq_x (x := L59.b.b.a) (y := L59.b.b.b) (exec_block (id := 1) (x := L59.b.b.a.i) (e := .r) (exec_seq (x := L59.b.b.a.i.a) (y := L59.b.b.a.i.b) (e59r hq hi) (exec_seq_x (x := L59.b.b.a.i.b.a) (y := L59.b.b.a.i.b.b) (e59e hq hi hm rfl rfl hb) (by simp)))) (by simp)))
theorem s59x {n : Int} {q : List Int} {m : Nat} {f : Nat → Bool} : Exec PP T none x59.nt 0 L59 (S59 n q m f m) (.x 0) (S59 n q m f m) :=
  exec_seq (x := L59.a) (y := L59.b) e59a (exec_seq_x (x := L59.b.a) (y := L59.b.b) e59x (by simp))
abbrev M59 (n : Int) (q : List Int) (m : Nat) : St := mkSt [(0, ⟨true, I n⟩), (1, sl0 m), (4, g1S 1), (5, ⟨true, I 0⟩)] [⟨true, .xvec .i64 2 q⟩, ⟨false, .row 70 [] 49 ff⟩] 2 []
abbrev M59' (n : Int) (q : List Int) (m : Nat) : St := mkSt [(0, ⟨true, I n⟩), (1, sl0 m), (4, g1S 1), (5, ⟨true, I 0⟩), (6, g1S 2)] (G59 q ff) 3 []
theorem a59 {n : Int} {q : List Int} {m : Nat} : Exec PP T none x59.nt 0 x59.body.a (startSt (A40 n m) (H1 q)) .n (M59 n q m) := by
  refine exec_orun env2 false 60 [] [0, 1] (fun _ => rfl) (by kernel_rfl) (by kernel_rfl) (by kernel_rfl) (by kernel_rfl)
theorem a59' {n : Int} {q : List Int} {m : Nat} : Exec PP T none x59.nt 0 x59.body.b.a (M59 n q m) .n (M59' n q m) := by
  refine exec_orun env2 false 60 [] [0, 1, 2] (fun _ => rfl) (by kernel_rfl) (by kernel_rfl) (by kernel_rfl) (by kernel_rfl)
theorem b59r {n : Int} {q : List Int} {m : Nat} (h : (decide (n < 1) || decide (n > 7)) = true) : Exec PP T none x59.nt 0 x59.body.b.b.a (M59' n q m) .r (Z59 ff 1) := by
  refine exec_orun env2 false 60 [true] [1] (fun _ => rfl) (by kernel_rfl) (by kernel_rfl) (by kernel_rfl) ?_
  rw [(show obOf (orun g2 false 60 x59.body.b.b.a (M59' n q m) [true]) = ((!decide (n < 1) == false || true) && ((!decide (n < 1) == false || decide (n < 1) == false && true && true) && ((bif decide (n < 1) then true else decide (n < 1) == false) && true && true)) && ((bif decide (n < 1) then true else decide (n > 7)) && (decide (0 = 0) && (decide (0 = 0) && true && true && true) && true))) from by kernel_rfl)]
  cases h0 : decide (n < 1) with
  | true => simp
  | false => rw [h0, Bool.false_or] at h; simp [h]
theorem b59 {n : Int} {q : List Int} {m : Nat} (h : (decide (n < 1) || decide (n > 7)) = false) : Exec PP T none x59.nt 0 x59.body.b.b.a (M59' n q m) .n (M59' n q m) := by
  refine exec_orun env2 false 60 [false] [0, 1, 2] (fun _ => rfl) (by kernel_rfl) (by kernel_rfl) (by kernel_rfl) ?_
  rw [(show obOf (orun g2 false 60 x59.body.b.b.a (M59' n q m) [false]) = ((!decide (n < 1) == false || true) && ((!decide (n < 1) == false || decide (n < 1) == false && true && true) && ((bif decide (n < 1) then true else decide (n < 1) == false) && true && true)) && ((!bif decide (n < 1) then true else decide (n > 7)) && true)) from by kernel_rfl)]
  rw [Bool.or_eq_false_iff] at h
  simp [h.1, h.2]
theorem c59i {n : Int} {q : List Int} {m : Nat} : Exec PP T none x59.nt 0 x59.body.b.b.b.a.a (M59' n q m) .n (S59 n q m ff 0) := by
  refine exec_orun env2 false 60 [] [0, 1, 2] (fun _ => rfl) (by kernel_rfl) (by kernel_rfl) (by kernel_rfl) (by kernel_rfl)
theorem d59 {n : Int} {q : List Int} {m : Nat} {f : Nat → Bool} (h : transB f = true) : Exec PP T none x59.nt 0 x59.body.b.b.b.b (S59 n q m f m) .r (Z59 f 0) := by
  refine exec_orun env4 false 60 [false] [1] (fun _ => rfl) (by kernel_rfl) (by kernel_rfl) (by kernel_rfl) ?_
  rw [(show obOf (orun g4 false 60 x59.body.b.b.b.b (S59 n q m f m) [false]) = (decide (0 = 0) && true && (!!transB f && true) && (decide (0 = 0) && (decide (0 = 0) && true && true && true) && true)) from by kernel_rfl)]
  simp [h]
theorem d59r {n : Int} {q : List Int} {m : Nat} {f : Nat → Bool} (h : transB f = false) : Exec PP T none x59.nt 0 x59.body.b.b.b.b (S59 n q m f m) .r (Z59 f 30) := by
  refine exec_orun env4 false 60 [true] [1] (fun _ => rfl) (by kernel_rfl) (by kernel_rfl) (by kernel_rfl) ?_
  rw [(show obOf (orun g4 false 60 x59.body.b.b.b.b (S59 n q m f m) [true]) = (decide (0 = 0) && true && (!transB f && (decide (0 = 0) && (decide (0 = 0) && true && true && true) && true))) from by kernel_rfl)]
  simp [h]
/-- where the pairs stop being good -/
def stopO (n : Int) (q : List Int) (m : Nat) : Nat := ((List.range m).find? (badO n q)).getD m
theorem find_first {f : Nat → Bool} {m p : Nat} (h1 : p < m) (h2 : f p = true) (h3 : ∀ i, i < p → f i = false) : ((List.range m).find? f).getD m = p := by
  rw [List.find?_range_eq_some (i := p) |>.2 ⟨h2, by simpa using h1, fun j hj => by simp [h3 j hj]⟩]
  rfl
theorem find_none {f : Nat → Bool} {m : Nat} (h3 : ∀ i, i < m → f i = false) : ((List.range m).find? f).getD m = m := by
  rw [List.find?_range_eq_none.2 fun j hj => by simp [h3 j hj]]
  rfl
def orderE (n : Int) (q : List Int) (m : Nat) : Int := bif decide (n < 1) || decide (n > 7) then 1 else bif (List.range m).any (badO n q) then 30 else bif transB (relF q m) then 0 else 30
def orderF (n : Int) (q : List Int) (m : Nat) : Nat → Bool := bif decide (n < 1) || decide (n > 7) then ff else relF q (stopO n q m)
theorem body59 {n : Int} {q : List Int} {m : Nat} (hq : q.length = m * 2) (hm : m ≤ 1000000000) : Exec PP T none x59.nt 0 x59.body (startSt (A40 n m) (H1 q)) .r (Z59 (orderF n q m) (orderE n q m)) := by
  refine exec_seq (x := x59.body.a) (y := x59.body.b) a59 (exec_seq (x := x59.body.b.a) (y := x59.body.b.b) a59' ?_)
  unfold orderF orderE
  cases h : (decide (n < 1) || decide (n > 7)) with
  | true => exact exec_seq_x (x := x59.body.b.b.a) (y := x59.body.b.b.b) (b59r h) (by simp)
  | false =>
    refine exec_seq (x := x59.body.b.b.a) (y := x59.body.b.b.b) (b59 h) ?_
    simp only [cond_false]
    cases hh : (List.range m).any (badO n q) with
    | true =>
      obtain ⟨p, h1, h2, h3⟩ := any_first _ _ hh
      unfold stopO
      rw [find_first h1 h2 h3]
      exact exec_seq_x (x := x59.body.b.b.b.a) (y := x59.body.b.b.b.b) (exec_seq (x := x59.body.b.b.b.a.a) (y := .block 0 (.loop L59)) c59i (exec_block (e := .r) (exec_loop_up (fun i => S59 n q m (relF q i) i) p (fun i hi => s59 h hq (by omega) hm (h3 i hi)) (s59r hq h1 hm h2) (by simp) 0 (by omega)))) (by simp)
    | false =>
      have h3 := any_none _ _ hh
      unfold stopO
      rw [find_none h3, cond_false]
      refine exec_seq (x := x59.body.b.b.b.a) (y := x59.body.b.b.b.b) (exec_seq (x := x59.body.b.b.b.a.a) (y := .block 0 (.loop L59)) c59i (exec_block (e := .x 0) (exec_loop_up (fun i => S59 n q m (relF q i) i) m (fun i hi => s59 h hq hi hm (h3 i hi)) s59x (by simp) 0 (by omega)))) ?_
      cases ht : transB (relF q m) with
      | true => exact d59 ht
      | false => exact d59r ht
/-- values that are read from a cell of one's own at the end -/
theorem shown_valH {P : Program} {T : Tab} {x : XFn} {m0 : MM} {hs : List HO} {args0 : List AV} {vals : List Value} {w : World} {val : TV} {base : Nat} {ts : List (Nat × Slot)} {hs' : List HO} {nx : Nat} {ex : XE} (hview : RoView (compC T) m0 hs w) (hargs : All2 (AR m0) args0 vals) (hlen : Nat.ble args0.length x.nt = true)
    (hrun : Exec P T none x.nt 0 x.body (startSt args0 hs) ex (mkSt ts hs' nx [])) (hex : ex ≠ .n → ex = .r) (hres : resV (mkSt ts hs' nx []).sl.get (mkSt ts hs' nx []).hp.get x.res = some (true, val)) (hids : val.ids = []) : Shown P T x m0 hs args0 vals w val [] base where
  view := hview
  args := hargs
  len := Nat.le_of_ble_eq_true hlen
  run := ⟨mkSt ts hs' nx [], ex, val, [], hrun, by by_cases h : ex = .n; exact .inl h; exact .inr (hex h), rfl, hres, rfl, fun j hj => (by rw [hids] at hj; cases hj), (TV.ren_id fun j hj => (by rw [hids] at hj; cases hj)).symm, rfl, fun k id h => (by simp at h)⟩
theorem intPairsH_ok {f : FuncId} {x : XFn} (hx : FunOK PP T f x) (k : Nat) (c : Int → List Int → Nat → Bool) (t : Int → List Int → Nat → List (Nat × Slot)) (hs' : Int → List Int → Nat → List HO) (nx : Nat) (v : Int → List Int → Nat → TV) (hlen : Nat.ble (k + 2) x.nt = true) (hb : ∀ n q m, q.length = m * 2 → m ≤ 1000000000 → c n q m = true → Exec PP T none x.nt 0 x.body (startSt (A40 n m ++ List.replicate k (.s .any)) (H1 q)) .r (mkSt (t n q m) (hs' n q m) nx []))
    (hres : ∀ n q m, resV (mkSt (t n q m) (hs' n q m) nx []).sl.get (mkSt (t n q m) (hs' n q m) nx []).hp.get x.res = some (true, v n q m)) (hids : ∀ n q m, (v n q m).ids = []) : SpecOK PP (compC T) f (pureS (intPairsX k c v)) := by
  refine spec_pure tokP hx fun ctx m h w args vals u rd base hH hargs hg => ?_
  unfold intPairsX at hg
  split at hg
  · rename_i n s rest
    cases hk : Nat.beq rest.length k with
    | false => rw [hk] at hg; cases hg
    | true =>
      rw [hk, cond_true] at hg
      have hk := Nat.eq_of_beq_eq_true hk
      subst hk
      split at hg
      · rename_i vc q m' rd' hs
        simp only [Option.some.injEq, Prod.mk.injEq, Bool.and_eq_true] at hg
        obtain ⟨⟨rfl, hm, hc⟩, rfl, rfl⟩ := hg
        match vals, hargs with
        | v1 :: v2 :: vr, ⟨ha1, ha2, har⟩ =>
          obtain ⟨mb, k1, k2, k3, k4⟩ := view_slice hH ha2 hs
          have hall : All2 (AR (mm1 mb)) (.s (.int .i64 n) :: .s (.sl 0 0 2 m') :: List.replicate rest.length (.s .any)) (v1 :: v2 :: vr) := ⟨ha1, k3 (mm1 mb) 0 rfl, all2_any har⟩
          exact ⟨mm1 mb, H1 q, A40 n m' ++ List.replicate rest.length (.s .any), shown_valH (ro1 k1 k2) hall (by simpa using hlen) (hb n q m' k4 (by simpa [bndL] using hm) hc) (fun _ => rfl) (hres n q m') (hids n q m')⟩
      · cases hg
  · cases hg
abbrev orderR (n : Int) (q : List Int) (m : Nat) : TV := .tup [.pb [] 49 (orderF n q m), .s (.int .i64 (orderE n q m))]
def anyC (_ : Int) (_ : List Int) (_ : Nat) : Bool := true
theorem ok59 : SpecOK PP (compC T) 59 (pureS (intPairsX 0 anyC orderR)) :=
  intPairsH_ok o59 0 anyC (fun n q m => [(4, g1S 0), (5, ⟨true, I (orderE n q m)⟩)]) (fun n q m => [⟨false, .row 70 [] 49 (orderF n q m)⟩]) 1 _ (by kernel_rfl) (fun n q m hq hm _ => body59 hq hm) (fun n q m => by kernel_rfl) (fun n q m => by kernel_rfl)
end Go.Proofs.Yteekkjfjpoaihaa.Eng
namespace Go.Proofs.Yteekkjfjpoaihaa.Eng
open Go Go.Proofs
theorem body60 : Exec PP T none x60.nt 0 x60.body (startSt [] []) .r (mkSt [(0, g1S 0)] [⟨false, .row 70 [] 49 ff⟩] 1 []) := by
  refine exec_orun env0 false 60 [] [0] (fun _ => rfl) (by kernel_rfl) (by kernel_rfl) (by kernel_rfl) (by kernel_rfl)
def gNone (args : List AV) (_ : Nat → Option HO) : Option (Bool × TV × List Nat) := match args with
  | [] => some (true, .av (.pb [] 49 ff), [])
  | _ => none
theorem gNone_fp : PureFp gNone := fun args h h' q hg hf => hg
theorem ok60 : SpecOK PP (compC T) 60 (pureS gNone) := by
  refine spec_pure tokP o60 fun ctx m h w args vals v rd base hH hargs hg => ?_
  unfold gNone at hg
  split at hg
  · simp only [Option.some.injEq, Prod.mk.injEq] at hg
    obtain ⟨_, rfl, rfl⟩ := hg
    match vals, hargs with
    | [], _ => exact ⟨emV, [], [], shown_valH (ts := [(0, g1S 0)]) (hs' := [⟨false, .row 70 [] 49 ff⟩]) (nx := 1) ro0 trivial (by kernel_rfl) body60 (fun _ => rfl) (by kernel_rfl) (by kernel_rfl)⟩
  · cases hg
def L5 : List (Nat × Spec) := (60, pureS gNone) :: (59, pureS (intPairsX 0 anyC orderR)) :: L4
theorem L5_ok : SpecsL L5 := specsL_cons ok60 (pureS_fp gNone_fp) o60 (specsL_cons ok59 (pureS_fp (intPairsX_fp _ _ _)) o59 L4_ok)
/-- where it does not -/
def L5g : List (Nat × Spec) := (48, spOpen) :: L5
theorem L5g_ok : SpecsL L5g := specsL_cons ok48 spOpen_fp o48 L5_ok
noncomputable abbrev g5g : Cal → Option Spec := specsΓ L5g
theorem env5g : EnvOK PP T g5g := envL L5g_ok
theorem tk0 {q : List Int} {m : Nat} (hq : q.length = m * 2) : List.take (m * 2) q = q := by
  rw [← hq]; exact List.take_length
theorem tk {q : List Int} {m : Nat} (hq : q.length = m * 2) : List.take (m * 2) (List.drop 0 q) = q := by
  rw [List.drop_zero, ← hq]; exact List.take_length
abbrev M12 (n : Int) (q : List Int) (m : Nat) (f : Nat → Bool) (e : Int) : St := mkSt [(0, ⟨true, I n⟩), (1, sl0 m), (4, ⟨true, .av (.s .nils)⟩), (5, ⟨true, I 0⟩), (6, g1S 1), (7, ⟨true, I e⟩)] [⟨true, .xvec .i64 2 q⟩, ⟨false, .row 70 [] 49 f⟩] 2 []
theorem a12 {n : Int} {q : List Int} {m : Nat} : Exec PP T none x12.nt 0 x12.body.a (startSt (A40 n m) (H1 q)) .n (mkSt [(0, ⟨true, I n⟩), (1, sl0 m), (4, ⟨true, .av (.s .nils)⟩), (5, ⟨true, I 0⟩)] (H1 q) 1 []) := by
  refine exec_orun env5g false 90 [] [0] (fun _ => rfl) (by kernel_rfl) (by kernel_rfl) (by kernel_rfl) (by kernel_rfl)
theorem b12 {n : Int} {q : List Int} {m : Nat} (hq : q.length = m * 2) (hm : m ≤ 1000000000) : Exec PP T none x12.nt 0 x12.body.b.a (mkSt [(0, ⟨true, I n⟩), (1, sl0 m), (4, ⟨true, .av (.s .nils)⟩), (5, ⟨true, I 0⟩)] (H1 q) 1 []) .n (M12 n q m (orderF n q m) (orderE n q m)) := by
  have key : Exec PP T none x12.nt 0 x12.body.b.a (mkSt [(0, ⟨true, I n⟩), (1, sl0 m), (4, ⟨true, .av (.s .nils)⟩), (5, ⟨true, I 0⟩)] (H1 q) 1 []) .n (M12 n q m (orderF n (List.take (m * 2) (List.drop 0 q)) m) (orderE n (List.take (m * 2) (List.drop 0 q)) m)) := by
    refine exec_orun env5g false 90 [] [0, 9] (fun _ => rfl) (by kernel_rfl) (by kernel_rfl) (by kernel_rfl) ?_
    rw [(show obOf (orun g5g false 90 x12.body.b.a (mkSt [(0, ⟨true, I n⟩), (1, sl0 m), (4, ⟨true, .av (.s .nils)⟩), (5, ⟨true, I 0⟩)] (H1 q) 1 []) []) = (decide ((0 + m) * 2 ≤ q.length) && (decide (m ≤ 1000000000) && true) && (decide (0 = 0) && true && true && true)) from by kernel_rfl)]
    simp [hq, hm]
  rw [tk hq] at key
  exact key
theorem eb13 {n : Int} {q : List Int} {m : Nat} (hq : q.length = m * 2) (hm : m ≤ 1000000000) (hc : anyC n q m = true) : Exec PP T none x13.nt 0 x13.body (startSt (A40 n m ++ List.replicate 0 (.s .any)) (H1 q)) .r (mkSt [(4, ⟨true, I (orderE n q m)⟩)] [] 0 []) := by
  have key : Exec PP T none x13.nt 0 x13.body (startSt (A40 n m ++ List.replicate 0 (.s .any)) (H1 q)) .r (mkSt [(4, ⟨true, I (orderE n (List.take (m * 2) (List.drop 0 q)) m)⟩)] [] 0 []) := by
    refine exec_orun env5g false 90 [] [] (fun _ => rfl) (by kernel_rfl) (by kernel_rfl) (by kernel_rfl) ?_
    rw [(show obOf (orun g5g false 90 x13.body (startSt (A40 n m ++ List.replicate 0 (.s .any)) (H1 q)) []) = (decide ((0 + m) * 2 ≤ q.length) && (decide (m ≤ 1000000000) && true) && (decide (0 = 0) && true && true && true) && true) from by kernel_rfl)]
    try rw [tk0 hq]
    simp only [anyC] at hc
    try simp at hc
    simp [anyC, bndL, hq, hm, hc]
  rw [tk hq] at key
  exact key
theorem ok13e : SpecOK PP (compC T) 13 (pureS (intPairsX 0 anyC fun n q m => I (orderE n q m))) :=
  intPairsH_ok o13 0 anyC (fun n q m => [(4, ⟨true, I (orderE n q m)⟩)]) (fun n q m => []) 0 _ (by kernel_rfl) (fun n q m hq hm hc => eb13 hq hm hc) (fun n q m => by kernel_rfl) (fun n q m => by kernel_rfl)
end Go.Proofs.Yteekkjfjpoaihaa.Eng
namespace Go.Proofs.Yteekkjfjpoaihaa.Eng
open Go Go.Proofs
theorem specX_lit {f : FuncId} {k : Nat} {c c' : Int → List Int → Nat → Bool} {v v' : Int → List Int → Nat → TV} (h : SpecOK PP (compC T) f (pureS (intPairsX k c v))) (hc : ∀ n q m, c' n q m = true → c n q m = true ∧ v n q m = v' n q m) : SpecOK PP (compC T) f (pureS (intPairsX k c' v')) := by
  intro ctx m hh w args vals base e hH hargs hfr hup hr hvc
  simp only [pureS, intPairsX] at hr
  have h := h ctx m hh w args vals base
  simp only [pureS, intPairsX] at h
  split at hr
  case h_2 => cases hr
  rename_i vc u rd hq
  cases hr
  simp only at hvc
  subst hvc
  split at hq
  case h_2 => cases hq
  rename_i n s rest
  cases hk : Nat.beq rest.length k with
  | false => rw [hk] at hq; cases hq
  | true =>
    simp only [hk, cond_true] at hq h
    split at hq
    case h_2 => cases hq
    rename_i vc q m' rd' hs
    simp only [Option.some.injEq, Prod.mk.injEq, Bool.and_eq_true] at hq
    obtain ⟨⟨rfl, hm, hcc⟩, rfl, rfl⟩ := hq
    obtain ⟨h1, h2⟩ := hc n q m' hcc
    simp only [hs] at h
    have := h ⟨true && (bndL m' && c n q m'), v n q m', [], [], some rd'⟩ hH hargs hfr hup rfl (by simp [hm, h1])
    simp only [h2] at this
    exact this
def oW (e : Int) (n : Int) (q : List Int) (m : Nat) : Bool := orderE n q m == e
def gAwake (args : List AV) (_ : Nat → Option HO) : Option (Bool × TV × List Nat) := match args with
  | [] => some (true, B true, [])
  | _ => none
theorem gAwake_fp : PureFp gAwake := fun args h h' q hg hf => hg
end Go.Proofs.Yteekkjfjpoaihaa.Eng
namespace Go.Proofs.Yteekkjfjpoaihaa.Eng
open Go Go.Proofs
theorem pairAt_eq (q : List Int) (i : Nat) (a b : Int) : pairAt q i a b = (pa q i == a && pb q i == b) := rfl
theorem hasP_succ (q : List Int) (m : Nat) (a b : Int) : hasP q (m + 1) a b = (hasP q m a b || pairAt q m a b) := by
  unfold hasP
  rw [List.range_succ, List.any_append]
  simp
theorem hasP_iff (q : List Int) (m : Nat) (a b : Int) : hasP q m a b = true ↔ ∃ i, i < m ∧ pa q i = a ∧ pb q i = b := by
  unfold hasP
  simp only [List.any_eq_true, List.mem_range, pairAt_eq, Bool.and_eq_true, beq_iff_eq]
theorem at7_relS {f : Nat → Bool} {a b : Int} {x y : Nat} (ha : 0 ≤ a ∧ a < 7) (hb : 0 ≤ b ∧ b < 7) (hx : x < 7) (hy : y < 7) : at7 (relS f a b) x y = (at7 f x y || (a == (x : Int) && b == (y : Int))) := by
  unfold at7 relS
  simp only [List.length_nil]
  by_cases h : a = (x : Int) ∧ b = (y : Int)
  · obtain ⟨rfl, rfl⟩ := h
    rw [beqT (by simp)]
    simp
  · rw [beqF (by omega)]
    have : (a == (x : Int) && b == (y : Int)) = false := by
      cases hh : (a == (x : Int) && b == (y : Int)) with
      | false => rfl
      | true => simp at hh; exact absurd hh h
    rw [this, cond_false, Bool.or_false]
theorem relF_at {n : Int} {q : List Int} (hn : (decide (n < 1) || decide (n > 7)) = false) : ∀ {m : Nat}, (∀ i, i < m → badO n q i = false) → ∀ {x y : Nat}, x < 7 → y < 7 → at7 (relF q m) x y = hasP q m x y
  | 0, _, x, y, hx, hy => rfl
  | m + 1, h, x, y, hx, hy => by
    obtain ⟨h1, h2⟩ := badO_rng hn (h m (by omega))
    show at7 (relS (relF q m) (pa q m) (pb q m)) x y = _
    rw [at7_relS h1 h2 hx hy, hasP_succ, pairAt_eq, relF_at hn (fun i hi => h i (by omega)) hx hy]
end Go.Proofs.Yteekkjfjpoaihaa.Eng
namespace Go.Proofs.Yteekkjfjpoaihaa.Eng
open Go Go.Proofs
theorem nodup_range (k : Nat) : nodupB (List.range k) = true := by
  have key : ∀ l : List Nat, l.Nodup → nodupB l = true := by
    intro l
    induction l with
    | nil => intro _; rfl
    | cons a l ih =>
      intro h
      obtain ⟨h1, h2⟩ := List.nodup_cons.1 h
      simp only [nodupB, Bool.and_eq_true, Bool.not_eq_true', ih h2, and_true]
      cases hh : l.any (Nat.beq a) with
      | false => rfl
      | true => exact absurd (any_beq.1 hh) h1
  exact key _ List.nodup_range
section
variable {P : Program} {T : Tab}
/-- .. where rounds have left lists of what is deferred -/
theorem shown_newsD {x : XFn} {m0 : MM} {hs : List HO} {args0 : List AV} {vals : List Value} {w : World} {tv : TV} {base : Nat} {ts : List (Nat × Slot)} {hs' news : List HO} {nx : Nat} {df : List Nat} {ex : XE} (hview : RoView (compC T) m0 hs w) (hargs : All2 (AR m0) args0 vals) (hlen : Nat.ble args0.length x.nt = true)
    (hrun : Exec P T none x.nt 0 x.body (startSt args0 hs) ex (mkSt ts hs' nx df)) (hex : ex ≠ .n → ex = .r) (hd : dfOk (mkSt ts hs' nx df).hp.get df = true) (hres : resV (mkSt ts hs' nx df).sl.get (leaveH (mkSt ts hs' nx df).hp.get df) x.res = some (true, tv))
    (hids : tv.ids.all (fun j => Nat.blt j news.length) = true) (hch : (List.range news.length).map (leaveH (mkSt ts hs' nx df).hp.get df) = news.map some) (ho : news.all (fun ho => !ho.ro && ho.live && !ho.o.isLoop && ho.o.ids.all fun j => Nat.blt j news.length) = true) :
    Shown P T x m0 hs args0 vals w (tv.ren (renN (List.range news.length) base)) (news.map fun ho => ho.ren (renN (List.range news.length) base)) base where
  view := hview
  args := hargs
  len := Nat.le_of_ble_eq_true hlen
  run := ⟨mkSt ts hs' nx df, ex, tv, List.range news.length, hrun, by by_cases h : ex = .n; exact .inl h; exact .inr (hex h), hd, hres, nodup_range _,
    fun j hj => List.mem_range.2 (Nat.le_of_ble_eq_true (List.all_eq_true.1 hids j hj)), rfl, by simp, fun k id h => by
      have hk : k < news.length := by
        have := (List.getElem?_eq_some_iff.1 h).1
        simpa using this
      rw [List.getElem?_range hk] at h
      cases h
      have hin := List.all_eq_true.1 ho news[k] (List.getElem_mem _)
      simp only [Bool.and_eq_true, Bool.not_eq_true'] at hin
      refine ⟨news[k], ?_, hin.1.1.1, hin.1.1.2, hin.1.2, fun j hj => List.mem_range.2 (Nat.le_of_ble_eq_true (List.all_eq_true.1 hin.2 j hj)), ?_⟩
      · have := congrArg (fun l => l[k]?) hch
        simp only [List.getElem?_map, List.getElem?_range hk, List.getElem?_eq_getElem hk, Option.map_some, Option.some.injEq] at this
        exact this
      · simp [hk]⟩
end
/-- a graph, or another row, as one that is only read -/
theorem view_row {cmp : Cmp} {ctx : Ctx} {m : MM} {h : Nat → Option HO} {w : World} {id : Nat} {v : Value} {ro : Bool} {ty : TypeId} {n : Int} {k : Nat} {f g : Nat → Bool} (hH : HRel cmp ctx m h w) (hv : AR m (.s (.ptr id 0 0)) v) (hs : h id = some ⟨ro, .row ty [.int .i64 n] k f⟩) (hfg : eqB k f g = true) :
    ∃ mb : MB, (∀ m', OR cmp m' mb (.row ty [.int .i64 n] k g) w) ∧ (∀ b, mb.b = some b → b < w.heap.size) ∧ (∀ (m' : MM) id', m' id' = some mb → SR m' (.ptr id' 0 0) v) := by
  obtain ⟨mb, b, hm, hb, rfl⟩ := hv
  obtain ⟨mb', h1, h2, h3, _⟩ := hH.obj id _ hs
  rw [hm] at h1
  cases h1
  refine ⟨mb, fun m' => ?_, fun b' hb' => h3 rfl b' hb', fun m' id' hm' => ⟨mb, b, hm', hb, rfl⟩⟩
  obtain ⟨b', cs, e1, e2, e3, vs, e4, e5, e6⟩ := h2
  refine ⟨b', cs, e1, e2, e3, vs, ?_, e5, by rw [e6, eqB_cells hfg]⟩
  match vs, e4 with
  | [u], ⟨hu, _⟩ => exact ⟨hu, trivial⟩
/-- the runner with no calls but in place -/
def none0 : FuncId → Option Spec := fun _ => none
theorem none0_ok : SpecsOK PP T none0 := ⟨fun _ _ h => (by cases h), fun _ _ h => (by cases h), fun _ _ h => (by cases h)⟩
noncomputable abbrev gA : Cal → Option Spec := gam F none0 200 6
theorem envA : EnvOK PP T gA := gam_ok tokP eqokP mixP F_ok none0_ok 200 6
def bitF (k : Nat) : Nat → Bool := fun j => Nat.testBit k j
abbrev HR (k : Nat) (n : Int) : List HO := [⟨true, .row 115 [.int .i64 n] 49 (bitF k)⟩]
end Go.Proofs.Yteekkjfjpoaihaa.Eng

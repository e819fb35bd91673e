/- A part of the proof of ordersOrders_holds. -/
import Derived.Test.YteekkjfjpoaihaaOo06
set_option linter.all false
namespace Go.Proofs.Yteekkjfjpoaihaa.Eng
open Go Go.Proofs
def L51 : XC := x51.body.b.a.b.i.i
def M51 : XC := L51.b.b.a.i.b.b.i.i
def N51 : XC := M51.b.b.a.i.b.b.b.b.i.i
abbrev G51 (f : Nat → Bool) : List HO := [⟨false, .row 70 [] 49 f⟩]
abbrev S51 (f : Nat → Bool) (a : Nat) : St := mkSt [(1, g1S 0), (6, ⟨true, I a⟩)] (G51 f) 1 []
abbrev P51 (f : Nat → Bool) (a : Nat) : St := mkSt [(1, g1S 0), (6, ⟨true, I a⟩), (7, ⟨true, B (decide (Int.ofNat a < 7))⟩)] (G51 f) 1 []
abbrev U51 (f : Nat → Bool) (a b : Nat) : St := mkSt [(1, g1S 0), (3, ⟨true, I a⟩), (6, ⟨true, I a⟩), (9, ⟨true, I b⟩)] (G51 f) 1 []
abbrev Q51 (f : Nat → Bool) (a b : Nat) : St := mkSt [(1, g1S 0), (3, ⟨true, I a⟩), (6, ⟨true, I a⟩), (9, ⟨true, I b⟩), (10, ⟨true, B (decide (Int.ofNat b < 7))⟩)] (G51 f) 1 []
abbrev W51 (f : Nat → Bool) (a b : Nat) : St := mkSt [(1, g1S 0), (3, ⟨true, I a⟩), (4, ⟨true, I b⟩), (6, ⟨true, I a⟩), (9, ⟨true, I b⟩)] (G51 f) 1 []
abbrev V51 (f : Nat → Bool) (a b c : Nat) : St := mkSt [(1, g1S 0), (3, ⟨true, I a⟩), (4, ⟨true, I b⟩), (6, ⟨true, I a⟩), (9, ⟨true, I b⟩), (23, ⟨true, I c⟩)] (G51 f) 1 []
theorem a51 {f : Nat → Bool} : Exec PP T none x51.nt 0 x51.body.a (startSt [.pb [] 49 f] []) .n (mkSt [(1, g1S 0)] (G51 f) 1 []) := by
  refine exec_orun env0 false 60 [] [0] (fun _ => rfl) (by kernel_rfl) (by kernel_rfl) (by kernel_rfl) (by kernel_rfl)
theorem b51 {f : Nat → Bool} : Exec PP T none x51.nt 0 x51.body.b.a.a (mkSt [(1, g1S 0)] (G51 f) 1 []) .n (S51 f 0) := by
  refine exec_orun env0 false 60 [] [0] (fun _ => rfl) (by kernel_rfl) (by kernel_rfl) (by kernel_rfl) (by kernel_rfl)
theorem d51 {f : Nat → Bool} : Exec PP T none x51.nt 0 x51.body.b.b (S51 f 7) .r (RB 2 true) := by
  refine exec_orun env0 false 60 [] [] (fun _ => rfl) (by kernel_rfl) (by kernel_rfl) (by kernel_rfl) (by kernel_rfl)
theorem l51a {f : Nat → Bool} {a : Nat} : Exec PP T none x51.nt 0 L51.a (S51 f a) .n (P51 f a) := by
  refine exec_orun env0 false 60 [] [0] (fun _ => rfl) (by kernel_rfl) (by kernel_rfl) (by kernel_rfl) (by kernel_rfl)
theorem l51b {f : Nat → Bool} {a : Nat} (h : a < 7) : Exec PP T none x51.nt 0 L51.b.a (P51 f a) .n (S51 f a) := by
  refine exec_orun env0 false 60 [true] [0] (fun _ => rfl) (by kernel_rfl) (by kernel_rfl) (by kernel_rfl) ?_
  rw [(show obOf (orun g0 false 60 L51.b.a (P51 f a) [true]) = (decide (Int.ofNat a < 7) && true) from by kernel_rfl)]
  simp
  omega
theorem l51x {f : Nat → Bool} : Exec PP T none x51.nt 0 L51.b.a (P51 f 7) (.x 0) (S51 f 7) := by
  refine exec_orun env0 false 60 [false] [0] (fun _ => rfl) (by kernel_rfl) (by kernel_rfl) (by kernel_rfl) (by kernel_rfl)
theorem l51c {f : Nat → Bool} {a : Nat} : Exec PP T none x51.nt 0 L51.b.b.a.i.a (S51 f a) .n (mkSt [(1, g1S 0), (3, ⟨true, I a⟩), (6, ⟨true, I a⟩)] (G51 f) 1 []) := by
  refine exec_orun env0 false 60 [] [0] (fun _ => rfl) (by kernel_rfl) (by kernel_rfl) (by kernel_rfl) (by kernel_rfl)
theorem l51d {f : Nat → Bool} {a : Nat} : Exec PP T none x51.nt 0 L51.b.b.a.i.b.a (mkSt [(1, g1S 0), (3, ⟨true, I a⟩), (6, ⟨true, I a⟩)] (G51 f) 1 []) .n (U51 f a 0) := by
  refine exec_orun env0 false 60 [] [0] (fun _ => rfl) (by kernel_rfl) (by kernel_rfl) (by kernel_rfl) (by kernel_rfl)
theorem l51e {f : Nat → Bool} {a b : Nat} (h : a < 7) : Exec PP T none x51.nt 0 L51.b.b.b (U51 f a b) .n (S51 f (a + 1)) := by
  refine exec_orun env0 false 60 [] [0] (fun _ => rfl) (by kernel_rfl) (by kernel_rfl) (by kernel_rfl) ?_
  rw [(show obOf (orun g0 false 60 L51.b.b.b (U51 f a b) []) = (rng64 (Int.ofNat a.succ) && true) from by kernel_rfl)]
  simp [rng64]
  omega
theorem m51a {f : Nat → Bool} {a b : Nat} : Exec PP T none x51.nt 0 M51.a (U51 f a b) .n (Q51 f a b) := by
  refine exec_orun env0 false 60 [] [0] (fun _ => rfl) (by kernel_rfl) (by kernel_rfl) (by kernel_rfl) (by kernel_rfl)
theorem m51b {f : Nat → Bool} {a b : Nat} (h : b < 7) : Exec PP T none x51.nt 0 M51.b.a (Q51 f a b) .n (U51 f a b) := by
  refine exec_orun env0 false 60 [true] [0] (fun _ => rfl) (by kernel_rfl) (by kernel_rfl) (by kernel_rfl) ?_
  rw [(show obOf (orun g0 false 60 M51.b.a (Q51 f a b) [true]) = (decide (Int.ofNat b < 7) && true) from by kernel_rfl)]
  simp
  omega
theorem m51x {f : Nat → Bool} {a : Nat} : Exec PP T none x51.nt 0 M51.b.a (Q51 f a 7) (.x 2) (U51 f a 7) := by
  refine exec_orun env0 false 60 [false] [0] (fun _ => rfl) (by kernel_rfl) (by kernel_rfl) (by kernel_rfl) (by kernel_rfl)
theorem m51e {f : Nat → Bool} {a b : Nat} (h : b < 7) : Exec PP T none x51.nt 0 M51.b.b.b (U51 f a b) .n (U51 f a (b + 1)) := by
  refine exec_orun env0 false 60 [] [0] (fun _ => rfl) (by kernel_rfl) (by kernel_rfl) (by kernel_rfl) ?_
  rw [(show obOf (orun g0 false 60 M51.b.b.b (U51 f a b) []) = (rng64 (Int.ofNat b.succ) && true) from by kernel_rfl)]
  simp [rng64]
  omega
theorem y51a {f : Nat → Bool} {a b : Nat} : Exec PP T none x51.nt 0 M51.b.b.a.i.a (U51 f a b) .n (W51 f a b) := by
  refine exec_orun env0 false 60 [] [0] (fun _ => rfl) (by kernel_rfl) (by kernel_rfl) (by kernel_rfl) (by kernel_rfl)
def at7 (f : Nat → Bool) (a b : Nat) : Bool := f (a * 7 + b)
theorem y51b {f : Nat → Bool} {a b : Nat} (ha : a < 7) (hb : b < 7) (h : at7 f a b = true) : Exec PP T none x51.nt 0 M51.b.b.a.i.b.a (W51 f a b) .n (W51 f a b) := by
  refine exec_orun env0 false 60 [false] [0] (fun _ => rfl) (by kernel_rfl) (by kernel_rfl) (by kernel_rfl) ?_
  rw [(show obOf (orun g0 false 60 M51.b.b.a.i.b.a (W51 f a b) [false]) = (decide (0 ≤ Int.ofNat a) && decide (Int.ofNat a < 7) && (decide (0 ≤ Int.ofNat b) && decide (Int.ofNat b < 7) && (decide (0 + (0 + a * 7 + b * 1) < 49) && true)) && (!!f (0 + (0 + a * 7 + b * 1)) && true)) from by kernel_rfl)]
  unfold at7 at h
  simp [h]
  omega
theorem y51x {f : Nat → Bool} {a b : Nat} (ha : a < 7) (hb : b < 7) (h : at7 f a b = false) : Exec PP T none x51.nt 0 M51.b.b.a.i.b.a (W51 f a b) (.x 3) (U51 f a b) := by
  refine exec_orun env0 false 60 [true] [0] (fun _ => rfl) (by kernel_rfl) (by kernel_rfl) (by kernel_rfl) ?_
  rw [(show obOf (orun g0 false 60 M51.b.b.a.i.b.a (W51 f a b) [true]) = (decide (0 ≤ Int.ofNat a) && decide (Int.ofNat a < 7) && (decide (0 ≤ Int.ofNat b) && decide (Int.ofNat b < 7) && (decide (0 + (0 + a * 7 + b * 1) < 49) && true)) && (!f (0 + (0 + a * 7 + b * 1)) && true)) from by kernel_rfl)]
  unfold at7 at h
  simp [h]
  omega
theorem y51c {f : Nat → Bool} {a b : Nat} (ha : a < 7) (hb : b < 7) (h : at7 f b a = false) : Exec PP T none x51.nt 0 M51.b.b.a.i.b.b.a (W51 f a b) .n (W51 f a b) := by
  refine exec_orun env0 false 60 [false] [0] (fun _ => rfl) (by kernel_rfl) (by kernel_rfl) (by kernel_rfl) ?_
  rw [(show obOf (orun g0 false 60 M51.b.b.a.i.b.b.a (W51 f a b) [false]) = (decide (0 ≤ Int.ofNat b) && decide (Int.ofNat b < 7) && (decide (0 ≤ Int.ofNat a) && decide (Int.ofNat a < 7) && (decide (0 + (0 + b * 7 + a * 1) < 49) && true)) && (!f (0 + (0 + b * 7 + a * 1)) && true)) from by kernel_rfl)]
  unfold at7 at h
  simp [h]
  omega
theorem y51r {f : Nat → Bool} {a b : Nat} (ha : a < 7) (hb : b < 7) (h : at7 f b a = true) : Exec PP T none x51.nt 0 M51.b.b.a.i.b.b.a (W51 f a b) .r (RB 2 false) := by
  refine exec_orun env0 false 60 [true] [] (fun _ => rfl) (by kernel_rfl) (by kernel_rfl) (by kernel_rfl) ?_
  rw [(show obOf (orun g0 false 60 M51.b.b.a.i.b.b.a (W51 f a b) [true]) = (decide (0 ≤ Int.ofNat b) && decide (Int.ofNat b < 7) && (decide (0 ≤ Int.ofNat a) && decide (Int.ofNat a < 7) && (decide (0 + (0 + b * 7 + a * 1) < 49) && true)) && (f (0 + (0 + b * 7 + a * 1)) && true)) from by kernel_rfl)]
  unfold at7 at h
  simp [h]
  omega
theorem y51d {f : Nat → Bool} {a b : Nat} : Exec PP T none x51.nt 0 M51.b.b.a.i.b.b.b.a (W51 f a b) .n (V51 f a b 0) := by
  refine exec_orun env0 false 60 [] [0] (fun _ => rfl) (by kernel_rfl) (by kernel_rfl) (by kernel_rfl) (by kernel_rfl)
def bc51 (f : Nat → Bool) (a b c : Nat) : Bool := at7 f b c && !(at7 f a c)
theorem n51 {f : Nat → Bool} {a b c : Nat} (ha : a < 7) (hb : b < 7) (hc : c < 7) (h : bc51 f a b c = false) : Exec PP T none x51.nt 0 N51 (V51 f a b c) .n (V51 f a b (c + 1)) := by
  refine exec_orun env0 false 60 [true, false] [0] (fun _ => rfl) (by kernel_rfl) (by kernel_rfl) (by kernel_rfl) ?_
  rw [(show obOf (orun g0 false 60 N51 (V51 f a b c) [true, false]) = (decide (Int.ofNat c < 7) && true && (decide (0 ≤ Int.ofNat b) && decide (Int.ofNat b < 7) && (decide (0 ≤ Int.ofNat c) && decide (Int.ofNat c < 7) && (decide (0 + (0 + b * 7 + c * 1) < 49) && ((!f (0 + (0 + b * 7 + c * 1)) == true || true) && ((!f (0 + (0 + b * 7 + c * 1)) == true || true) && ((!f (0 + (0 + b * 7 + c * 1)) == true || f (0 + (0 + b * 7 + c * 1)) == true && true && (decide (0 ≤ Int.ofNat a) && decide (Int.ofNat a < 7))) && ((!f (0 + (0 + b * 7 + c * 1)) == true || f (0 + (0 + b * 7 + c * 1)) == true && (f (0 + (0 + b * 7 + c * 1)) == true && true) && (decide (0 ≤ Int.ofNat c) && decide (Int.ofNat c < 7))) && ((!f (0 + (0 + b * 7 + c * 1)) == true || f (0 + (0 + b * 7 + c * 1)) == true && true && decide (0 + (0 + a * 7 + c * 1) < 49)) && ((!f (0 + (0 + b * 7 + c * 1)) == true || f (0 + (0 + b * 7 + c * 1)) == true && true && true) && ((bif f (0 + (0 + b * 7 + c * 1)) then f (0 + (0 + b * 7 + c * 1)) == true else true) && true && true))))))))) && ((!bif f (0 + (0 + b * 7 + c * 1)) then !f (0 + (0 + a * 7 + c * 1)) else false) && true) && (rng64 (Int.ofNat c.succ) && true))) from by kernel_rfl)]
  unfold bc51 at7 at h
  have e3 : rng64 ((c : Int) + 1) = true := by rw [rng64_eq]; simp; omega
  cases h1 : f (b * 7 + c) with
  | false => simp [h1, e3]; omega
  | true => simp [h1] at h; simp [h1, h, e3]; omega
theorem n51r {f : Nat → Bool} {a b c : Nat} (ha : a < 7) (hb : b < 7) (hc : c < 7) (h : bc51 f a b c = true) : Exec PP T none x51.nt 0 N51 (V51 f a b c) .r (RB 2 false) := by
  refine exec_orun env0 false 60 [true, true] [] (fun _ => rfl) (by kernel_rfl) (by kernel_rfl) (by kernel_rfl) ?_
  rw [(show obOf (orun g0 false 60 N51 (V51 f a b c) [true, true]) = (decide (Int.ofNat c < 7) && true && (decide (0 ≤ Int.ofNat b) && decide (Int.ofNat b < 7) && (decide (0 ≤ Int.ofNat c) && decide (Int.ofNat c < 7) && (decide (0 + (0 + b * 7 + c * 1) < 49) && ((!f (0 + (0 + b * 7 + c * 1)) == true || true) && ((!f (0 + (0 + b * 7 + c * 1)) == true || true) && ((!f (0 + (0 + b * 7 + c * 1)) == true || f (0 + (0 + b * 7 + c * 1)) == true && true && (decide (0 ≤ Int.ofNat a) && decide (Int.ofNat a < 7))) && ((!f (0 + (0 + b * 7 + c * 1)) == true || f (0 + (0 + b * 7 + c * 1)) == true && (f (0 + (0 + b * 7 + c * 1)) == true && true) && (decide (0 ≤ Int.ofNat c) && decide (Int.ofNat c < 7))) && ((!f (0 + (0 + b * 7 + c * 1)) == true || f (0 + (0 + b * 7 + c * 1)) == true && true && decide (0 + (0 + a * 7 + c * 1) < 49)) && ((!f (0 + (0 + b * 7 + c * 1)) == true || f (0 + (0 + b * 7 + c * 1)) == true && true && true) && ((bif f (0 + (0 + b * 7 + c * 1)) then f (0 + (0 + b * 7 + c * 1)) == true else true) && true && true))))))))) && ((bif f (0 + (0 + b * 7 + c * 1)) then !f (0 + (0 + a * 7 + c * 1)) else false) && true))) from by kernel_rfl)]
  unfold bc51 at7 at h
  simp at h
  simp [h.1, h.2]
  omega
theorem n51x {f : Nat → Bool} {a b : Nat} : Exec PP T none x51.nt 0 N51 (V51 f a b 7) (.x 4) (U51 f a b) := by
  refine exec_orun env0 false 60 [false] [0] (fun _ => rfl) (by kernel_rfl) (by kernel_rfl) (by kernel_rfl) (by kernel_rfl)
/-- a pair of nodes with which a relation is not transitive -/
def bb51 (f : Nat → Bool) (a b : Nat) : Bool := at7 f a b && (at7 f b a || (List.range 7).any (bc51 f a b))
def transB (f : Nat → Bool) : Bool := !((List.range 7).any fun a => (List.range 7).any (bb51 f a))
theorem m51 {f : Nat → Bool} {a b : Nat} (ha : a < 7) (hb : b < 7) (h : bb51 f a b = false) : Exec PP T none x51.nt 0 M51 (U51 f a b) .n (U51 f a (b + 1)) := by
  refine exec_seq (x := M51.a) (y := M51.b) m51a (exec_seq (x := M51.b.a) (y := M51.b.b) (m51b hb) ?_)
  unfold bb51 at h
  cases h1 : at7 f a b with
  | false => exact exec_seq (x := M51.b.b.a) (y := M51.b.b.b) (exec_block (id := 3) (x := M51.b.b.a.i) (e := .x 3) (exec_seq (x := M51.b.b.a.i.a) (y := M51.b.b.a.i.b) y51a (exec_seq_x (x := M51.b.b.a.i.b.a) (y := M51.b.b.a.i.b.b) (y51x ha hb h1) (by simp)))) (m51e hb)
  | true =>
    rw [h1, Bool.true_and, Bool.or_eq_false_iff] at h
    have h3 := any_none _ _ h.2
    exact exec_seq (x := M51.b.b.a) (y := M51.b.b.b) (exec_block (id := 3) (x := M51.b.b.a.i) (e := .n) (exec_seq (x := M51.b.b.a.i.a) (y := M51.b.b.a.i.b) y51a (exec_seq (x := M51.b.b.a.i.b.a) (y := M51.b.b.a.i.b.b) (y51b ha hb h1) (exec_seq (x := M51.b.b.a.i.b.b.a) (y := M51.b.b.a.i.b.b.b) (y51c ha hb h.1)
      (exec_seq (x := M51.b.b.a.i.b.b.b.a) (y := .block 4 (.loop N51)) y51d (exec_block (e := .x 4) (exec_loop_up (V51 f a b) 7 (fun c hc => n51 ha hb hc (h3 c hc)) n51x (by simp) 0 (by omega)))))))) (m51e hb)
theorem m51r {f : Nat → Bool} {a b : Nat} (ha : a < 7) (hb : b < 7) (h : bb51 f a b = true) : Exec PP T none x51.nt 0 M51 (U51 f a b) .r (RB 2 false) := by
  refine exec_seq (x := M51.a) (y := M51.b) m51a (exec_seq (x := M51.b.a) (y := M51.b.b) (m51b hb) ?_)
  unfold bb51 at h
  rw [Bool.and_eq_true] at h
  refine exec_seq_x (x := M51.b.b.a) (y := M51.b.b.b) (exec_block (id := 3) (x := M51.b.b.a.i) (e := .r) (exec_seq (x := M51.b.b.a.i.a) (y := M51.b.b.a.i.b) y51a (exec_seq (x := M51.b.b.a.i.b.a) (y := M51.b.b.a.i.b.b) (y51b ha hb h.1) ?_))) (by simp)
  cases h1 : at7 f b a with
  | true => exact exec_seq_x (x := M51.b.b.a.i.b.b.a) (y := M51.b.b.a.i.b.b.b) (y51r ha hb h1) (by simp)
  | false =>
    rw [h1, Bool.false_or] at h
    obtain ⟨p, q1, q2, q3⟩ := any_first _ _ h.2
    exact exec_seq (x := M51.b.b.a.i.b.b.a) (y := M51.b.b.a.i.b.b.b) (y51c ha hb h1)
      (exec_seq (x := M51.b.b.a.i.b.b.b.a) (y := .block 4 (.loop N51)) y51d (exec_block (e := .r) (exec_loop_up (V51 f a b) p (fun c hc => n51 ha hb (by omega) (q3 c hc)) (n51r ha hb q1 q2) (by simp) 0 (by omega))))
theorem l51 {f : Nat → Bool} {a : Nat} (ha : a < 7) (h : (List.range 7).any (bb51 f a) = false) : Exec PP T none x51.nt 0 L51 (S51 f a) .n (S51 f (a + 1)) := by
  have h3 := any_none _ _ h
  exact exec_seq (x := L51.a) (y := L51.b) l51a (exec_seq (x := L51.b.a) (y := L51.b.b) (l51b ha) (exec_seq (x := L51.b.b.a) (y := L51.b.b.b) (exec_block (id := 1) (x := L51.b.b.a.i) (e := .n) (exec_seq (x := L51.b.b.a.i.a) (y := L51.b.b.a.i.b) l51c (exec_seq (x := L51.b.b.a.i.b.a) (y := .block 2 (.loop M51)) l51d
    (exec_block (e := .x 2) (exec_loop_up (U51 f a) 7 (fun b hb => m51 ha hb (h3 b hb)) (exec_seq (x := M51.a) (y := M51.b) m51a (exec_seq_x (x := M51.b.a) (y := M51.b.b) m51x (by simp))) (by simp) 0 (by omega)))))) (l51e (b := 7) ha)))
theorem l51r {f : Nat → Bool} {a : Nat} (ha : a < 7) (h : (List.range 7).any (bb51 f a) = true) : Exec PP T none x51.nt 0 L51 (S51 f a) .r (RB 2 false) := by
  obtain ⟨p, q1, q2, q3⟩ := any_first _ _ h
  exact exec_seq (x := L51.a) (y := L51.b) l51a (exec_seq (x := L51.b.a) (y := L51.b.b) (l51b ha) (exec_seq_x (x := L51.b.b.a) (y := L51.b.b.b) (exec_block (id := 1) (x := L51.b.b.a.i) (e := .r) (exec_seq (x := L51.b.b.a.i.a) (y := L51.b.b.a.i.b) l51c (exec_seq (x := L51.b.b.a.i.b.a) (y := .block 2 (.loop M51)) l51d
    (exec_block (e := .r) (exec_loop_up (U51 f a) p (fun b hb => m51 ha (by omega) (q3 b hb)) (m51r ha q1 q2) (by simp) 0 (by omega)))))) (by simp)))
theorem body51 {f : Nat → Bool} : Exec PP T none x51.nt 0 x51.body (startSt [.pb [] 49 f] []) .r (RB 2 (transB f)) := by
  refine exec_seq (x := x51.body.a) (y := x51.body.b) a51 ?_
  unfold transB
  cases hh : (List.range 7).any fun a => (List.range 7).any (bb51 f a) with
  | true =>
    obtain ⟨p, q1, q2, q3⟩ := any_first _ _ hh
    exact exec_seq_x (x := x51.body.b.a) (y := x51.body.b.b) (exec_seq (x := x51.body.b.a.a) (y := .block 0 (.loop L51)) b51 (exec_block (e := .r) (exec_loop_up (S51 f) p (fun a ha => l51 (by omega) (q3 a ha)) (l51r q1 q2) (by simp) 0 (by omega)))) (by simp)
  | false =>
    have h3 := any_none _ _ hh
    exact exec_seq (x := x51.body.b.a) (y := x51.body.b.b) (exec_seq (x := x51.body.b.a.a) (y := .block 0 (.loop L51)) b51 (exec_block (e := .x 0) (exec_loop_up (S51 f) 7 (fun a ha => l51 ha (h3 a ha)) (exec_seq (x := L51.a) (y := L51.b) l51a (exec_seq_x (x := L51.b.a) (y := L51.b.b) l51x (by simp))) (by simp) 0 (by omega)))) d51
theorem pb0_any {m m' : MM} {n : Nat} {f : Nat → Bool} {v : Value} (h : AR m (.pb [] n f) v) : AR m' (.pb [] n f) v := by
  obtain ⟨cs, e1, vs, e2, e3, e4⟩ := h
  refine ⟨cs, e1, vs, ?_, e3, e4⟩
  match vs, e2 with
  | [], _ => trivial
def gRel (g : (Nat → Bool) → TV) (args : List AV) (_ : Nat → Option HO) : Option (Bool × TV × List Nat) := match args with
  | [.pb [] 49 f] => some (true, g f, [])
  | _ => none
theorem gRel_fp (g : (Nat → Bool) → TV) : PureFp (gRel g) := by
  intro args h h' q hg hf
  exact hg
theorem gRel_ok {f : FuncId} {x : XFn} (hx : FunOK PP T f x) (t : (Nat → Bool) → List (Nat × Slot)) (g : (Nat → Bool) → TV) (hlen : Nat.ble 1 x.nt = true) (hb : ∀ f, Exec PP T none x.nt 0 x.body (startSt [.pb [] 49 f] []) .r (mkSt (t f) [] 0 []))
    (hres : ∀ f, resV (mkSt (t f) [] 0 []).sl.get (mkSt (t f) [] 0 []).hp.get x.res = some (true, g f)) (hids : ∀ f, (g f).ids = []) : SpecOK PP (compC T) f (pureS (gRel g)) := by
  refine spec_pure tokP hx fun ctx m h w args vals v rd base hH hargs hg => ?_
  unfold gRel at hg
  split at hg
  · rename_i fb
    simp only [Option.some.injEq, Prod.mk.injEq] at hg
    obtain ⟨_, rfl, rfl⟩ := hg
    match vals, hargs with
    | [v1], ⟨ha1, _⟩ =>
      exact ⟨emV, [], [.pb [] 49 fb], shown_val ro0 ⟨pb0_any ha1, trivial⟩ hlen (hb fb) (fun _ => rfl) (hres fb) (hids fb)⟩
  · cases hg
theorem ok51 : SpecOK PP (compC T) 51 (pureS (gRel fun f => B (transB f))) :=
  gRel_ok o51 (fun f => [(2, ⟨true, B (transB f)⟩)]) _ (by kernel_rfl) (fun _ => body51) (fun f => by kernel_rfl) (fun f => by kernel_rfl)
end Go.Proofs.Yteekkjfjpoaihaa.Eng
namespace Go.Proofs.Yteekkjfjpoaihaa.Eng
open Go Go.Proofs
def L4 : List (Nat × Spec) := (51, pureS (gRel fun f => B (transB f))) :: L3
theorem L4_ok : SpecsL L4 := specsL_cons ok51 (pureS_fp (gRel_fp _)) o51 L3_ok
noncomputable abbrev g4 : Cal → Option Spec := specsΓ L4
theorem env4 : EnvOK PP T g4 := envL L4_ok
def L59 : XC := x59.body.b.b.b.a.b.i.i
abbrev G59 (q : List Int) (f : Nat → Bool) : List HO := [⟨true, .xvec .i64 2 q⟩, ⟨false, .row 70 [] 49 ff⟩, ⟨false, .row 70 [] 49 f⟩]
abbrev S59 (n : Int) (q : List Int) (m : Nat) (f : Nat → Bool) (i : Nat) : St := mkSt [(0, ⟨true, I n⟩), (1, sl0 m), (4, g1S 1), (5, ⟨true, I 0⟩), (6, g1S 2), (16, sl0 m), (17, ⟨true, I m⟩), (18, ⟨true, I i⟩)] (G59 q f) 3 []
abbrev P59 (n : Int) (q : List Int) (m : Nat) (f : Nat → Bool) (i : Nat) : St := mkSt [(0, ⟨true, I n⟩), (1, sl0 m), (4, g1S 1), (5, ⟨true, I 0⟩), (6, g1S 2), (16, sl0 m), (17, ⟨true, I m⟩), (18, ⟨true, I i⟩), (19, ⟨true, B (decide (Int.ofNat i < Int.ofNat m))⟩)] (G59 q f) 3 []
abbrev E59 (n : Int) (q : List Int) (m : Nat) (f : Nat → Bool) (i : Nat) (a b : Int) : St := mkSt [(0, ⟨true, I n⟩), (1, sl0 m), (4, g1S 1), (5, ⟨true, I 0⟩), (6, g1S 2), (7, ⟨true, I i⟩), (8, g1S 3), (16, sl0 m), (17, ⟨true, I m⟩), (18, ⟨true, I i⟩)] (G59 q f ++ [⟨false, .row 38 [.int .i64 a, .int .i64 b] 0 ff⟩]) 4 []
theorem e59a {n : Int} {q : List Int} {m i : Nat} {f : Nat → Bool} : Exec PP T none x59.nt 0 L59.a (S59 n q m f i) .n (P59 n q m f i) := by
  refine exec_orun env2 false 60 [] [0, 1, 2] (fun _ => rfl) (by kernel_rfl) (by kernel_rfl) (by kernel_rfl) (by kernel_rfl)
theorem e59b {n : Int} {q : List Int} {m i : Nat} {f : Nat → Bool} (hi : i < m) : Exec PP T none x59.nt 0 L59.b.a (P59 n q m f i) .n (S59 n q m f i) := by
  refine exec_orun env2 false 60 [true] [0, 1, 2] (fun _ => rfl) (by kernel_rfl) (by kernel_rfl) (by kernel_rfl) ?_
  rw [(show obOf (orun g2 false 60 L59.b.a (P59 n q m f i) [true]) = (decide (Int.ofNat i < Int.ofNat m) && true) from by kernel_rfl)]
  simp
  omega
theorem e59x {n : Int} {q : List Int} {m : Nat} {f : Nat → Bool} : Exec PP T none x59.nt 0 L59.b.a (P59 n q m f m) (.x 0) (S59 n q m f m) := by
  refine exec_orun env2 false 60 [false] [0, 1, 2] (fun _ => rfl) (by kernel_rfl) (by kernel_rfl) (by kernel_rfl) ?_
  rw [(show obOf (orun g2 false 60 L59.b.a (P59 n q m f m) [false]) = (!decide (Int.ofNat m < Int.ofNat m) && true) from by kernel_rfl)]
  simp
theorem e59d {n : Int} {q : List Int} {m i : Nat} {f : Nat → Bool} (hm : m ≤ 1000000000) (hi : i < m) : Exec PP T none x59.nt 0 L59.b.b.b (S59 n q m f i) .n (S59 n q m f (i + 1)) := by
  refine exec_orun env2 false 60 [] [0, 1, 2] (fun _ => rfl) (by kernel_rfl) (by kernel_rfl) (by kernel_rfl) ?_
  rw [(show obOf (orun g2 false 60 L59.b.b.b (S59 n q m f i) []) = (rng64 (Int.ofNat i.succ) && true) from by kernel_rfl)]
  simp [rng64]
  omega
theorem e59r {n : Int} {q : List Int} {m i : Nat} {f : Nat → Bool} (hq : q.length = m * 2) (hi : i < m) : Exec PP T none x59.nt 0 L59.b.b.a.i.a (S59 n q m f i) .n (E59 n q m f i (pa q i) (pb q i)) := by
  have e1 : pa q i = q.getD (0 + (0 + i) * 2 + 0) 0 := by unfold pa; congr 1; omega
  have e2 : pb q i = q.getD (0 + (0 + i) * 2 + 0 + 1) 0 := by unfold pb; congr 1; omega
  rw [e1, e2]
  refine exec_orun env2 false 60 [] [0, 1, 2, 3] (fun _ => rfl) (by kernel_rfl) (by kernel_rfl) (by kernel_rfl) ?_
  rw [(show obOf (orun g2 false 60 L59.b.b.a.i.a (S59 n q m f i) []) = (decide (0 ≤ Int.ofNat i) && decide (Int.ofNat i < Int.ofNat m) && (decide (((0 + (0 + i) * 2).add 0).succ.succ ≤ q.length) && (decide (0 = 0) && true && true && true))) from by kernel_rfl)]
  simp
  omega
def badD (n : Int) (q : List Int) (i : Nat) (a b : Int) : Bool := decide (min a b < 0) || decide (max a b ≥ n) || (a == b) || upB q i
theorem e59c {n : Int} {q : List Int} {m i : Nat} {f : Nat → Bool} {a b : Int} (hq : q.length = m * 2) (hi : i < m) (hm : m ≤ 1000000000) (ha : a = pa q i) (hbb : b = pb q i) (hb : badD n q i a b = false) : Exec PP T none x59.nt 0 L59.b.b.a.i.b.a (E59 n q m f i a b) .n (E59 n q m f i a b) := by
  refine exec_orun env3 false 60 [false] [0, 1, 2, 3] (fun _ => rfl) (by kernel_rfl) (by kernel_rfl) (by kernel_rfl) ?_
  rw [(show obOf (orun g3 false 60 L59.b.b.a.i.b.a (E59 n q m f i a b) [false]) = ((fun b0_ : Bool => (fun b1_ : Bool => (fun b2_ : Bool => decide (0 ≤ 0) && decide (0 < 2) && (decide (0 ≤ 1) && decide (1 < 2) && ((!decide (min a b < 0) == false || decide (0 ≤ 0) && decide (0 < 2)) && ((!decide (min a b < 0) == false || decide (min a b < 0) == false && true && true) && ((!decide (min a b < 0) == false || decide (0 ≤ 1) && decide (1 < 2)) && ((!decide (min a b < 0) == false || decide (min a b < 0) == false && true && true) && ((!decide (min a b < 0) == false || decide (min a b < 0) == false && (decide (min a b < 0) == false && true) && true) && ((!decide (min a b < 0) == false || true) && ((!decide (min a b < 0) == false || decide (min a b < 0) == false && (decide (min a b < 0) == false && true) && true) && ((bif decide (min a b < 0) then true else decide (min a b < 0) == false) && true && ((!b1_ == false || decide (0 ≤ 0) && decide (0 < 2)) && ((!b1_ == false || b1_ == false && true && true) && ((!b1_ == false || decide (0 ≤ 1) && decide (1 < 2)) && ((!b1_ == false || b1_ == false && true && true) && ((!b1_ == false || b1_ == false && (b1_ == false && true) && true) && ((bif bif decide (min a b < 0) then true else decide (max a b ≥ n) then true else b1_ == false) && true && ((!b0_ == false || true) && ((!b0_ == false || b0_ == false && true && true) && ((!b0_ == false || b0_ == false && true && true) && ((!b2_ || true) && ((!b2_ || true) && ((!b2_ || b0_ == false && decide (Int.ofNat i > 0) == true && true && rng64 (Int.ofNat i - 1)) && ((!b2_ || b0_ == false && decide (Int.ofNat i > 0) == true && (b0_ == false && decide (Int.ofNat i > 0) == true && true) && (decide (0 ≤ Int.ofNat i - 1) && decide (Int.ofNat i - 1 < Int.ofNat m))) && ((!b2_ || b0_ == false && decide (Int.ofNat i > 0) == true && true && true) && ((!b2_ || true) && ((!b2_ || b0_ == false && decide (Int.ofNat i > 0) == true && (b0_ == false && decide (Int.ofNat i > 0) == true && true) && (decide (((0 + (0 + (Int.ofNat i - 1).toNat) * 2).add 0).succ.succ ≤ q.length) && decide (2 ≤ Nat.succ 1))) && ((!b2_ || b0_ == false && decide (Int.ofNat i > 0) == true && true && true) && ((!b0_ == false || (b0_ == false && bif decide (Int.ofNat i > 0) then b0_ == false && decide (Int.ofNat i > 0) == true else true) && true) && ((bif bif bif decide (min a b < 0) then true else decide (max a b ≥ n) then true else a == b then true else b0_ == false) && true && true)))))))))))))))))))))))))))) && true && ((!bif bif bif decide (min a b < 0) then true else decide (max a b ≥ n) then true else a == b then true else bif decide (Int.ofNat i > 0) then decide (cmp2 ((List.take 2 (List.drop (0 + (0 + (Int.ofNat i - 1).toNat) * 2) q)).getD 0 0) ((List.take 2 (List.drop (0 + (0 + (Int.ofNat i - 1).toNat) * 2) q)).getD 1 0) a b ≥ 0) else false) && true)) (b0_ == false && decide (Int.ofNat i > 0) == true)) (bif decide (min a b < 0) then true else decide (max a b ≥ n))) (bif bif decide (min a b < 0) then true else decide (max a b ≥ n) then true else a == b)) from by kernel_rfl)]
  dsimp only
  simp only [badD, Bool.or_eq_false_iff] at hb
  obtain ⟨⟨⟨h0, h1⟩, h2⟩, h3⟩ := hb
  simp only [h0, h1, h2]
  cases i with
  | zero => simp
  | succ j =>
    have e1 : (Int.ofNat (j + 1) - 1).toNat = j := by simp
    have e2 : Int.ofNat (j + 1) - 1 = (j : Int) := by simp
    have e3 : rng64 (j : Int) = true := by rw [rng64_eq]; simp; omega
    simp [upB, pa, pb, Nat.mul_comm 2] at h3
    simp [e1, e2, e3, cmp2_less]
    rw [ha, hbb]
    simp [pa, pb, Nat.mul_comm 2]
    exact ⟨by omega, h3⟩
abbrev Z59 (f : Nat → Bool) (e : Int) : St := mkSt [(4, g1S 0), (5, ⟨true, I e⟩)] [⟨false, .row 70 [] 49 f⟩] 1 []
theorem e59e {n : Int} {q : List Int} {m i : Nat} {f : Nat → Bool} {a b : Int} (hq : q.length = m * 2) (hi : i < m) (hm : m ≤ 1000000000) (ha : a = pa q i) (hbb : b = pb q i) (hb : badD n q i a b = true) : Exec PP T none x59.nt 0 L59.b.b.a.i.b.a (E59 n q m f i a b) .r (Z59 f 30) := by
  refine exec_orun env3 false 60 [true] [1] (fun _ => rfl) (by kernel_rfl) (by kernel_rfl) (by kernel_rfl) ?_
  rw [(show obOf (orun g3 false 60 L59.b.b.a.i.b.a (E59 n q m f i a b) [true]) = ((fun b0_ : Bool => (fun b1_ : Bool => (fun b2_ : Bool => decide (0 ≤ 0) && decide (0 < 2) && (decide (0 ≤ 1) && decide (1 < 2) && ((!decide (min a b < 0) == false || decide (0 ≤ 0) && decide (0 < 2)) && ((!decide (min a b < 0) == false || decide (min a b < 0) == false && true && true) && ((!decide (min a b < 0) == false || decide (0 ≤ 1) && decide (1 < 2)) && ((!decide (min a b < 0) == false || decide (min a b < 0) == false && true && true) && ((!decide (min a b < 0) == false || decide (min a b < 0) == false && (decide (min a b < 0) == false && true) && true) && ((!decide (min a b < 0) == false || true) && ((!decide (min a b < 0) == false || decide (min a b < 0) == false && (decide (min a b < 0) == false && true) && true) && ((bif decide (min a b < 0) then true else decide (min a b < 0) == false) && true && ((!b1_ == false || decide (0 ≤ 0) && decide (0 < 2)) && ((!b1_ == false || b1_ == false && true && true) && ((!b1_ == false || decide (0 ≤ 1) && decide (1 < 2)) && ((!b1_ == false || b1_ == false && true && true) && ((!b1_ == false || b1_ == false && (b1_ == false && true) && true) && ((bif bif decide (min a b < 0) then true else decide (max a b ≥ n) then true else b1_ == false) && true && ((!b0_ == false || true) && ((!b0_ == false || b0_ == false && true && true) && ((!b0_ == false || b0_ == false && true && true) && ((!b2_ || true) && ((!b2_ || true) && ((!b2_ || b0_ == false && decide (Int.ofNat i > 0) == true && true && rng64 (Int.ofNat i - 1)) && ((!b2_ || b0_ == false && decide (Int.ofNat i > 0) == true && (b0_ == false && decide (Int.ofNat i > 0) == true && true) && (decide (0 ≤ Int.ofNat i - 1) && decide (Int.ofNat i - 1 < Int.ofNat m))) && ((!b2_ || b0_ == false && decide (Int.ofNat i > 0) == true && true && true) && ((!b2_ || true) && ((!b2_ || b0_ == false && decide (Int.ofNat i > 0) == true && (b0_ == false && decide (Int.ofNat i > 0) == true && true) && (decide (((0 + (0 + (Int.ofNat i - 1).toNat) * 2).add 0).succ.succ ≤ q.length) && decide (2 ≤ Nat.succ 1))) && ((!b2_ || b0_ == false && decide (Int.ofNat i > 0) == true && true && true) && ((!b0_ == false || (b0_ == false && bif decide (Int.ofNat i > 0) then b0_ == false && decide (Int.ofNat i > 0) == true else true) && true) && ((bif bif bif decide (min a b < 0) then true else decide (max a b ≥ n) then true else a == b then true else b0_ == false) && true && true)))))))))))))))))))))))))))) && true && ((bif bif bif decide (min a b < 0) then true else decide (max a b ≥ n) then true else a == b then true else bif decide (Int.ofNat i > 0) then decide (cmp2 ((List.take 2 (List.drop (0 + (0 + (Int.ofNat i - 1).toNat) * 2) q)).getD 0 0) ((List.take 2 (List.drop (0 + (0 + (Int.ofNat i - 1).toNat) * 2) q)).getD 1 0) a b ≥ 0) else false) && (decide (0 = 0) && (decide (0 = 0) && true && true && true) && true))) (b0_ == false && decide (Int.ofNat i > 0) == true)) (bif decide (min a b < 0) then true else decide (max a b ≥ n))) (bif bif decide (min a b < 0) then true else decide (max a b ≥ n) then true else a == b)) from by kernel_rfl)]
  dsimp only
  cases h0 : decide (min a b < 0) with
  | true => simp
  | false =>
  cases h1 : decide (max a b ≥ n) with
  | true => simp
  | false =>
  cases h2 : (a == b) with
  | true => simp
  | false =>
    simp only [badD, h0, h1, h2, Bool.false_or] at hb
    cases i with
    | zero => simp [upB] at hb
    | succ j =>
      have e1 : (Int.ofNat (j + 1) - 1).toNat = j := by simp
      have e2 : Int.ofNat (j + 1) - 1 = (j : Int) := by simp
      have e3 : rng64 (j : Int) = true := by rw [rng64_eq]; simp; omega
      simp [upB, pa, pb, Nat.mul_comm 2] at hb
      simp [e1, e2, e3, cmp2_less]
      rw [ha, hbb]
      simp [pa, pb, Nat.mul_comm 2]
      exact ⟨by omega, hb⟩
def relS (f : Nat → Bool) (a b : Int) : Nat → Bool := fun j => bif j.beq (0 - ([] : List SV).length + (0 + a.toNat * 7 + b.toNat * 1)) then true else f j
theorem e59s {n : Int} {q : List Int} {m i : Nat} {f : Nat → Bool} {a b : Int} (h0 : 0 ≤ a) (h1 : a < 7) (h2 : 0 ≤ b) (h3 : b < 7) : Exec PP T none x59.nt 0 L59.b.b.a.i.b.b (E59 n q m f i a b) .n (S59 n q m (relS f a b) i) := by
  refine exec_orun env2 false 60 [] [0, 1, 2] (fun _ => rfl) (by kernel_rfl) (by kernel_rfl) (by kernel_rfl) ?_
  rw [(show obOf (orun g2 false 60 L59.b.b.a.i.b.b (E59 n q m f i a b) []) = (decide (0 ≤ 0) && decide (0 < 2) && (decide (0 ≤ 1) && decide (1 < 2) && (decide (0 ≤ a) && decide (a < 7) && (decide (0 ≤ b) && decide (b < 7) && (decide (0 + (0 + a.toNat * 7 + b.toNat * 1) < 49) && true && true && true)))) && true) from by kernel_rfl)]
  simp
  omega
def relF (q : List Int) : Nat → Nat → Bool
  | 0 => ff
  | i + 1 => relS (relF q i) (pa q i) (pb q i)
def badO (n : Int) (q : List Int) (i : Nat) : Bool := badD n q i (pa q i) (pb q i)
theorem badO_rng {n : Int} {q : List Int} {i : Nat} (hn : (decide (n < 1) || decide (n > 7)) = false) (hb : badO n q i = false) : (0 ≤ pa q i ∧ pa q i < 7) ∧ 0 ≤ pb q i ∧ pb q i < 7 := by
  simp [badO, badD] at hb hn
  omega
theorem s59 {n : Int} {q : List Int} {m i : Nat} (hn : (decide (n < 1) || decide (n > 7)) = false) (hq : q.length = m * 2) (hi : i < m) (hm : m ≤ 1000000000) (hb : badO n q i = false) : Exec PP T none x59.nt 0 L59 (S59 n q m (relF q i) i) .n (S59 n q m (relF q (i + 1)) (i + 1)) := by
  obtain ⟨⟨h0, h1⟩, h2, h3⟩ := badO_rng hn hb
  exact exec_seq (x := L59.a) (y := L59.b) e59a (exec_seq (x := L59.b.a) (y := L59.b.b) (e59b hi) (exec_seq (x := L59.b.b.a) (y := L59.b.b.b) (exec_block (id := 1) (x := L59.b.b.a.i) (e := .n) (exec_seq (x := L59.b.b.a.i.a) (y := L59.b.b.a.i.b) (e59r hq hi) (exec_seq (x := L59.b.b.a.i.b.a) (y := L59.b.b.a.i.b.b) (e59c hq hi hm rfl rfl hb) (e59s h0 h1 h2 h3)))) (e59d hm hi)))
theorem s59r {n : Int} {q : List Int} {m i : Nat} {f : Nat → Bool} (hq : q.length = m * 2) (hi : i < m) (hm : m ≤ 1000000000) (hb : badO n q i = true) : Exec PP T none x59.nt 0 L59 (S59 n q m f i) .r (Z59 f 30) := by
  exact exec_seq (x := L59.a) (y := L59.b) e59a (exec_seq (x := L59.b.a) (y := L59.b.b) (e59b hi) (exec_seq_x (x := L59.b.b.a) (y := L59.b.b.b) (exec_block (id := 1) (x := L59.b.b.a.i) (e := .r) (exec_seq (x := L59.b.b.a.i.a) (y := L59.b.b.a.i.b) (e59r hq hi) (exec_seq_x (x := L59.b.b.a.i.b.a) (y := L59.b.b.a.i.b.b) (e59e hq hi hm rfl rfl hb) (by simp)))) (by simp)))
theorem s59x {n : Int} {q : List Int} {m : Nat} {f : Nat → Bool} : Exec PP T none x59.nt 0 L59 (S59 n q m f m) (.x 0) (S59 n q m f m) :=
  exec_seq (x := L59.a) (y := L59.b) e59a (exec_seq_x (x := L59.b.a) (y := L59.b.b) e59x (by simp))
abbrev M59 (n : Int) (q : List Int) (m : Nat) : St := mkSt [(0, ⟨true, I n⟩), (1, sl0 m), (4, g1S 1), (5, ⟨true, I 0⟩)] [⟨true, .xvec .i64 2 q⟩, ⟨false, .row 70 [] 49 ff⟩] 2 []
abbrev M59' (n : Int) (q : List Int) (m : Nat) : St := mkSt [(0, ⟨true, I n⟩), (1, sl0 m), (4, g1S 1), (5, ⟨true, I 0⟩), (6, g1S 2)] (G59 q ff) 3 []
theorem a59 {n : Int} {q : List Int} {m : Nat} : Exec PP T none x59.nt 0 x59.body.a (startSt (A40 n m) (H1 q)) .n (M59 n q m) := by
  refine exec_orun env2 false 60 [] [0, 1] (fun _ => rfl) (by kernel_rfl) (by kernel_rfl) (by kernel_rfl) (by kernel_rfl)
theorem a59' {n : Int} {q : List Int} {m : Nat} : Exec PP T none x59.nt 0 x59.body.b.a (M59 n q m) .n (M59' n q m) := by
  refine exec_orun env2 false 60 [] [0, 1, 2] (fun _ => rfl) (by kernel_rfl) (by kernel_rfl) (by kernel_rfl) (by kernel_rfl)
theorem b59r {n : Int} {q : List Int} {m : Nat} (h : (decide (n < 1) || decide (n > 7)) = true) : Exec PP T none x59.nt 0 x59.body.b.b.a (M59' n q m) .r (Z59 ff 1) := by
  refine exec_orun env2 false 60 [true] [1] (fun _ => rfl) (by kernel_rfl) (by kernel_rfl) (by kernel_rfl) ?_
  rw [(show obOf (orun g2 false 60 x59.body.b.b.a (M59' n q m) [true]) = ((!decide (n < 1) == false || true) && ((!decide (n < 1) == false || decide (n < 1) == false && true && true) && ((bif decide (n < 1) then true else decide (n < 1) == false) && true && true)) && ((bif decide (n < 1) then true else decide (n > 7)) && (decide (0 = 0) && (decide (0 = 0) && true && true && true) && true))) from by kernel_rfl)]
  cases h0 : decide (n < 1) with
  | true => simp
  | false => rw [h0, Bool.false_or] at h; simp [h]
theorem b59 {n : Int} {q : List Int} {m : Nat} (h : (decide (n < 1) || decide (n > 7)) = false) : Exec PP T none x59.nt 0 x59.body.b.b.a (M59' n q m) .n (M59' n q m) := by
  refine exec_orun env2 false 60 [false] [0, 1, 2] (fun _ => rfl) (by kernel_rfl) (by kernel_rfl) (by kernel_rfl) ?_
  rw [(show obOf (orun g2 false 60 x59.body.b.b.a (M59' n q m) [false]) = ((!decide (n < 1) == false || true) && ((!decide (n < 1) == false || decide (n < 1) == false && true && true) && ((bif decide (n < 1) then true else decide (n < 1) == false) && true && true)) && ((!bif decide (n < 1) then true else decide (n > 7)) && true)) from by kernel_rfl)]
  rw [Bool.or_eq_false_iff] at h
  simp [h.1, h.2]
theorem c59i {n : Int} {q : List Int} {m : Nat} : Exec PP T none x59.nt 0 x59.body.b.b.b.a.a (M59' n q m) .n (S59 n q m ff 0) := by
  refine exec_orun env2 false 60 [] [0, 1, 2] (fun _ => rfl) (by kernel_rfl) (by kernel_rfl) (by kernel_rfl) (by kernel_rfl)
theorem d59 {n : Int} {q : List Int} {m : Nat} {f : Nat → Bool} (h : transB f = true) : Exec PP T none x59.nt 0 x59.body.b.b.b.b (S59 n q m f m) .r (Z59 f 0) := by
  refine exec_orun env4 false 60 [false] [1] (fun _ => rfl) (by kernel_rfl) (by kernel_rfl) (by kernel_rfl) ?_
  rw [(show obOf (orun g4 false 60 x59.body.b.b.b.b (S59 n q m f m) [false]) = (decide (0 = 0) && true && (!!transB f && true) && (decide (0 = 0) && (decide (0 = 0) && true && true && true) && true)) from by kernel_rfl)]
  simp [h]
theorem d59r {n : Int} {q : List Int} {m : Nat} {f : Nat → Bool} (h : transB f = false) : Exec PP T none x59.nt 0 x59.body.b.b.b.b (S59 n q m f m) .r (Z59 f 30) := by
  refine exec_orun env4 false 60 [true] [1] (fun _ => rfl) (by kernel_rfl) (by kernel_rfl) (by kernel_rfl) ?_
  rw [(show obOf (orun g4 false 60 x59.body.b.b.b.b (S59 n q m f m) [true]) = (decide (0 = 0) && true && (!transB f && (decide (0 = 0) && (decide (0 = 0) && true && true && true) && true))) from by kernel_rfl)]
  simp [h]
/-- where the pairs stop being good -/
def stopO (n : Int) (q : List Int) (m : Nat) : Nat := ((List.range m).find? (badO n q)).getD m
theorem find_first {f : Nat → Bool} {m p : Nat} (h1 : p < m) (h2 : f p = true) (h3 : ∀ i, i < p → f i = false) : ((List.range m).find? f).getD m = p := by
  rw [List.find?_range_eq_some (i := p) |>.2 ⟨h2, by simpa using h1, fun j hj => by simp [h3 j hj]⟩]
  rfl
theorem find_none {f : Nat → Bool} {m : Nat} (h3 : ∀ i, i < m → f i = false) : ((List.range m).find? f).getD m = m := by
  rw [List.find?_range_eq_none.2 fun j hj => by simp [h3 j hj]]
  rfl
def orderE (n : Int) (q : List Int) (m : Nat) : Int := bif decide (n < 1) || decide (n > 7) then 1 else bif (List.range m).any (badO n q) then 30 else bif transB (relF q m) then 0 else 30
def orderF (n : Int) (q : List Int) (m : Nat) : Nat → Bool := bif decide (n < 1) || decide (n > 7) then ff else relF q (stopO n q m)
theorem body59 {n : Int} {q : List Int} {m : Nat} (hq : q.length = m * 2) (hm : m ≤ 1000000000) : Exec PP T none x59.nt 0 x59.body (startSt (A40 n m) (H1 q)) .r (Z59 (orderF n q m) (orderE n q m)) := by
  refine exec_seq (x := x59.body.a) (y := x59.body.b) a59 (exec_seq (x := x59.body.b.a) (y := x59.body.b.b) a59' ?_)
  unfold orderF orderE
  cases h : (decide (n < 1) || decide (n > 7)) with
  | true => exact exec_seq_x (x := x59.body.b.b.a) (y := x59.body.b.b.b) (b59r h) (by simp)
  | false =>
    refine exec_seq (x := x59.body.b.b.a) (y := x59.body.b.b.b) (b59 h) ?_
    simp only [cond_false]
    cases hh : (List.range m).any (badO n q) with
    | true =>
      obtain ⟨p, h1, h2, h3⟩ := any_first _ _ hh
      unfold stopO
      rw [find_first h1 h2 h3]
      exact exec_seq_x (x := x59.body.b.b.b.a) (y := x59.body.b.b.b.b) (exec_seq (x := x59.body.b.b.b.a.a) (y := .block 0 (.loop L59)) c59i (exec_block (e := .r) (exec_loop_up (fun i => S59 n q m (relF q i) i) p (fun i hi => s59 h hq (by omega) hm (h3 i hi)) (s59r hq h1 hm h2) (by simp) 0 (by omega)))) (by simp)
    | false =>
      have h3 := any_none _ _ hh
      unfold stopO
      rw [find_none h3, cond_false]
      refine exec_seq (x := x59.body.b.b.b.a) (y := x59.body.b.b.b.b) (exec_seq (x := x59.body.b.b.b.a.a) (y := .block 0 (.loop L59)) c59i (exec_block (e := .x 0) (exec_loop_up (fun i => S59 n q m (relF q i) i) m (fun i hi => s59 h hq hi hm (h3 i hi)) s59x (by simp) 0 (by omega)))) ?_
      cases ht : transB (relF q m) with
      | true => exact d59 ht
      | false => exact d59r ht
/-- values that are read from a cell of one's own at the end -/
theorem shown_valH {P : Program} {T : Tab} {x : XFn} {m0 : MM} {hs : List HO} {args0 : List AV} {vals : List Value} {w : World} {val : TV} {base : Nat} {ts : List (Nat × Slot)} {hs' : List HO} {nx : Nat} {ex : XE} (hview : RoView (compC T) m0 hs w) (hargs : All2 (AR m0) args0 vals) (hlen : Nat.ble args0.length x.nt = true)
    (hrun : Exec P T none x.nt 0 x.body (startSt args0 hs) ex (mkSt ts hs' nx [])) (hex : ex ≠ .n → ex = .r) (hres : resV (mkSt ts hs' nx []).sl.get (mkSt ts hs' nx []).hp.get x.res = some (true, val)) (hids : val.ids = []) : Shown P T x m0 hs args0 vals w val [] base where
  view := hview
  args := hargs
  len := Nat.le_of_ble_eq_true hlen
  run := ⟨mkSt ts hs' nx [], ex, val, [], hrun, by by_cases h : ex = .n; exact .inl h; exact .inr (hex h), rfl, hres, rfl, fun j hj => (by rw [hids] at hj; cases hj), (TV.ren_id fun j hj => (by rw [hids] at hj; cases hj)).symm, rfl, fun k id h => (by simp at h)⟩
theorem intPairsH_ok {f : FuncId} {x : XFn} (hx : FunOK PP T f x) (k : Nat) (c : Int → List Int → Nat → Bool) (t : Int → List Int → Nat → List (Nat × Slot)) (hs' : Int → List Int → Nat → List HO) (nx : Nat) (v : Int → List Int → Nat → TV) (hlen : Nat.ble (k + 2) x.nt = true) (hb : ∀ n q m, q.length = m * 2 → m ≤ 1000000000 → c n q m = true → Exec PP T none x.nt 0 x.body (startSt (A40 n m ++ List.replicate k (.s .any)) (H1 q)) .r (mkSt (t n q m) (hs' n q m) nx []))
    (hres : ∀ n q m, resV (mkSt (t n q m) (hs' n q m) nx []).sl.get (mkSt (t n q m) (hs' n q m) nx []).hp.get x.res = some (true, v n q m)) (hids : ∀ n q m, (v n q m).ids = []) : SpecOK PP (compC T) f (pureS (intPairsX k c v)) := by
  refine spec_pure tokP hx fun ctx m h w args vals u rd base hH hargs hg => ?_
  unfold intPairsX at hg
  split at hg
  · rename_i n s rest
    cases hk : Nat.beq rest.length k with
    | false => rw [hk] at hg; cases hg
    | true =>
      rw [hk, cond_true] at hg
      have hk := Nat.eq_of_beq_eq_true hk
      subst hk
      split at hg
      · rename_i vc q m' rd' hs
        simp only [Option.some.injEq, Prod.mk.injEq, Bool.and_eq_true] at hg
        obtain ⟨⟨rfl, hm, hc⟩, rfl, rfl⟩ := hg
        match vals, hargs with
        | v1 :: v2 :: vr, ⟨ha1, ha2, har⟩ =>
          obtain ⟨mb, k1, k2, k3, k4⟩ := view_slice hH ha2 hs
          have hall : All2 (AR (mm1 mb)) (.s (.int .i64 n) :: .s (.sl 0 0 2 m') :: List.replicate rest.length (.s .any)) (v1 :: v2 :: vr) := ⟨ha1, k3 (mm1 mb) 0 rfl, all2_any har⟩
          exact ⟨mm1 mb, H1 q, A40 n m' ++ List.replicate rest.length (.s .any), shown_valH (ro1 k1 k2) hall (by simpa using hlen) (hb n q m' k4 (by simpa [bndL] using hm) hc) (fun _ => rfl) (hres n q m') (hids n q m')⟩
      · cases hg
  · cases hg
abbrev orderR (n : Int) (q : List Int) (m : Nat) : TV := .tup [.pb [] 49 (orderF n q m), .s (.int .i64 (orderE n q m))]
def anyC (_ : Int) (_ : List Int) (_ : Nat) : Bool := true
theorem ok59 : SpecOK PP (compC T) 59 (pureS (intPairsX 0 anyC orderR)) :=
  intPairsH_ok o59 0 anyC (fun n q m => [(4, g1S 0), (5, ⟨true, I (orderE n q m)⟩)]) (fun n q m => [⟨false, .row 70 [] 49 (orderF n q m)⟩]) 1 _ (by kernel_rfl) (fun n q m hq hm _ => body59 hq hm) (fun n q m => by kernel_rfl) (fun n q m => by kernel_rfl)
end Go.Proofs.Yteekkjfjpoaihaa.Eng
namespace Go.Proofs.Yteekkjfjpoaihaa.Eng
open Go Go.Proofs
theorem body60 : Exec PP T none x60.nt 0 x60.body (startSt [] []) .r (mkSt [(0, g1S 0)] [⟨false, .row 70 [] 49 ff⟩] 1 []) := by
  refine exec_orun env0 false 60 [] [0] (fun _ => rfl) (by kernel_rfl) (by kernel_rfl) (by kernel_rfl) (by kernel_rfl)
def gNone (args : List AV) (_ : Nat → Option HO) : Option (Bool × TV × List Nat) := match args with
  | [] => some (true, .av (.pb [] 49 ff), [])
  | _ => none
theorem gNone_fp : PureFp gNone := fun args h h' q hg hf => hg
theorem ok60 : SpecOK PP (compC T) 60 (pureS gNone) := by
  refine spec_pure tokP o60 fun ctx m h w args vals v rd base hH hargs hg => ?_
  unfold gNone at hg
  split at hg
  · simp only [Option.some.injEq, Prod.mk.injEq] at hg
    obtain ⟨_, rfl, rfl⟩ := hg
    match vals, hargs with
    | [], _ => exact ⟨emV, [], [], shown_valH (ts := [(0, g1S 0)]) (hs' := [⟨false, .row 70 [] 49 ff⟩]) (nx := 1) ro0 trivial (by kernel_rfl) body60 (fun _ => rfl) (by kernel_rfl) (by kernel_rfl)⟩
  · cases hg
def L5 : List (Nat × Spec) := (60, pureS gNone) :: (59, pureS (intPairsX 0 anyC orderR)) :: L4
theorem L5_ok : SpecsL L5 := specsL_cons ok60 (pureS_fp gNone_fp) o60 (specsL_cons ok59 (pureS_fp (intPairsX_fp _ _ _)) o59 L4_ok)
/-- where it does not -/
def L5g : List (Nat × Spec) := (48, spOpen) :: L5
theorem L5g_ok : SpecsL L5g := specsL_cons ok48 spOpen_fp o48 L5_ok
noncomputable abbrev g5g : Cal → Option Spec := specsΓ L5g
theorem env5g : EnvOK PP T g5g := envL L5g_ok
def ord1 (n : Int) (q : List Int) (m : Nat) : Bool := !(orderE n q m == 0)
def isPair : AV → Bool
  | .pb [.int .i64 _, .int .i64 _] 0 _ => true
  | _ => false
def intPairsP (k : Nat) (c : Int → List Int → Nat → Bool) (f : Int → List Int → Nat → TV) (args : List AV) (h : Nat → Option HO) : Option (Bool × TV × List Nat) := match args with
  | .s (.int .i64 n) :: s :: rest => bif Nat.beq rest.length k && rest.all isPair then match srcOf (.av s) h .i64 2 with
    | some (vc, q, m, rd) => some (vc && (bndL m && c n q m), f n q m, rd)
    | none => none
    else none
  | _ => none
theorem tk0 {q : List Int} {m : Nat} (hq : q.length = m * 2) : List.take (m * 2) q = q := by
  rw [← hq]; exact List.take_length
theorem tk {q : List Int} {m : Nat} (hq : q.length = m * 2) : List.take (m * 2) (List.drop 0 q) = q := by
  rw [List.drop_zero, ← hq]; exact List.take_length
abbrev M12 (n : Int) (q : List Int) (m : Nat) (f : Nat → Bool) (e : Int) : St := mkSt [(0, ⟨true, I n⟩), (1, sl0 m), (4, ⟨true, .av (.s .nils)⟩), (5, ⟨true, I 0⟩), (6, g1S 1), (7, ⟨true, I e⟩)] [⟨true, .xvec .i64 2 q⟩, ⟨false, .row 70 [] 49 f⟩] 2 []
theorem a12 {n : Int} {q : List Int} {m : Nat} : Exec PP T none x12.nt 0 x12.body.a (startSt (A40 n m) (H1 q)) .n (mkSt [(0, ⟨true, I n⟩), (1, sl0 m), (4, ⟨true, .av (.s .nils)⟩), (5, ⟨true, I 0⟩)] (H1 q) 1 []) := by
  refine exec_orun env5g false 90 [] [0] (fun _ => rfl) (by kernel_rfl) (by kernel_rfl) (by kernel_rfl) (by kernel_rfl)
theorem b12 {n : Int} {q : List Int} {m : Nat} (hq : q.length = m * 2) (hm : m ≤ 1000000000) : Exec PP T none x12.nt 0 x12.body.b.a (mkSt [(0, ⟨true, I n⟩), (1, sl0 m), (4, ⟨true, .av (.s .nils)⟩), (5, ⟨true, I 0⟩)] (H1 q) 1 []) .n (M12 n q m (orderF n q m) (orderE n q m)) := by
  have key : Exec PP T none x12.nt 0 x12.body.b.a (mkSt [(0, ⟨true, I n⟩), (1, sl0 m), (4, ⟨true, .av (.s .nils)⟩), (5, ⟨true, I 0⟩)] (H1 q) 1 []) .n (M12 n q m (orderF n (List.take (m * 2) (List.drop 0 q)) m) (orderE n (List.take (m * 2) (List.drop 0 q)) m)) := by
    refine exec_orun env5g false 90 [] [0, 9] (fun _ => rfl) (by kernel_rfl) (by kernel_rfl) (by kernel_rfl) ?_
    rw [(show obOf (orun g5g false 90 x12.body.b.a (mkSt [(0, ⟨true, I n⟩), (1, sl0 m), (4, ⟨true, .av (.s .nils)⟩), (5, ⟨true, I 0⟩)] (H1 q) 1 []) []) = (decide ((0 + m) * 2 ≤ q.length) && (decide (m ≤ 1000000000) && true) && (decide (0 = 0) && true && true && true)) from by kernel_rfl)]
    simp [hq, hm]
  rw [tk hq] at key
  exact key
end Go.Proofs.Yteekkjfjpoaihaa.Eng
namespace Go.Proofs.Yteekkjfjpoaihaa.Eng
open Go Go.Proofs
def cW (w : Int) (n : Int) (q : List Int) (m : Nat) : Bool := checkP n q m == w
def cE (w : Int) (n : Int) (q : List Int) (m : Nat) : Bool := (checkP n q m == w) && err1 n q m
def oW (e : Int) (n : Int) (q : List Int) (m : Nat) : Bool := orderE n q m == e
def oE (e : Int) (n : Int) (q : List Int) (m : Nat) : Bool := (orderE n q m == e) && ord1 n q m
def iB (b : Bool) (n : Int) (q : List Int) (m : Nat) : Bool := isOrd n q m == b
def gAwake (args : List AV) (_ : Nat → Option HO) : Option (Bool × TV × List Nat) := match args with
  | [] => some (true, B true, [])
  | _ => none
theorem gAwake_fp : PureFp gAwake := fun args h h' q hg hf => hg
def L6 (w e : Int) (b : Bool) : List (Nat × Spec) := [(11, pureS gAwake), (39, spFew), (40, pureS (intPairsX 0 (cW w) fun _ _ _ => I w)), (28, pureS (intPairsX 0 (iB b) fun _ _ _ => B b)), (41, pureS (intPairsX 0 (cW w) fun _ _ _ => I w)), (13, pureS (intPairsX 0 (oW e) fun _ _ _ => I e)), (42, pureS (intPairsX 0 (cE w) fun _ _ _ => .tup [.s .nils, .s (.int .i64 w)])), (9, pureS (intPairsX 0 (cE w) fun _ _ _ => .tup [.s (.int .i64 0), .s (.int .i64 w)])), (8, pureS (intPairsX 0 (cE w) fun _ _ _ => .tup [.s (.int .i64 0), .s (.int .i64 w)])), (10, pureS (intPairsX 0 (cE w) fun _ _ _ => .tup [.s .nils, .s (.bool false), .s (.int .i64 w)])), (45, pureS (intPairsX 0 (cE w) fun _ _ _ => .tup [.s .nils, .s (.bool false), .s (.int .i64 w)])), (46, pureS (intPairsX 1 (cE w) fun _ _ _ => .tup [.s (.bool false), .s (.int .i64 w)])), (47, pureS (intPairsX 0 (cE w) fun _ _ _ => .tup [.pb [.nils, .nils] 0 ff, .s (.bool false), .s (.int .i64 w)])), (43, pureS (intPairsP 2 (cE w) fun _ _ _ => .tup [.s (.bool false), .s (.int .i64 w)])), (44, pureS (intPairsP 1 (cE w) fun _ _ _ => .tup [.s .nils, .s (.int .i64 w)])), (12, pureS (intPairsX 0 (oE e) fun _ _ _ => .tup [.s .nils, .s (.int .i64 e)])), (19, pureS (intPairsX 0 (oE e) fun _ _ _ => .tup [.s .nils, .s (.int .i64 e)])), (20, pureS (intPairsX 0 (oE e) fun _ _ _ => .tup [.s .nils, .s (.int .i64 e)])), (29, pureS (intPairsX 0 (oE e) fun _ _ _ => .tup [.pb [.nils, .nils] 0 ff, .s (.bool false), .s (.int .i64 e)]))]
noncomputable abbrev g6 (w e : Int) (b : Bool) : Cal → Option Spec := specsΓ (L6 w e b)
end Go.Proofs.Yteekkjfjpoaihaa.Eng
namespace Go.Proofs.Yteekkjfjpoaihaa.Eng
open Go Go.Proofs
theorem pairAt_eq (q : List Int) (i : Nat) (a b : Int) : pairAt q i a b = (pa q i == a && pb q i == b) := rfl
theorem hasP_succ (q : List Int) (m : Nat) (a b : Int) : hasP q (m + 1) a b = (hasP q m a b || pairAt q m a b) := by
  unfold hasP
  rw [List.range_succ, List.any_append]
  simp
theorem hasP_iff (q : List Int) (m : Nat) (a b : Int) : hasP q m a b = true ↔ ∃ i, i < m ∧ pa q i = a ∧ pb q i = b := by
  unfold hasP
  simp only [List.any_eq_true, List.mem_range, pairAt_eq, Bool.and_eq_true, beq_iff_eq]
theorem at7_relS {f : Nat → Bool} {a b : Int} {x y : Nat} (ha : 0 ≤ a ∧ a < 7) (hb : 0 ≤ b ∧ b < 7) (hx : x < 7) (hy : y < 7) : at7 (relS f a b) x y = (at7 f x y || (a == (x : Int) && b == (y : Int))) := by
  unfold at7 relS
  simp only [List.length_nil]
  by_cases h : a = (x : Int) ∧ b = (y : Int)
  · obtain ⟨rfl, rfl⟩ := h
    rw [beqT (by simp)]
    simp
  · rw [beqF (by omega)]
    have : (a == (x : Int) && b == (y : Int)) = false := by
      cases hh : (a == (x : Int) && b == (y : Int)) with
      | false => rfl
      | true => simp at hh; exact absurd hh h
    rw [this, cond_false, Bool.or_false]
theorem relF_at {n : Int} {q : List Int} (hn : (decide (n < 1) || decide (n > 7)) = false) : ∀ {m : Nat}, (∀ i, i < m → badO n q i = false) → ∀ {x y : Nat}, x < 7 → y < 7 → at7 (relF q m) x y = hasP q m x y
  | 0, _, x, y, hx, hy => rfl
  | m + 1, h, x, y, hx, hy => by
    obtain ⟨h1, h2⟩ := badO_rng hn (h m (by omega))
    show at7 (relS (relF q m) (pa q m) (pb q m)) x y = _
    rw [at7_relS h1 h2 hx hy, hasP_succ, pairAt_eq, relF_at hn (fun i hi => h i (by omega)) hx hy]
theorem any_of {f : Nat → Bool} {m i : Nat} (hi : i < m) (h : f i = true) : (List.range m).any f = true := by
  rw [List.any_eq_true]
  exact ⟨i, List.mem_range.2 hi, h⟩
theorem orderE_isOrd {n : Int} {q : List Int} {m : Nat} (hn : (decide (n < 1) || decide (n > 7)) = false) : orderE n q m = bif isOrd n q m then 0 else 30 := by
  unfold orderE isOrd
  rw [hn, cond_false]
  cases hb : (List.range m).any (badO n q) with
  | true =>
    obtain ⟨i, h1, h2, _⟩ := any_first _ _ hb
    have : badI n q m i = true := by
      unfold badI
      have : bad28 n q m i (pa q i) (pb q i) = true := by
        simp only [badO, badD, Bool.or_eq_true, decide_eq_true_eq] at h2
        simp only [bad28, Bool.or_eq_true, decide_eq_true_eq]
        rcases h2 with ((h2 | h2) | h2) | h2
        · rw [Int.min_def] at h2
          split at h2 <;> simp [h2]
        · rw [ge_iff_le, Int.max_def] at h2
          split at h2 <;> simp [h2]
        · simp [h2]
        · simp [h2]
      rw [this]; rfl
    rw [any_of h1 this]
    rfl
  | false =>
    have h3 := any_none _ _ hb
    rw [cond_false]
    have hat : ∀ {x y : Nat}, x < 7 → y < 7 → at7 (relF q m) x y = hasP q m x y := fun hx hy => relF_at hn h3 hx hy
    cases ht : transB (relF q m) with
    | false =>
      simp only [transB, Bool.not_eq_false'] at ht
      obtain ⟨x, hx, h, _⟩ := any_first _ _ ht
      obtain ⟨y, hy, h, _⟩ := any_first _ _ h
      simp only [bb51, Bool.and_eq_true, Bool.or_eq_true] at h
      obtain ⟨h1, h2⟩ := h
      rw [hat hx hy, hasP_iff] at h1
      obtain ⟨i, hi, h4, h5⟩ := h1
      have : badI n q m i = true := by
        unfold badI
        rw [h4, h5, Bool.or_eq_true]
        rcases h2 with h2 | h2
        · rw [hat hy hx] at h2
          exact .inl (by simp [bad28, h2])
        · obtain ⟨z, hz, h, _⟩ := any_first _ _ h2
          simp only [bc51, Bool.and_eq_true, Bool.not_eq_true'] at h
          rw [hat hy hz, hat hx hz, hasP_iff] at h
          obtain ⟨⟨k, hk, h6, h7⟩, h8⟩ := h
          exact .inr (any_of hk (by simp [in28, h6, h7, h8]))
      rw [any_of hi this]
      rfl
    | true =>
      cases hI : (List.range m).any (badI n q m) with
      | false => rfl
      | true =>
        exfalso
        obtain ⟨i, hi, h, _⟩ := any_first _ _ hI
        have hbo := h3 i hi
        obtain ⟨⟨r1, r2⟩, r3, r4⟩ := badO_rng hn hbo
        have hxy : hasP q m (pa q i) (pb q i) = true := (hasP_iff _ _ _ _).2 ⟨i, hi, rfl, rfl⟩
        have key : ∀ {x y : Nat}, x < 7 → y < 7 → bb51 (relF q m) x y = false := fun {x y} hx hy => by
          simp only [transB, Bool.not_eq_true'] at ht
          exact any_none _ _ (any_none _ _ ht x hx) y hy
        have hk := key (x := (pa q i).toNat) (y := (pb q i).toNat) (by omega) (by omega)
        have ea : (((pa q i).toNat : Nat) : Int) = pa q i := by omega
        have eb : (((pb q i).toNat : Nat) : Int) = pb q i := by omega
        simp only [bb51, hat (show (pa q i).toNat < 7 by omega) (show (pb q i).toNat < 7 by omega), hat (show (pb q i).toNat < 7 by omega) (show (pa q i).toNat < 7 by omega), ea, eb, hxy, Bool.true_and, Bool.or_eq_false_iff] at hk
        simp only [badI, Bool.or_eq_true] at h
        rcases h with h | h
        · simp only [badO, badD, Bool.or_eq_false_iff, decide_eq_false_iff_not] at hbo
          obtain ⟨⟨⟨b1, b2⟩, b3⟩, b4⟩ := hbo
          simp only [bad28, b3, b4, hk.1, Bool.or_false, Bool.or_eq_true, decide_eq_true_eq] at h
          omega
        · obtain ⟨k, hk1, hk2, _⟩ := any_first _ _ h
          simp only [in28, Bool.and_eq_true, beq_iff_eq, Bool.not_eq_true'] at hk2
          obtain ⟨⟨s1, s2⟩, s3, s4⟩ := badO_rng hn (h3 k hk1)
          have := any_none _ _ hk.2 (pb q k).toNat (by omega)
          have ec : (((pb q k).toNat : Nat) : Int) = pb q k := by omega
          simp only [bc51, hat (show (pb q i).toNat < 7 by omega) (show (pb q k).toNat < 7 by omega), hat (show (pa q i).toNat < 7 by omega) (show (pb q k).toNat < 7 by omega), ea, eb, ec, hk2.2, Bool.not_false, Bool.and_true] at this
          rw [(hasP_iff _ _ _ _).2 ⟨k, hk1, hk2.1, rfl⟩] at this
          cases this
end Go.Proofs.Yteekkjfjpoaihaa.Eng
namespace Go.Proofs.Yteekkjfjpoaihaa.Eng
open Go Go.Proofs
theorem nodup_range (k : Nat) : nodupB (List.range k) = true := by
  have key : ∀ l : List Nat, l.Nodup → nodupB l = true := by
    intro l
    induction l with
    | nil => intro _; rfl
    | cons a l ih =>
      intro h
      obtain ⟨h1, h2⟩ := List.nodup_cons.1 h
      simp only [nodupB, Bool.and_eq_true, Bool.not_eq_true', ih h2, and_true]
      cases hh : l.any (Nat.beq a) with
      | false => rfl
      | true => exact absurd (any_beq.1 hh) h1
  exact key _ List.nodup_range
section
variable {P : Program} {T : Tab}
/-- a function that hands back values with new objects: all that its last state shows -/
theorem shown_news {x : XFn} {m0 : MM} {hs : List HO} {args0 : List AV} {vals : List Value} {w : World} {tv : TV} {base : Nat} {ts : List (Nat × Slot)} {hs' : List HO} {nx : Nat} {ex : XE} (hview : RoView (compC T) m0 hs w) (hargs : All2 (AR m0) args0 vals) (hlen : Nat.ble args0.length x.nt = true)
    (hrun : Exec P T none x.nt 0 x.body (startSt args0 hs) ex (mkSt ts hs' nx [])) (hex : ex ≠ .n → ex = .r) (hres : resV (mkSt ts hs' nx []).sl.get (mkSt ts hs' nx []).hp.get x.res = some (true, tv))
    (hids : tv.ids.all (fun j => Nat.blt j hs'.length) = true) (ho : hs'.all (fun ho => !ho.ro && ho.live && !ho.o.isLoop && ho.o.ids.all fun j => Nat.blt j hs'.length) = true) :
    Shown P T x m0 hs args0 vals w (tv.ren (renN (List.range hs'.length) base)) (hs'.map fun ho => ho.ren (renN (List.range hs'.length) base)) base where
  view := hview
  args := hargs
  len := Nat.le_of_ble_eq_true hlen
  run := ⟨mkSt ts hs' nx [], ex, tv, List.range hs'.length, hrun, by by_cases h : ex = .n; exact .inl h; exact .inr (hex h), rfl, hres, nodup_range _,
    fun j hj => List.mem_range.2 (Nat.le_of_ble_eq_true (List.all_eq_true.1 hids j hj)), rfl, by simp, fun k id h => by
      have hk : k < hs'.length := by
        have := (List.getElem?_eq_some_iff.1 h).1
        simpa using this
      rw [List.getElem?_range hk] at h
      cases h
      have hin := List.all_eq_true.1 ho hs'[k] (List.getElem_mem _)
      simp only [Bool.and_eq_true, Bool.not_eq_true'] at hin
      refine ⟨hs'[k], ?_, hin.1.1.1, hin.1.1.2, hin.1.2, fun j hj => List.mem_range.2 (Nat.le_of_ble_eq_true (List.all_eq_true.1 hin.2 j hj)), ?_⟩
      · show leaveH _ [] k = _
        simp only [leaveH]
        rw [mkSt_hp]
        simp [hk]
      · simp [hk]⟩
/-- .. where rounds have left lists of what is deferred -/
theorem shown_newsD {x : XFn} {m0 : MM} {hs : List HO} {args0 : List AV} {vals : List Value} {w : World} {tv : TV} {base : Nat} {ts : List (Nat × Slot)} {hs' news : List HO} {nx : Nat} {df : List Nat} {ex : XE} (hview : RoView (compC T) m0 hs w) (hargs : All2 (AR m0) args0 vals) (hlen : Nat.ble args0.length x.nt = true)
    (hrun : Exec P T none x.nt 0 x.body (startSt args0 hs) ex (mkSt ts hs' nx df)) (hex : ex ≠ .n → ex = .r) (hd : dfOk (mkSt ts hs' nx df).hp.get df = true) (hres : resV (mkSt ts hs' nx df).sl.get (leaveH (mkSt ts hs' nx df).hp.get df) x.res = some (true, tv))
    (hids : tv.ids.all (fun j => Nat.blt j news.length) = true) (hch : (List.range news.length).map (leaveH (mkSt ts hs' nx df).hp.get df) = news.map some) (ho : news.all (fun ho => !ho.ro && ho.live && !ho.o.isLoop && ho.o.ids.all fun j => Nat.blt j news.length) = true) :
    Shown P T x m0 hs args0 vals w (tv.ren (renN (List.range news.length) base)) (news.map fun ho => ho.ren (renN (List.range news.length) base)) base where
  view := hview
  args := hargs
  len := Nat.le_of_ble_eq_true hlen
  run := ⟨mkSt ts hs' nx df, ex, tv, List.range news.length, hrun, by by_cases h : ex = .n; exact .inl h; exact .inr (hex h), hd, hres, nodup_range _,
    fun j hj => List.mem_range.2 (Nat.le_of_ble_eq_true (List.all_eq_true.1 hids j hj)), rfl, by simp, fun k id h => by
      have hk : k < news.length := by
        have := (List.getElem?_eq_some_iff.1 h).1
        simpa using this
      rw [List.getElem?_range hk] at h
      cases h
      have hin := List.all_eq_true.1 ho news[k] (List.getElem_mem _)
      simp only [Bool.and_eq_true, Bool.not_eq_true'] at hin
      refine ⟨news[k], ?_, hin.1.1.1, hin.1.1.2, hin.1.2, fun j hj => List.mem_range.2 (Nat.le_of_ble_eq_true (List.all_eq_true.1 hin.2 j hj)), ?_⟩
      · have := congrArg (fun l => l[k]?) hch
        simp only [List.getElem?_map, List.getElem?_range hk, List.getElem?_eq_getElem hk, Option.map_some, Option.some.injEq] at this
        exact this
      · simp [hk]⟩
end
/-- a graph, or another row, as one that is only read -/
theorem view_row {cmp : Cmp} {ctx : Ctx} {m : MM} {h : Nat → Option HO} {w : World} {id : Nat} {v : Value} {ro : Bool} {ty : TypeId} {n : Int} {k : Nat} {f g : Nat → Bool} (hH : HRel cmp ctx m h w) (hv : AR m (.s (.ptr id 0 0)) v) (hs : h id = some ⟨ro, .row ty [.int .i64 n] k f⟩) (hfg : eqB k f g = true) :
    ∃ mb : MB, (∀ m', OR cmp m' mb (.row ty [.int .i64 n] k g) w) ∧ (∀ b, mb.b = some b → b < w.heap.size) ∧ (∀ (m' : MM) id', m' id' = some mb → SR m' (.ptr id' 0 0) v) := by
  obtain ⟨mb, b, hm, hb, rfl⟩ := hv
  obtain ⟨mb', h1, h2, h3, _⟩ := hH.obj id _ hs
  rw [hm] at h1
  cases h1
  refine ⟨mb, fun m' => ?_, fun b' hb' => h3 rfl b' hb', fun m' id' hm' => ⟨mb, b, hm', hb, rfl⟩⟩
  obtain ⟨b', cs, e1, e2, e3, vs, e4, e5, e6⟩ := h2
  refine ⟨b', cs, e1, e2, e3, vs, ?_, e5, by rw [e6, eqB_cells hfg]⟩
  match vs, e4 with
  | [u], ⟨hu, _⟩ => exact ⟨hu, trivial⟩
/-- the runner with no calls but in place -/
def none0 : FuncId → Option Spec := fun _ => none
theorem none0_ok : SpecsOK PP T none0 := ⟨fun _ _ h => (by cases h), fun _ _ h => (by cases h), fun _ _ h => (by cases h)⟩
noncomputable abbrev gA : Cal → Option Spec := gam F none0 200 6
theorem envA : EnvOK PP T gA := gam_ok tokP eqokP mixP F_ok none0_ok 200 6
def bitF (k : Nat) : Nat → Bool := fun j => Nat.testBit k j
abbrev HR (k : Nat) (n : Int) : List HO := [⟨true, .row 115 [.int .i64 n] 49 (bitF k)⟩]
end Go.Proofs.Yteekkjfjpoaihaa.Eng
namespace Go.Proofs.Yteekkjfjpoaihaa.Eng
open Go Go.Proofs
section
variable {P : Program} {T : Tab} {r : Option Nat} {Γ : Cal → Option Spec} {nt kp : Nat}
def liveAt (hs : List HO) (j : Nat) : Bool := match hs[j]? with | some h => h.live | none => false
/-- the conditions of another view that may drop objects and keeps loops where they are -/
def mkOkG (ts : List (Nat × Slot)) (hs : List HO) (ids : List Nat) (kp : Nat) : Bool :=
  ts.all (fun p => p.2.v.idsLt hs.length) && hs.all (fun h => h.o.idsLt hs.length && (!h.o.isLoop || h.o.ids.all fun j => Nat.beq (ids.getD j 0) j)) && ((List.range hs.length).all fun i => (List.range hs.length).all fun j => Nat.beq i j || (!(liveAt hs i) || (!(liveAt hs j) || !(Nat.beq (ids.getD i 0) (ids.getD j 0))))) && Nat.beq ids.length hs.length && keepsK kp ids 0
theorem live_gone {h : HO} (hl : h.live = false) : h.o = .gone := by
  unfold HO.live at hl
  cases ho : h.o <;> rw [ho] at hl <;> first | rfl | cases hl
theorem HO.live_ren (ρ : Nat → Nat) (ho : HO) : (ho.ren ρ).live = ho.live := by
  unfold HO.live HO.ren
  cases ho.o <;> rfl
theorem weak_mkG {S : St} {ts : List (Nat × Slot)} {hs : List HO} {nx : Nat} {df : List Nat} {ids : List Nat} (hok : mkOkG ts hs ids kp = true)
    (hts : ∀ p ∈ ts, S.sl.get p.1 = some ⟨p.2.c, p.2.v.ren fun j => ids.getD j 0⟩) (hhs : ∀ j h, hs[j]? = some h → (h.live = true → S.hp.get (ids.getD j 0) = some (h.ren fun j => ids.getD j 0)) ∧ (h.live = false → (S.hp.get (ids.getD j 0)).isSome = true)) (hdf : S.df = df.map fun j => ids.getD j 0) (hdl : ∀ j ∈ df, j < hs.length) :
    Weak T kp S (mkSt ts hs nx df) := by
  intro ctx nt m a w hR
  simp only [mkOkG, Bool.and_eq_true] at hok
  obtain ⟨⟨⟨⟨h1, h2⟩, h3⟩, h4⟩, h5⟩ := hok
  have hlen := Nat.eq_of_beq_eq_true h4
  let m2 : MM := fun j => if j < hs.length then m (ids.getD j 0) else none
  have hm2 : ∀ j, j < hs.length → m2 j = m (ids.getD j 0) := fun j hj => by simp only [m2, if_pos hj]
  have hdist : ∀ i j hi hj, hs[i]? = some hi → hs[j]? = some hj → hi.live = true → hj.live = true → i ≠ j → ids.getD i 0 ≠ ids.getD j 0 := by
    intro i j hi hj e1 e2 l1 l2 hne he
    have g1 := (List.getElem?_eq_some_iff.1 e1).1
    have g2 := (List.getElem?_eq_some_iff.1 e2).1
    have := List.all_eq_true.1 (List.all_eq_true.1 h3 i (List.mem_range.2 g1)) j (List.mem_range.2 g2)
    simp only [liveAt, e1, e2, l1, l2, Bool.not_true, Bool.false_or, Bool.or_eq_true, Bool.not_eq_true'] at this
    rcases this with h | h
    · exact hne (Nat.eq_of_beq_eq_true h)
    · rw [beqT he] at h; cases h
  refine ⟨m2, fun id mb hid hmb => ?_, fun t s hts' => ?_, hR.size, ?_, ?_⟩
  · have := keepsK_spec h5 id hid
    have hl : id < ids.length := (List.getElem?_eq_some_iff.1 this).1
    rw [hm2 id (by omega)]
    have e : ids.getD id 0 = id := by rw [List.getD_eq_getElem?_getD, this]; simp
    rw [e]
    exact hmb
  · have hm := alGet_mem hts'
    have := hts _ hm
    have hs1 := hR.slot t _ this
    refine ⟨fun c => TR.unren (hs1.1 c) fun j hj => hm2 j ?_, hs1.2⟩
    have := List.all_eq_true.1 (List.all_eq_true.1 h1 _ hm) j hj
    exact Nat.le_of_ble_eq_true this
  · refine ⟨fun id ho hid => ?_, fun id id' ho ho' mb mb' b hne hid hid' hro hl hl' hm hm' hb => ?_, fun id hid => ?_, hR.heap.os, hR.heap.tape, hR.heap.output, hR.heap.size, hR.heap.same0⟩
    · rw [mkSt_hp] at hid
      have hlt := (List.getElem?_eq_some_iff.1 hid).1
      have hin := List.all_eq_true.1 h2 ho (List.mem_of_getElem? hid)
      simp only [Bool.and_eq_true, Bool.or_eq_true, Bool.not_eq_true'] at hin
      cases hlv : ho.live with
      | true =>
        obtain ⟨mb, g1, g2, g3, g4⟩ := hR.heap.obj _ _ ((hhs id ho hid).1 hlv)
        refine ⟨mb, by rw [hm2 id hlt]; exact g1, ?_, fun _ => g3 (by rw [HO.live_ren]; exact hlv), fun hro _ => g4 hro (by rw [HO.live_ren]; exact hlv)⟩
        rcases hin.2 with hl | hl
        · exact OR.unren g2 (fun j hj => hm2 j (Nat.le_of_ble_eq_true (List.all_eq_true.1 hin.1 j hj))) hl
        · have hfix : ∀ j ∈ ho.o.ids, m2 j = m j := fun j hj => by
            rw [hm2 j (Nat.le_of_ble_eq_true (List.all_eq_true.1 hin.1 j hj)), Nat.eq_of_beq_eq_true (List.all_eq_true.1 hl j hj)]
          cases hlo : ho.o.isLoop with
          | false => exact OR.unren g2 (fun j hj => hm2 j (Nat.le_of_ble_eq_true (List.all_eq_true.1 hin.1 j hj))) hlo
          | true =>
            have e : (ho.ren fun j => ids.getD j 0).o = ho.o := by
              unfold HO.ren
              cases ho' : ho.o <;> rw [ho'] at hlo <;> first | rfl | cases hlo
            rw [e] at g2
            exact g2.sub hfix
      | false =>
        obtain ⟨h', hh'⟩ := Option.isSome_iff_exists.1 ((hhs id ho hid).2 hlv)
        obtain ⟨mb, g1, _⟩ := hR.heap.obj _ _ hh'
        refine ⟨mb, by rw [hm2 id hlt]; exact g1, ?_, fun h => by simp at h, fun _ h => by simp at h⟩
        rw [live_gone hlv]
        trivial
    · rw [mkSt_hp] at hid hid'
      have hlt := (List.getElem?_eq_some_iff.1 hid).1
      have hlt' := (List.getElem?_eq_some_iff.1 hid').1
      rw [hm2 id hlt] at hm
      rw [hm2 id' hlt'] at hm'
      exact hR.heap.dist _ _ _ _ mb mb' b (hdist id id' ho ho' hid hid' hl hl' hne) ((hhs id ho hid).1 hl) ((hhs id' ho' hid').1 hl') hro (by rw [HO.live_ren]; exact hl) (by rw [HO.live_ren]; exact hl') hm hm' hb
    · rw [mkSt_hp, List.getElem?_eq_none_iff] at hid
      simp only [m2, if_neg (by omega : ¬ id < hs.length)]
  · show All2 _ df a.defers
    have := hR.df
    rw [hdf] at this
    revert this hdl
    generalize a.defers = ds
    clear hdf
    induction df generalizing ds with
    | nil => intro _ h; cases ds with
      | nil => trivial
      | cons _ _ => exact h.elim
    | cons x df ih =>
      intro hd h
      cases ds with
      | nil => exact h.elim
      | cons d ds =>
        obtain ⟨⟨mb, b, e1, e2⟩, h2⟩ := h
        exact ⟨⟨mb, b, by rw [hm2 x (hd x (by simp))]; exact e1, e2⟩, ih ds (fun j hj => hd j (by simp [hj])) h2⟩
/-- what is looked at: the slots, the live objects -/
def lookH (h : HO) (x : Option HO) : Option HO := bif h.live then x else x.map fun _ => goneH
noncomputable def viewG (ts ids : List Nat) (hs : List HO) (S : St) : List (Option Slot) × List (Option HO) × List Nat :=
  (ts.map S.sl.get, (ids.zip hs).map fun p => lookH p.2 (S.hp.get p.1), S.df)
theorem weak_viewG {S : St} {ts : List (Nat × Slot)} {hs : List HO} {nx : Nat} {df ids : List Nat}
    (hv : viewG (ts.map (·.1)) ids hs S = (ts.map (fun p => some ⟨p.2.c, p.2.v.ren fun j => ids.getD j 0⟩), hs.map (fun h => some (bif h.live then h.ren fun j => ids.getD j 0 else goneH)), df.map fun j => ids.getD j 0))
    (hok : mkOkG ts hs ids kp = true) (hdl : df.all (fun j => Nat.blt j hs.length) = true) : Weak T kp S (mkSt ts hs nx df) := by
  simp only [viewG, Prod.mk.injEq] at hv
  obtain ⟨h3, h4, h5⟩ := hv
  refine weak_mkG (ids := ids) hok (fun p hp => ?_) (fun j h hj => ?_) h5 fun j hj => Nat.le_of_ble_eq_true (List.all_eq_true.1 hdl j hj)
  · rw [List.map_map] at h3
    exact List.map_inj_left.1 h3 p hp
  · have hok' := hok
    simp only [mkOkG, Bool.and_eq_true] at hok'
    have hlen := Nat.eq_of_beq_eq_true hok'.1.2
    have hlt : j < hs.length := (List.getElem?_eq_some_iff.1 hj).1
    have e : ids[j]? = some (ids.getD j 0) := by
      have : j < ids.length := by omega
      simp [this]
    have hz : (ids.zip hs)[j]? = some (ids.getD j 0, h) := by
      rw [List.getElem?_zip_eq_some]
      exact ⟨e, hj⟩
    have := congrArg (fun l => l[j]?) h4
    simp only [List.getElem?_map, hz, hj, Option.map_some, Option.some.injEq] at this
    unfold lookH at this
    refine ⟨fun hl => ?_, fun hl => ?_⟩
    · rw [hl, cond_true, cond_true] at this
      exact this
    · rw [hl, cond_false] at this
      cases hg : S.hp.get (ids.getD j 0) with
      | none => rw [hg] at this; cases this
      | some x => rfl
noncomputable def vwG (ts ids : List Nat) (hs : List HO) (q : Option (Bool × XE × St × List Bool)) : Option (XE × List (Option Slot) × List (Option HO) × List Nat) :=
  q.map fun q => (q.2.1, viewG ts ids hs q.2.2.1)
theorem exec_orunG (hE : EnvOK P T Γ) (inr : Bool) (k : Nat) (os : List Bool) (ids : List Nat) (hr : inr = false → r = none) {c : XC} {S : St} {e : XE} {ts : List (Nat × Slot)} {hs : List HO} {nx : Nat} {df : List Nat}
    (hv : vwG (ts.map (·.1)) ids hs (orun Γ inr k c S os) = some (e, ts.map (fun p => some ⟨p.2.c, p.2.v.ren fun j => ids.getD j 0⟩), hs.map (fun h => some (bif h.live then h.ren fun j => ids.getD j 0 else goneH)), df.map fun j => ids.getD j 0))
    (hok : mkOkG ts hs ids kp = true) (hdl : df.all (fun j => Nat.blt j hs.length) = true) (hob : obOf (orun Γ inr k c S os) = true) : Exec P T r nt kp c S e (mkSt ts hs nx df) := by
  unfold vwG at hv
  cases ho : orun Γ inr k c S os with
  | none => rw [ho] at hv; cases hv
  | some q =>
    obtain ⟨v, e1, S1, os1⟩ := q
    rw [ho] at hv hob
    simp only [Option.map_some, Option.some.injEq, Prod.mk.injEq] at hv
    obtain ⟨rfl, hv⟩ := hv
    exact (orun_snd hE hr k c S S1 os os1 e1 v ho hob).1.post (weak_viewG hv hok hdl)
end
open Classical in
noncomputable def atB (A A' : List AV) (H H' : Nat → Option HO) (B B' : Nat) : Bool := decide (A' = A ∧ H' = H ∧ B' = B)
theorem atB_t {A A' : List AV} {H H' : Nat → Option HO} {B B' : Nat} (h1 : A' = A) (h2 : H' = H) (h3 : B' = B) : atB A A' H H' B B' = true := by
  unfold atB
  simp [h1, h2, h3]
theorem atB_of {A A' : List AV} {H H' : Nat → Option HO} {B B' : Nat} (h : atB A A' H H' B B' = true) : A' = A ∧ H' = H ∧ B' = B := by
  unfold atB at h
  simpa using h
noncomputable def spAt (A : List AV) (H : Nat → Option HO) (B : Nat) (val : TV) (upd : List (Nat × HO)) (news : List HO) : Spec where
  run := fun args h base => some ⟨atB A args H h B base, val, upd, news, none⟩
theorem spAt_fp {A : List AV} {H : Nat → Option HO} {B : Nat} {val : TV} {upd : List (Nat × HO)} {news : List HO} : SpecFp (spAt A H B val upd news) := by
  intro args h h' base e hr hf
  simp only [spAt, Option.some.injEq] at hr
  subst hr
  have hf : h' = h := hf
  subst hf
  rfl
section
variable {P : Program} {T : Tab}
/-- the renaming of what is new -/
def renK (K B : Nat) : Nat → Nat := fun j => if K ≤ j then B + (j - K) else j
/-- the end of a contract at one place: the first K ids stay, the others are new -/
theorem stp_at {cmp : Cmp} {ctx : Ctx} {m m1 : MM} {h : Nat → Option HO} {w w1 : World} {B K : Nat} {upd : List (Nat × HO)} {news hs1 : List HO} (hH : HRel cmp ctx m h w) (hfr : ∀ k, k < news.length → h (B + k) = none)
    (hH1 : HRel cmp ⟨w, wbOf m upd⟩ m1 (fun j => hs1[j]?) w1) (hk : ∀ id, id < K → m1 id = m id) (hlen : hs1.length = K + news.length)
    (hnew : (List.range news.length).all (fun k => match hs1[K + k]? with | some o => !o.ro && o.live && !o.o.isLoop | none => false) = true) (hnews : news = (hs1.drop K).map (HO.ren (renK K B)))
    (hupd : ∀ u ∈ upd, (u.2.live = false ∧ ∃ mb, m u.1 = some mb) ∨ (u.1 < K ∧ ∃ o, hs1[u.1]? = some o ∧ o.live = true ∧ u.2.o = o.o.ren (renK K B) ∧ (o.o.isLoop = true → ∀ j ∈ o.o.ids, j < K)))
    (hids : ∀ (j : Nat) (o : HO), hs1[j]? = some o → ∀ i ∈ o.o.ids, i < hs1.length) :
    Stp cmp m (subM m m1 (fun k => K + k) B news.length) w w1 upd B news := by
  have hren : ∀ j, j < hs1.length → subM m m1 (fun k => K + k) B news.length (renK K B j) = m1 j := by
    intro j hj
    unfold renK
    by_cases hK : K ≤ j
    · rw [if_pos hK]
      unfold subM
      rw [if_pos (by omega)]
      show m1 (K + (B + (j - K) - B)) = _
      rw [show K + (B + (j - K) - B) = j by omega]
    · rw [if_neg hK]
      unfold subM
      rw [hk j (by omega)]
      by_cases hB : B ≤ j ∧ j < B + news.length
      · rw [if_pos hB]
        have e1 := hH.dom j (by have := hfr (j - B) (by omega); rwa [show B + (j - B) = j by omega] at this)
        obtain ⟨mb, g1, _⟩ := hH1.obj j hs1[j] (by simp [hj])
        rw [hk j (by omega), e1] at g1
        cases g1
      · rw [if_neg hB]
  have hget : ∀ k, k < news.length → ∃ o, hs1[K + k]? = some o ∧ o.ro = false ∧ o.live = true ∧ o.o.isLoop = false := by
    intro k hkl
    have := List.all_eq_true.1 hnew k (List.mem_range.2 hkl)
    split at this
    · rename_i o ho
      simp only [Bool.and_eq_true, Bool.not_eq_true'] at this
      exact ⟨o, ho, this.1.1, this.1.2, this.2⟩
    · cases this
  refine sub_stp hH hfr hH1 (fun i j _ _ h => by omega) (fun k hkl => ?_) (fun u hu hl => ?_) (fun u hu => ?_) fun k ho hko => ?_
  · obtain ⟨o, h1, h2, h3, _⟩ := hget k hkl
    exact ⟨o, h1, h2, h3⟩
  · rcases hupd u hu with ⟨h1, _⟩ | ⟨h1, o, h2, h3, _⟩
    · rw [h1] at hl; cases hl
    · exact ⟨u.1, o, h2, h3, hk _ h1, fun k _ => by omega⟩
  · rcases hupd u hu with ⟨h1, mb, h2⟩ | ⟨h1, o, h2, h3, h4, h5⟩
    · refine ⟨mb, h2, ?_⟩
      rw [live_gone h1]
      trivial
    · obtain ⟨mb, g1, g2, _⟩ := hH1.obj _ _ h2
      refine ⟨mb, by rw [← hk _ h1]; exact g1, ?_⟩
      rw [h4]
      exact g2.ren (fun j hj => hren j (hids _ _ h2 j hj)) fun hl j hj => by unfold renK; rw [if_neg (by have := h5 hl j hj; omega)]
  · have hkl : k < news.length := (List.getElem?_eq_some_iff.1 hko).1
    obtain ⟨o, h1, h2, h3, h4⟩ := hget k hkl
    obtain ⟨mb, g1, g2, _⟩ := hH1.obj _ _ h1
    refine ⟨mb, g1, ?_⟩
    have e : ho = o.ren (renK K B) := by
      rw [hnews] at hko
      rw [List.getElem?_map, List.getElem?_drop, h1] at hko
      simpa using hko.symm
    rw [e]
    exact g2.ren (fun j hj => hren j (hids _ _ h1 j hj)) fun hl => by rw [h4] at hl; cases hl
/-- the heap at its start, as far as it may be turned -/
theorem hrel_at {cmp : Cmp} {ctx : Ctx} {m : MM} {H : Nat → Option HO} {w : World} {S : Sto HO} {upd : List (Nat × HO)} (hH : HRel cmp ctx m H w) (hd : ∀ j, S.get j = none → H j = none)
    (hS : ∀ (j : Nat) (o : HO), S.get j = some o → ∃ o' : HO, H j = some o' ∧ o'.o = o.o ∧ (o.ro = false → o'.ro = false ∧ (o.live = true → ∃ u ∈ upd, u.1 = j))) : HRel cmp ⟨w, wbOf m upd⟩ m S.get w where
  obj := fun id ho hid => by
    obtain ⟨o', h1, h2, h3⟩ := hS id ho hid
    obtain ⟨mb, g1, g2, g3, g4⟩ := hH.obj id o' h1
    have hl : o'.live = ho.live := by unfold HO.live; rw [h2]
    refine ⟨mb, g1, by rw [← h2]; exact g2, fun hlv => g3 (by rw [hl]; exact hlv), fun hro hlv b hb => ?_⟩
    obtain ⟨u, hu, e⟩ := (h3 hro).2 hlv
    exact .inr ⟨u, hu, mb, by rw [e]; exact g1, hb⟩
  dist := fun id id' ho ho' mb mb' b hne hid hid' hro hl hl' hm hm' hb => by
    obtain ⟨o1, h1, h2, h3⟩ := hS id ho hid
    obtain ⟨o2, k1, k2, _⟩ := hS id' ho' hid'
    exact hH.dist id id' o1 o2 mb mb' b hne h1 k1 (h3 hro).1 (by unfold HO.live at hl ⊢; rw [h2]; exact hl) (by unfold HO.live at hl' ⊢; rw [k2]; exact hl') hm hm' hb
  dom := fun id hid => hH.dom id (hd id hid)
  os := rfl
  tape := rfl
  output := rfl
  size := Nat.le_refl _
  same0 := fun _ _ _ => rfl
end
end Go.Proofs.Yteekkjfjpoaihaa.Eng
namespace Go.Proofs.Yteekkjfjpoaihaa.Eng
open Go Go.Proofs
@[simp] theorem atB_self {A : List AV} {H : Nat → Option HO} {B : Nat} : atB A A H H B B = true := atB_t rfl rfl rfl
/-- what must hold of the heap at the start and at the end (all closed but for the contents) -/
structure AtOK (H : Nat → Option HO) (S : Sto HO) (K B : Nat) (upd : List (Nat × HO)) (news hs1 : List HO) : Prop where
  start : ∀ (j : Nat) (o : HO), S.get j = some o → ∃ o' : HO, H j = some o' ∧ o'.o = o.o ∧ (o.ro = false → o'.ro = false ∧ (o.live = true → ∃ u ∈ upd, u.1 = j))
  keep : ∀ j, j < K → (S.get j).isSome = true
  len : hs1.length = K + news.length
  new : (List.range news.length).all (fun k => match hs1[K + k]? with | some o => !o.ro && o.live && !o.o.isLoop | none => false) = true
  news_eq : news = (hs1.drop K).map (HO.ren (renK K B))
  upd_eq : ∀ u ∈ upd, (u.2.live = false ∧ (S.get u.1).isSome = true) ∨ (u.1 < K ∧ ∃ o, hs1[u.1]? = some o ∧ o.live = true ∧ u.2.o = o.o.ren (renK K B) ∧ (o.o.isLoop = true → ∀ j ∈ o.o.ids, j < K))
  ids : ∀ (j : Nat) (o : HO), hs1[j]? = some o → ∀ i ∈ o.o.ids, i < hs1.length
theorem AtOK.stp {H : Nat → Option HO} {S : Sto HO} {K B : Nat} {upd : List (Nat × HO)} {news hs1 : List HO} (hA : AtOK H S K B upd news hs1) {cmp : Cmp} {ctx : Ctx} {m m1 : MM} {w w1 : World} (hH : HRel cmp ctx m H w) (hfr : ∀ k, k < news.length → H (B + k) = none)
    (hk : MM.leK K m m1) (hH1 : HRel cmp ⟨w, wbOf m upd⟩ m1 (fun j => hs1[j]?) w1) : Stp cmp m (subM m m1 (fun k => K + k) B news.length) w w1 upd B news := by
  have hmem : ∀ j, (S.get j).isSome = true → ∃ mb, m j = some mb := fun j hj => by
    obtain ⟨o, ho⟩ := Option.isSome_iff_exists.1 hj
    obtain ⟨o', h1, _⟩ := hA.start j o ho
    obtain ⟨mb, g, _⟩ := hH.obj j o' h1
    exact ⟨mb, g⟩
  refine stp_at hH hfr hH1 (fun id hid => ?_) hA.len hA.new hA.news_eq (fun u hu => ?_) hA.ids
  · obtain ⟨mb, g⟩ := hmem id (hA.keep id hid)
    rw [g, hk id mb hid g]
  · rcases hA.upd_eq u hu with ⟨h1, h2⟩ | h
    · exact .inl ⟨h1, hmem _ h2⟩
    · exact .inr h
theorem yield_at {id : Nat} {A : List AV} {H : Nat → Option HO} {S : Sto HO} {B K : Nat} {sl slS : Sto Slot} {ps : List Nat} {asg body : XC} {S1 S2 : St} {ex : XE} {upd : List (Nat × HO)} {news hs1 : List HO} {sl1 sl2 : Sto Slot} {ps1 ps2 : List Nat} {asg1 body1 asg2 body2 : XC} {bv : Bool}
    (hA : AtOK H S K B upd news hs1) (hdom : ∀ j, S.get j = none → H j = none) (hK : id < K) (hid0 : S.get id = some ⟨false, .loop sl ps asg body .ready⟩) (hlen : A.length = ps.length) (hsl : ∀ t s, slS.get t = some s → setPs sl.get ps A t = some s)
    (hasg : ∀ l nt, Exec PP T (some l) nt K asg ⟨slS, S, B, []⟩ .n S1) (hid1 : S1.hp.get id = some ⟨false, .loop sl1 ps1 asg1 body1 .ready⟩)
    (hbody : ∀ l nt, Exec PP T (some l) nt K body { S1 with hp := S1.hp.set id ⟨false, .loop sl1 ps1 asg1 body1 .busy⟩ } ex S2) (hid2 : S2.hp.get id = some ⟨false, .loop sl2 ps2 asg2 body2 .busy⟩)
    (hfin : ∀ j, (S2.hp.set id ⟨false, .loop sl2 ps2 asg2 body2 (endLS ex)⟩).get j = hs1[j]?) (hbv : bv = ex.isN) : YieldOK PP (compC T) id (spAt A H B (.av (.s (.bool bv))) upd news) := by
  intro ctx m h w args vals base e l mb hH hm hb hargs hfr hup hr hvc
  simp only [spAt, Option.some.injEq] at hr
  subst hr
  obtain ⟨rfl, rfl, rfl⟩ := atB_of hvc
  subst hbv
  refine round_exec (kp := K) (S := ⟨slS, S, base, []⟩) hK hlen hid0 hsl rfl hasg hid1 hbody hid2 (hrel_at hH hdom hA.start) hm hb hargs fun v w' m1 hk hv hH1 => ?_
  subst hv
  have e1 : (S2.hp.set id ⟨false, .loop sl2 ps2 asg2 body2 (endLS ex)⟩).get = fun j => hs1[j]? := funext hfin
  rw [e1] at hH1
  exact ⟨_, _, rfl, rfl, hA.stp hH hfr hk hH1⟩
/-- .. seen over a part of the heap that is shut under pointing -/
theorem hrel_part {cmp : Cmp} {ctx : Ctx} {m : MM} {H : Nat → Option HO} {w : World} {S : Sto HO} {upd : List (Nat × HO)} (hH : HRel cmp ctx m H w) (hcl : ∀ (j : Nat) (o : HO), S.get j = some o → ∀ i ∈ o.o.ids, (S.get i).isSome = true)
    (hS : ∀ (j : Nat) (o : HO), S.get j = some o → ∃ o' : HO, H j = some o' ∧ o'.o = o.o ∧ (o.ro = false → o'.ro = false ∧ (o.live = true → ∃ u ∈ upd, u.1 = j))) : HRel cmp ⟨w, wbOf m upd⟩ (fun j => if (S.get j).isSome = true then m j else none) S.get w where
  obj := fun id ho hid => by
    obtain ⟨o', h1, h2, h3⟩ := hS id ho hid
    obtain ⟨mb, g1, g2, g3, g4⟩ := hH.obj id o' h1
    have hl : o'.live = ho.live := by unfold HO.live; rw [h2]
    refine ⟨mb, by simp [hid, g1], by rw [← h2]; exact g2.sub fun j hj => if_pos (hcl id ho hid j (by rw [← h2]; exact hj)), fun hlv => g3 (by rw [hl]; exact hlv), fun hro hlv b hb => ?_⟩
    obtain ⟨u, hu, e⟩ := (h3 hro).2 hlv
    exact .inr ⟨u, hu, mb, by rw [e]; exact g1, hb⟩
  dist := fun id id' ho ho' mb mb' b hne hid hid' hro hl hl' hm hm' hb => by
    obtain ⟨o1, h1, h2, h3⟩ := hS id ho hid
    obtain ⟨o2, k1, k2, _⟩ := hS id' ho' hid'
    simp only [hid, hid', Option.isSome_some, if_true] at hm hm'
    exact hH.dist id id' o1 o2 mb mb' b hne h1 k1 (h3 hro).1 (by unfold HO.live at hl ⊢; rw [h2]; exact hl) (by unfold HO.live at hl' ⊢; rw [k2]; exact hl') hm hm' hb
  dom := fun id hid => by simp [hid]
  os := rfl
  tape := rfl
  output := rfl
  size := Nat.le_refl _
  same0 := fun _ _ _ => rfl
theorem spec_at {f : FuncId} {x : XFn} (hx : FunOK PP T f x) {A : List AV} {H : Nat → Option HO} {S : Sto HO} {B K : Nat} {ts : List (Nat × Slot)} {ex : XE} {upd : List (Nat × HO)} {news hs1 : List HO} {nx : Nat}
    (hA : AtOK H S K B upd news hs1) (hcl : ∀ (j : Nat) (o : HO), S.get j = some o → ∀ i ∈ o.o.ids, (S.get i).isSome = true) (hai : ∀ i ∈ A.flatMap AV.ids, (S.get i).isSome = true) (hlen : Nat.ble A.length x.nt = true) (hrun : Exec PP T none x.nt K x.body ⟨.al (slotsOf A), S, B, []⟩ ex (mkSt ts hs1 nx [])) (hex : ex = .n ∨ ex = .r) (hres : x.res = []) : SpecOK PP (compC T) f (spAt A H B (.tup []) upd news) := by
  obtain ⟨_, fn, hf, hxf⟩ := hx
  intro ctx m h w args vals base e hH hargs hfr hup hr hvc
  simp only [spAt, Option.some.injEq] at hr
  subst hr
  obtain ⟨rfl, rfl, rfl⟩ := atB_of hvc
  refine callsIn_exec (kp := K) (S := ⟨.al (slotsOf args), S, base, []⟩) (tv := .tup []) tokP hf hxf (Nat.le_of_ble_eq_true hlen) (fun t s hs => by
    have := (alGet_slots args 0 t s hs).2
    simpa using this) rfl hrun hex rfl (by rw [hres]; rfl) (hrel_part hH hcl hA.start) (All2.sub hargs fun j hj => if_pos (hai j hj)) fun v w' m1 hk hv hH1 => ?_
  have e1 : leaveH (mkSt ts hs1 nx []).hp.get (mkSt ts hs1 nx []).df = fun j => hs1[j]? := by
    funext j
    show (mkSt ts hs1 nx []).hp.get j = _
    rw [mkSt_hp]
  rw [e1] at hH1
  refine ⟨v, _, rfl, ?_, hA.stp hH hfr (fun id mb hid hm => hk id mb hid (by simp [hA.keep id hid, hm])) hH1⟩
  obtain ⟨vs, e, hvs⟩ := hv
  cases vs with
  | nil => exact ⟨[], e, trivial⟩
  | cons _ _ => exact hvs.elim
/-- one yield's contract as an environment -/
def gY (id : Nat) (sp : Spec) : Cal → Option Spec := fun c => match c with
  | .y j => bif Nat.beq j id then some sp else none
  | .f _ => none
theorem envY {id : Nat} {sp : Spec} (h : YieldOK PP (compC T) id sp) (hfp : SpecFp sp) : EnvOK PP T (gY id sp) where
  tok := tokP
  eqok := eqokP
  G := ⟨fun f sp' hf => (by cases hf), fun j sp' hj => by
    simp only [gY] at hj
    cases hb : Nat.beq j id with
    | false => rw [hb] at hj; cases hj
    | true =>
      rw [hb, cond_true] at hj
      cases hj
      rw [Nat.eq_of_beq_eq_true hb]
      exact h⟩
  B := fun f sp' hf => (by cases hf)
  F := fun c sp' hc => by
    cases c with
    | f f => cases hc
    | y j =>
      simp only [gY] at hc
      cases hb : Nat.beq j id with
      | false => rw [hb] at hc; cases hc
      | true =>
        rw [hb, cond_true] at hc
        cases hc
        exact hfp
  mix := mixP
end Go.Proofs.Yteekkjfjpoaihaa.Eng

/- Contracts by hand, part 9: transitive. -/
import Derived.Test.YteekkjfjpoaihaaGh
set_option linter.all false
namespace Go.Proofs.Yteekkjfjpoaihaa.Eng
open Go Go.Proofs

def L51 : XC := x51.body.b.a.b.i.i
def M51 : XC := L51.b.b.a.i.b.b.i.i
def N51 : XC := M51.b.b.a.i.b.b.b.b.i.i
abbrev G51 (f : Nat → Bool) : List HO := [⟨false, .row 70 [] 49 f⟩]
abbrev S51 (f : Nat → Bool) (a : Nat) : St := mkSt [(1, g1S 0), (6, ⟨true, I a⟩)] (G51 f) 1 []
abbrev P51 (f : Nat → Bool) (a : Nat) : St := mkSt [(1, g1S 0), (6, ⟨true, I a⟩), (7, ⟨true, B (decide (Int.ofNat a < 7))⟩)] (G51 f) 1 []
abbrev U51 (f : Nat → Bool) (a b : Nat) : St := mkSt [(1, g1S 0), (3, ⟨true, I a⟩), (6, ⟨true, I a⟩), (9, ⟨true, I b⟩)] (G51 f) 1 []
abbrev Q51 (f : Nat → Bool) (a b : Nat) : St := mkSt [(1, g1S 0), (3, ⟨true, I a⟩), (6, ⟨true, I a⟩), (9, ⟨true, I b⟩), (10, ⟨true, B (decide (Int.ofNat b < 7))⟩)] (G51 f) 1 []
abbrev W51 (f : Nat → Bool) (a b : Nat) : St := mkSt [(1, g1S 0), (3, ⟨true, I a⟩), (4, ⟨true, I b⟩), (6, ⟨true, I a⟩), (9, ⟨true, I b⟩)] (G51 f) 1 []
abbrev V51 (f : Nat → Bool) (a b c : Nat) : St := mkSt [(1, g1S 0), (3, ⟨true, I a⟩), (4, ⟨true, I b⟩), (6, ⟨true, I a⟩), (9, ⟨true, I b⟩), (23, ⟨true, I c⟩)] (G51 f) 1 []

theorem a51 {f : Nat → Bool} : Exec PP T none x51.nt 0 x51.body.a (startSt [.pb [] 49 f] []) .n (mkSt [(1, g1S 0)] (G51 f) 1 []) := by
  refine exec_orun env0 false 60 [] [0] (fun _ => rfl) (by kernel_rfl) (by kernel_rfl) (by kernel_rfl) (by kernel_rfl)
theorem b51 {f : Nat → Bool} : Exec PP T none x51.nt 0 x51.body.b.a.a (mkSt [(1, g1S 0)] (G51 f) 1 []) .n (S51 f 0) := by
  refine exec_orun env0 false 60 [] [0] (fun _ => rfl) (by kernel_rfl) (by kernel_rfl) (by kernel_rfl) (by kernel_rfl)
theorem d51 {f : Nat → Bool} : Exec PP T none x51.nt 0 x51.body.b.b (S51 f 7) .r (RB 2 true) := by
  refine exec_orun env0 false 60 [] [] (fun _ => rfl) (by kernel_rfl) (by kernel_rfl) (by kernel_rfl) (by kernel_rfl)

theorem l51a {f : Nat → Bool} {a : Nat} : Exec PP T none x51.nt 0 L51.a (S51 f a) .n (P51 f a) := by
  refine exec_orun env0 false 60 [] [0] (fun _ => rfl) (by kernel_rfl) (by kernel_rfl) (by kernel_rfl) (by kernel_rfl)
theorem l51b {f : Nat → Bool} {a : Nat} (h : a < 7) : Exec PP T none x51.nt 0 L51.b.a (P51 f a) .n (S51 f a) := by
  refine exec_orun env0 false 60 [true] [0] (fun _ => rfl) (by kernel_rfl) (by kernel_rfl) (by kernel_rfl) ?_
  rw [(show obOf (orun g0 false 60 L51.b.a (P51 f a) [true]) = (decide (Int.ofNat a < 7) && true) from by kernel_rfl)]
  simp
  omega
theorem l51x {f : Nat → Bool} : Exec PP T none x51.nt 0 L51.b.a (P51 f 7) (.x 0) (S51 f 7) := by
  refine exec_orun env0 false 60 [false] [0] (fun _ => rfl) (by kernel_rfl) (by kernel_rfl) (by kernel_rfl) (by kernel_rfl)
theorem l51c {f : Nat → Bool} {a : Nat} : Exec PP T none x51.nt 0 L51.b.b.a.i.a (S51 f a) .n (mkSt [(1, g1S 0), (3, ⟨true, I a⟩), (6, ⟨true, I a⟩)] (G51 f) 1 []) := by
  refine exec_orun env0 false 60 [] [0] (fun _ => rfl) (by kernel_rfl) (by kernel_rfl) (by kernel_rfl) (by kernel_rfl)
theorem l51d {f : Nat → Bool} {a : Nat} : Exec PP T none x51.nt 0 L51.b.b.a.i.b.a (mkSt [(1, g1S 0), (3, ⟨true, I a⟩), (6, ⟨true, I a⟩)] (G51 f) 1 []) .n (U51 f a 0) := by
  refine exec_orun env0 false 60 [] [0] (fun _ => rfl) (by kernel_rfl) (by kernel_rfl) (by kernel_rfl) (by kernel_rfl)
theorem l51e {f : Nat → Bool} {a b : Nat} (h : a < 7) : Exec PP T none x51.nt 0 L51.b.b.b (U51 f a b) .n (S51 f (a + 1)) := by
  refine exec_orun env0 false 60 [] [0] (fun _ => rfl) (by kernel_rfl) (by kernel_rfl) (by kernel_rfl) ?_
  rw [(show obOf (orun g0 false 60 L51.b.b.b (U51 f a b) []) = (rng64 (Int.ofNat a.succ) && true) from by kernel_rfl)]
  simp [rng64]
  omega

theorem m51a {f : Nat → Bool} {a b : Nat} : Exec PP T none x51.nt 0 M51.a (U51 f a b) .n (Q51 f a b) := by
  refine exec_orun env0 false 60 [] [0] (fun _ => rfl) (by kernel_rfl) (by kernel_rfl) (by kernel_rfl) (by kernel_rfl)
theorem m51b {f : Nat → Bool} {a b : Nat} (h : b < 7) : Exec PP T none x51.nt 0 M51.b.a (Q51 f a b) .n (U51 f a b) := by
  refine exec_orun env0 false 60 [true] [0] (fun _ => rfl) (by kernel_rfl) (by kernel_rfl) (by kernel_rfl) ?_
  rw [(show obOf (orun g0 false 60 M51.b.a (Q51 f a b) [true]) = (decide (Int.ofNat b < 7) && true) from by kernel_rfl)]
  simp
  omega
theorem m51x {f : Nat → Bool} {a : Nat} : Exec PP T none x51.nt 0 M51.b.a (Q51 f a 7) (.x 2) (U51 f a 7) := by
  refine exec_orun env0 false 60 [false] [0] (fun _ => rfl) (by kernel_rfl) (by kernel_rfl) (by kernel_rfl) (by kernel_rfl)
theorem m51e {f : Nat → Bool} {a b : Nat} (h : b < 7) : Exec PP T none x51.nt 0 M51.b.b.b (U51 f a b) .n (U51 f a (b + 1)) := by
  refine exec_orun env0 false 60 [] [0] (fun _ => rfl) (by kernel_rfl) (by kernel_rfl) (by kernel_rfl) ?_
  rw [(show obOf (orun g0 false 60 M51.b.b.b (U51 f a b) []) = (rng64 (Int.ofNat b.succ) && true) from by kernel_rfl)]
  simp [rng64]
  omega
theorem y51a {f : Nat → Bool} {a b : Nat} : Exec PP T none x51.nt 0 M51.b.b.a.i.a (U51 f a b) .n (W51 f a b) := by
  refine exec_orun env0 false 60 [] [0] (fun _ => rfl) (by kernel_rfl) (by kernel_rfl) (by kernel_rfl) (by kernel_rfl)
def at7 (f : Nat → Bool) (a b : Nat) : Bool := f (a * 7 + b)
theorem y51b {f : Nat → Bool} {a b : Nat} (ha : a < 7) (hb : b < 7) (h : at7 f a b = true) : Exec PP T none x51.nt 0 M51.b.b.a.i.b.a (W51 f a b) .n (W51 f a b) := by
  refine exec_orun env0 false 60 [false] [0] (fun _ => rfl) (by kernel_rfl) (by kernel_rfl) (by kernel_rfl) ?_
  rw [(show obOf (orun g0 false 60 M51.b.b.a.i.b.a (W51 f a b) [false]) = (decide (0 ≤ Int.ofNat a) && decide (Int.ofNat a < 7) && (decide (0 ≤ Int.ofNat b) && decide (Int.ofNat b < 7) && (decide (0 + (0 + a * 7 + b * 1) < 49) && true)) && (!!f (0 + (0 + a * 7 + b * 1)) && true)) from by kernel_rfl)]
  unfold at7 at h
  simp [h]
  omega
theorem y51x {f : Nat → Bool} {a b : Nat} (ha : a < 7) (hb : b < 7) (h : at7 f a b = false) : Exec PP T none x51.nt 0 M51.b.b.a.i.b.a (W51 f a b) (.x 3) (U51 f a b) := by
  refine exec_orun env0 false 60 [true] [0] (fun _ => rfl) (by kernel_rfl) (by kernel_rfl) (by kernel_rfl) ?_
  rw [(show obOf (orun g0 false 60 M51.b.b.a.i.b.a (W51 f a b) [true]) = (decide (0 ≤ Int.ofNat a) && decide (Int.ofNat a < 7) && (decide (0 ≤ Int.ofNat b) && decide (Int.ofNat b < 7) && (decide (0 + (0 + a * 7 + b * 1) < 49) && true)) && (!f (0 + (0 + a * 7 + b * 1)) && true)) from by kernel_rfl)]
  unfold at7 at h
  simp [h]
  omega
theorem y51c {f : Nat → Bool} {a b : Nat} (ha : a < 7) (hb : b < 7) (h : at7 f b a = false) : Exec PP T none x51.nt 0 M51.b.b.a.i.b.b.a (W51 f a b) .n (W51 f a b) := by
  refine exec_orun env0 false 60 [false] [0] (fun _ => rfl) (by kernel_rfl) (by kernel_rfl) (by kernel_rfl) ?_
  rw [(show obOf (orun g0 false 60 M51.b.b.a.i.b.b.a (W51 f a b) [false]) = (decide (0 ≤ Int.ofNat b) && decide (Int.ofNat b < 7) && (decide (0 ≤ Int.ofNat a) && decide (Int.ofNat a < 7) && (decide (0 + (0 + b * 7 + a * 1) < 49) && true)) && (!f (0 + (0 + b * 7 + a * 1)) && true)) from by kernel_rfl)]
  unfold at7 at h
  simp [h]
  omega
theorem y51r {f : Nat → Bool} {a b : Nat} (ha : a < 7) (hb : b < 7) (h : at7 f b a = true) : Exec PP T none x51.nt 0 M51.b.b.a.i.b.b.a (W51 f a b) .r (RB 2 false) := by
  refine exec_orun env0 false 60 [true] [] (fun _ => rfl) (by kernel_rfl) (by kernel_rfl) (by kernel_rfl) ?_
  rw [(show obOf (orun g0 false 60 M51.b.b.a.i.b.b.a (W51 f a b) [true]) = (decide (0 ≤ Int.ofNat b) && decide (Int.ofNat b < 7) && (decide (0 ≤ Int.ofNat a) && decide (Int.ofNat a < 7) && (decide (0 + (0 + b * 7 + a * 1) < 49) && true)) && (f (0 + (0 + b * 7 + a * 1)) && true)) from by kernel_rfl)]
  unfold at7 at h
  simp [h]
  omega
theorem y51d {f : Nat → Bool} {a b : Nat} : Exec PP T none x51.nt 0 M51.b.b.a.i.b.b.b.a (W51 f a b) .n (V51 f a b 0) := by
  refine exec_orun env0 false 60 [] [0] (fun _ => rfl) (by kernel_rfl) (by kernel_rfl) (by kernel_rfl) (by kernel_rfl)
def bc51 (f : Nat → Bool) (a b c : Nat) : Bool := at7 f b c && !(at7 f a c)
theorem n51 {f : Nat → Bool} {a b c : Nat} (ha : a < 7) (hb : b < 7) (hc : c < 7) (h : bc51 f a b c = false) : Exec PP T none x51.nt 0 N51 (V51 f a b c) .n (V51 f a b (c + 1)) := by
  refine exec_orun env0 false 60 [true, false] [0] (fun _ => rfl) (by kernel_rfl) (by kernel_rfl) (by kernel_rfl) ?_
  rw [(show obOf (orun g0 false 60 N51 (V51 f a b c) [true, false]) = (decide (Int.ofNat c < 7) && true && (decide (0 ≤ Int.ofNat b) && decide (Int.ofNat b < 7) && (decide (0 ≤ Int.ofNat c) && decide (Int.ofNat c < 7) && (decide (0 + (0 + b * 7 + c * 1) < 49) && ((!f (0 + (0 + b * 7 + c * 1)) == true || true) && ((!f (0 + (0 + b * 7 + c * 1)) == true || true) && ((!f (0 + (0 + b * 7 + c * 1)) == true || f (0 + (0 + b * 7 + c * 1)) == true && true && (decide (0 ≤ Int.ofNat a) && decide (Int.ofNat a < 7))) && ((!f (0 + (0 + b * 7 + c * 1)) == true || f (0 + (0 + b * 7 + c * 1)) == true && (f (0 + (0 + b * 7 + c * 1)) == true && true) && (decide (0 ≤ Int.ofNat c) && decide (Int.ofNat c < 7))) && ((!f (0 + (0 + b * 7 + c * 1)) == true || f (0 + (0 + b * 7 + c * 1)) == true && true && decide (0 + (0 + a * 7 + c * 1) < 49)) && ((!f (0 + (0 + b * 7 + c * 1)) == true || f (0 + (0 + b * 7 + c * 1)) == true && true && true) && ((bif f (0 + (0 + b * 7 + c * 1)) then f (0 + (0 + b * 7 + c * 1)) == true else true) && true && true))))))))) && ((!bif f (0 + (0 + b * 7 + c * 1)) then !f (0 + (0 + a * 7 + c * 1)) else false) && true) && (rng64 (Int.ofNat c.succ) && true))) from by kernel_rfl)]
  unfold bc51 at7 at h
  have e3 : rng64 ((c : Int) + 1) = true := by rw [rng64_eq]; simp; omega
  cases h1 : f (b * 7 + c) with
  | false => simp [h1, e3]; omega
  | true => simp [h1] at h; simp [h1, h, e3]; omega
theorem n51r {f : Nat → Bool} {a b c : Nat} (ha : a < 7) (hb : b < 7) (hc : c < 7) (h : bc51 f a b c = true) : Exec PP T none x51.nt 0 N51 (V51 f a b c) .r (RB 2 false) := by
  refine exec_orun env0 false 60 [true, true] [] (fun _ => rfl) (by kernel_rfl) (by kernel_rfl) (by kernel_rfl) ?_
  rw [(show obOf (orun g0 false 60 N51 (V51 f a b c) [true, true]) = (decide (Int.ofNat c < 7) && true && (decide (0 ≤ Int.ofNat b) && decide (Int.ofNat b < 7) && (decide (0 ≤ Int.ofNat c) && decide (Int.ofNat c < 7) && (decide (0 + (0 + b * 7 + c * 1) < 49) && ((!f (0 + (0 + b * 7 + c * 1)) == true || true) && ((!f (0 + (0 + b * 7 + c * 1)) == true || true) && ((!f (0 + (0 + b * 7 + c * 1)) == true || f (0 + (0 + b * 7 + c * 1)) == true && true && (decide (0 ≤ Int.ofNat a) && decide (Int.ofNat a < 7))) && ((!f (0 + (0 + b * 7 + c * 1)) == true || f (0 + (0 + b * 7 + c * 1)) == true && (f (0 + (0 + b * 7 + c * 1)) == true && true) && (decide (0 ≤ Int.ofNat c) && decide (Int.ofNat c < 7))) && ((!f (0 + (0 + b * 7 + c * 1)) == true || f (0 + (0 + b * 7 + c * 1)) == true && true && decide (0 + (0 + a * 7 + c * 1) < 49)) && ((!f (0 + (0 + b * 7 + c * 1)) == true || f (0 + (0 + b * 7 + c * 1)) == true && true && true) && ((bif f (0 + (0 + b * 7 + c * 1)) then f (0 + (0 + b * 7 + c * 1)) == true else true) && true && true))))))))) && ((bif f (0 + (0 + b * 7 + c * 1)) then !f (0 + (0 + a * 7 + c * 1)) else false) && true))) from by kernel_rfl)]
  unfold bc51 at7 at h
  simp at h
  simp [h.1, h.2]
  omega
theorem n51x {f : Nat → Bool} {a b : Nat} : Exec PP T none x51.nt 0 N51 (V51 f a b 7) (.x 4) (U51 f a b) := by
  refine exec_orun env0 false 60 [false] [0] (fun _ => rfl) (by kernel_rfl) (by kernel_rfl) (by kernel_rfl) (by kernel_rfl)

/-- a pair of nodes with which a relation is not transitive -/
def bb51 (f : Nat → Bool) (a b : Nat) : Bool := at7 f a b && (at7 f b a || (List.range 7).any (bc51 f a b))
def transB (f : Nat → Bool) : Bool := !((List.range 7).any fun a => (List.range 7).any (bb51 f a))

theorem m51 {f : Nat → Bool} {a b : Nat} (ha : a < 7) (hb : b < 7) (h : bb51 f a b = false) : Exec PP T none x51.nt 0 M51 (U51 f a b) .n (U51 f a (b + 1)) := by
  refine exec_seq (x := M51.a) (y := M51.b) m51a (exec_seq (x := M51.b.a) (y := M51.b.b) (m51b hb) ?_)
  unfold bb51 at h
  cases h1 : at7 f a b with
  | false => exact exec_seq (x := M51.b.b.a) (y := M51.b.b.b) (exec_block (id := 3) (x := M51.b.b.a.i) (e := .x 3) (exec_seq (x := M51.b.b.a.i.a) (y := M51.b.b.a.i.b) y51a (exec_seq_x (x := M51.b.b.a.i.b.a) (y := M51.b.b.a.i.b.b) (y51x ha hb h1) (by simp)))) (m51e hb)
  | true =>
    rw [h1, Bool.true_and, Bool.or_eq_false_iff] at h
    have h3 := any_none _ _ h.2
    exact exec_seq (x := M51.b.b.a) (y := M51.b.b.b) (exec_block (id := 3) (x := M51.b.b.a.i) (e := .n) (exec_seq (x := M51.b.b.a.i.a) (y := M51.b.b.a.i.b) y51a (exec_seq (x := M51.b.b.a.i.b.a) (y := M51.b.b.a.i.b.b) (y51b ha hb h1) (exec_seq (x := M51.b.b.a.i.b.b.a) (y := M51.b.b.a.i.b.b.b) (y51c ha hb h.1)
      (exec_seq (x := M51.b.b.a.i.b.b.b.a) (y := .block 4 (.loop N51)) y51d (exec_block (e := .x 4) (exec_loop_up (V51 f a b) 7 (fun c hc => n51 ha hb hc (h3 c hc)) n51x (by simp) 0 (by omega)))))))) (m51e hb)

theorem m51r {f : Nat → Bool} {a b : Nat} (ha : a < 7) (hb : b < 7) (h : bb51 f a b = true) : Exec PP T none x51.nt 0 M51 (U51 f a b) .r (RB 2 false) := by
  refine exec_seq (x := M51.a) (y := M51.b) m51a (exec_seq (x := M51.b.a) (y := M51.b.b) (m51b hb) ?_)
  unfold bb51 at h
  rw [Bool.and_eq_true] at h
  refine exec_seq_x (x := M51.b.b.a) (y := M51.b.b.b) (exec_block (id := 3) (x := M51.b.b.a.i) (e := .r) (exec_seq (x := M51.b.b.a.i.a) (y := M51.b.b.a.i.b) y51a (exec_seq (x := M51.b.b.a.i.b.a) (y := M51.b.b.a.i.b.b) (y51b ha hb h.1) ?_))) (by simp)
  cases h1 : at7 f b a with
  | true => exact exec_seq_x (x := M51.b.b.a.i.b.b.a) (y := M51.b.b.a.i.b.b.b) (y51r ha hb h1) (by simp)
  | false =>
    rw [h1, Bool.false_or] at h
    obtain ⟨p, q1, q2, q3⟩ := any_first _ _ h.2
    exact exec_seq (x := M51.b.b.a.i.b.b.a) (y := M51.b.b.a.i.b.b.b) (y51c ha hb h1)
      (exec_seq (x := M51.b.b.a.i.b.b.b.a) (y := .block 4 (.loop N51)) y51d (exec_block (e := .r) (exec_loop_up (V51 f a b) p (fun c hc => n51 ha hb (by omega) (q3 c hc)) (n51r ha hb q1 q2) (by simp) 0 (by omega))))

theorem l51 {f : Nat → Bool} {a : Nat} (ha : a < 7) (h : (List.range 7).any (bb51 f a) = false) : Exec PP T none x51.nt 0 L51 (S51 f a) .n (S51 f (a + 1)) := by
  have h3 := any_none _ _ h
  exact exec_seq (x := L51.a) (y := L51.b) l51a (exec_seq (x := L51.b.a) (y := L51.b.b) (l51b ha) (exec_seq (x := L51.b.b.a) (y := L51.b.b.b) (exec_block (id := 1) (x := L51.b.b.a.i) (e := .n) (exec_seq (x := L51.b.b.a.i.a) (y := L51.b.b.a.i.b) l51c (exec_seq (x := L51.b.b.a.i.b.a) (y := .block 2 (.loop M51)) l51d
    (exec_block (e := .x 2) (exec_loop_up (U51 f a) 7 (fun b hb => m51 ha hb (h3 b hb)) (exec_seq (x := M51.a) (y := M51.b) m51a (exec_seq_x (x := M51.b.a) (y := M51.b.b) m51x (by simp))) (by simp) 0 (by omega)))))) (l51e (b := 7) ha)))

theorem l51r {f : Nat → Bool} {a : Nat} (ha : a < 7) (h : (List.range 7).any (bb51 f a) = true) : Exec PP T none x51.nt 0 L51 (S51 f a) .r (RB 2 false) := by
  obtain ⟨p, q1, q2, q3⟩ := any_first _ _ h
  exact exec_seq (x := L51.a) (y := L51.b) l51a (exec_seq (x := L51.b.a) (y := L51.b.b) (l51b ha) (exec_seq_x (x := L51.b.b.a) (y := L51.b.b.b) (exec_block (id := 1) (x := L51.b.b.a.i) (e := .r) (exec_seq (x := L51.b.b.a.i.a) (y := L51.b.b.a.i.b) l51c (exec_seq (x := L51.b.b.a.i.b.a) (y := .block 2 (.loop M51)) l51d
    (exec_block (e := .r) (exec_loop_up (U51 f a) p (fun b hb => m51 ha (by omega) (q3 b hb)) (m51r ha q1 q2) (by simp) 0 (by omega)))))) (by simp)))

theorem body51 {f : Nat → Bool} : Exec PP T none x51.nt 0 x51.body (startSt [.pb [] 49 f] []) .r (RB 2 (transB f)) := by
  refine exec_seq (x := x51.body.a) (y := x51.body.b) a51 ?_
  unfold transB
  cases hh : (List.range 7).any fun a => (List.range 7).any (bb51 f a) with
  | true =>
    obtain ⟨p, q1, q2, q3⟩ := any_first _ _ hh
    exact exec_seq_x (x := x51.body.b.a) (y := x51.body.b.b) (exec_seq (x := x51.body.b.a.a) (y := .block 0 (.loop L51)) b51 (exec_block (e := .r) (exec_loop_up (S51 f) p (fun a ha => l51 (by omega) (q3 a ha)) (l51r q1 q2) (by simp) 0 (by omega)))) (by simp)
  | false =>
    have h3 := any_none _ _ hh
    exact exec_seq (x := x51.body.b.a) (y := x51.body.b.b) (exec_seq (x := x51.body.b.a.a) (y := .block 0 (.loop L51)) b51 (exec_block (e := .x 0) (exec_loop_up (S51 f) 7 (fun a ha => l51 ha (h3 a ha)) (exec_seq (x := L51.a) (y := L51.b) l51a (exec_seq_x (x := L51.b.a) (y := L51.b.b) l51x (by simp))) (by simp) 0 (by omega)))) d51

theorem pb0_any {m m' : MM} {n : Nat} {f : Nat → Bool} {v : Value} (h : AR m (.pb [] n f) v) : AR m' (.pb [] n f) v := by
  obtain ⟨cs, e1, vs, e2, e3, e4⟩ := h
  refine ⟨cs, e1, vs, ?_, e3, e4⟩
  match vs, e2 with
  | [], _ => trivial

def gRel (g : (Nat → Bool) → TV) (args : List AV) (_ : Nat → Option HO) : Option (Bool × TV × List Nat) := match args with
  | [.pb [] 49 f] => some (true, g f, [])
  | _ => none
theorem gRel_fp (g : (Nat → Bool) → TV) : PureFp (gRel g) := by
  intro args h h' q hg hf
  exact hg
theorem gRel_ok {f : FuncId} {x : XFn} (hx : FunOK PP T f x) (t : (Nat → Bool) → List (Nat × Slot)) (g : (Nat → Bool) → TV) (hlen : Nat.ble 1 x.nt = true) (hb : ∀ f, Exec PP T none x.nt 0 x.body (startSt [.pb [] 49 f] []) .r (mkSt (t f) [] 0 []))
    (hres : ∀ f, resV (mkSt (t f) [] 0 []).sl.get (mkSt (t f) [] 0 []).hp.get x.res = some (true, g f)) (hids : ∀ f, (g f).ids = []) : SpecOK PP (compC T) f (pureS (gRel g)) := by
  refine spec_pure tokP hx fun ctx m h w args vals v rd base hH hargs hg => ?_
  unfold gRel at hg
  split at hg
  · rename_i fb
    simp only [Option.some.injEq, Prod.mk.injEq] at hg
    obtain ⟨_, rfl, rfl⟩ := hg
    match vals, hargs with
    | [v1], ⟨ha1, _⟩ =>
      exact ⟨emV, [], [.pb [] 49 fb], shown_val ro0 ⟨pb0_any ha1, trivial⟩ hlen (hb fb) (fun _ => rfl) (hres fb) (hids fb)⟩
  · cases hg
theorem ok51 : SpecOK PP (compC T) 51 (pureS (gRel fun f => B (transB f))) :=
  gRel_ok o51 (fun f => [(2, ⟨true, B (transB f)⟩)]) _ (by kernel_rfl) (fun _ => body51) (fun f => by kernel_rfl) (fun f => by kernel_rfl)

end Go.Proofs.Yteekkjfjpoaihaa.Eng

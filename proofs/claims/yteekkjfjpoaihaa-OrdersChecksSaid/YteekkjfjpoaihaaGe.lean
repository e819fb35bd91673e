/- Contracts by hand, part 5: R.Check. -/
import Derived.Test.YteekkjfjpoaihaaGd
set_option linter.all false
namespace Go.Proofs.Yteekkjfjpoaihaa.Eng
open Go Go.Proofs

/-- the pairs of a flat list -/
def pa (q : List Int) (i : Nat) : Int := q.getD (2 * i) 0
def pb (q : List Int) (i : Nat) : Int := q.getD (2 * i + 1) 0

def L40 : XC := x40.body.b.b.a.b.i.i
abbrev H1 (q : List Int) : List HO := [⟨true, .xvec .i64 2 q⟩]
abbrev sl0 (m : Nat) : Slot := ⟨true, .av (.s (.sl 0 0 2 m))⟩
abbrev S40 (n : Int) (q : List Int) (m : Nat) (i : Nat) : St := mkSt [(0, ⟨true, I n⟩), (1, sl0 m), (5, ⟨true, I i⟩)] (H1 q) 1 []
abbrev T40 (n : Int) (q : List Int) (m : Nat) (i : Nat) (a b : Int) : St := mkSt [(0, ⟨true, I n⟩), (1, sl0 m), (5, ⟨true, I i⟩), (6, ⟨true, I a⟩), (7, ⟨true, I b⟩)] (H1 q) 1 []

theorem e40a {n : Int} {q : List Int} {m i : Nat} (hi : i < m) : Exec PP T none x40.nt 0 L40.a (S40 n q m i) .n (S40 n q m i) := by
  refine exec_orun env2 false 60 [true] [0] (fun _ => rfl) (by kernel_rfl) (by kernel_rfl) (by kernel_rfl) ?_
  rw [(show obOf (orun g2 false 60 L40.a (S40 n q m i) [true]) = (decide (Int.ofNat i < Int.ofNat m) && true) from by kernel_rfl)]
  simp
  omega

theorem e40x {n : Int} {q : List Int} {m : Nat} : Exec PP T none x40.nt 0 L40.a (S40 n q m m) (.x 0) (S40 n q m m) := by
  refine exec_orun env2 false 60 [false] [0] (fun _ => rfl) (by kernel_rfl) (by kernel_rfl) (by kernel_rfl) ?_
  rw [(show obOf (orun g2 false 60 L40.a (S40 n q m m) [false]) = (!decide (Int.ofNat m < Int.ofNat m) && true) from by kernel_rfl)]
  simp

theorem e40b {n : Int} {q : List Int} {m i : Nat} (hq : q.length = m * 2) (hi : i < m) : Exec PP T none x40.nt 0 L40.b.a.i.a (S40 n q m i) .n (T40 n q m i (pa q i) (pb q i)) := by
  have e1 : pa q i = q.getD (0 + ((0 + i) * 2 + 0)) 0 := by unfold pa; congr 1; omega
  have e2 : pb q i = q.getD (0 + ((0 + i) * 2 + 1)) 0 := by unfold pb; congr 1; omega
  rw [e1, e2]
  refine exec_orun env2 false 60 [] [0] (fun _ => rfl) (by kernel_rfl) (by kernel_rfl) (by kernel_rfl) ?_
  rw [(show obOf (orun g2 false 60 L40.b.a.i.a (S40 n q m i) []) = (decide (0 ≤ Int.ofNat i) && decide (Int.ofNat i < Int.ofNat m) && (decide (0 ≤ 0) && decide (0 < 2) && (decide (0 + ((0 + i) * 2 + 0) < q.length) && (decide (0 ≤ Int.ofNat i) && decide (Int.ofNat i < Int.ofNat m) && (decide (0 ≤ 1) && decide (1 < 2) && (decide ((Nat.add 0 ((0 + i) * 2)).succ < q.length) && true))))) && true) from by kernel_rfl)]
  simp
  omega

theorem e40d {n : Int} {q : List Int} {m i : Nat} (hm : m ≤ 1000000000) (hi : i < m) : Exec PP T none x40.nt 0 L40.b.b (S40 n q m i) .n (S40 n q m (i + 1)) := by
  refine exec_orun env2 false 60 [] [0] (fun _ => rfl) (by kernel_rfl) (by kernel_rfl) (by kernel_rfl) ?_
  rw [(show obOf (orun g2 false 60 L40.b.b (S40 n q m i) []) = (rng64 (Int.ofNat i.succ) && true) from by kernel_rfl)]
  simp [rng64]
  omega

/-- a pair that does not come behind the one before -/
def upB (q : List Int) (i : Nat) : Bool := bif decide (0 < i) then !(lessP (pa q (i - 1)) (pb q (i - 1)) (pa q i) (pb q i)) else false
def badC (n : Int) (q : List Int) (i : Nat) (a b : Int) : Bool := decide (a < 0) || decide (a ≥ b) || decide (b ≥ n) || upB q i

theorem e40c {n : Int} {q : List Int} {m i : Nat} {a b : Int} (hq : q.length = m * 2) (hi : i < m) (hm : m ≤ 1000000000) (hb : badC n q i a b = false) : Exec PP T none x40.nt 0 L40.b.a.i.b (T40 n q m i a b) .n (S40 n q m i) := by
  refine exec_orun env2 false 60 [false] [0] (fun _ => rfl) (by kernel_rfl) (by kernel_rfl) (by kernel_rfl) ?_
  rw [(show obOf (orun g2 false 60 L40.b.a.i.b (T40 n q m i a b) [false]) = ((!decide (a < 0) == false || true) && ((!decide (a < 0) == false || true) && ((!decide (a < 0) == false || decide (a < 0) == false && (decide (a < 0) == false && true) && true) && ((bif decide (a < 0) then true else decide (a < 0) == false) && true && ((!(bif decide (a < 0) then true else decide (a ≥ b)) == false || true) && ((!(bif decide (a < 0) then true else decide (a ≥ b)) == false || true) && ((!(bif decide (a < 0) then true else decide (a ≥ b)) == false || (bif decide (a < 0) then true else decide (a ≥ b)) == false && ((bif decide (a < 0) then true else decide (a ≥ b)) == false && true) && true) && ((bif bif decide (a < 0) then true else decide (a ≥ b) then true else (bif decide (a < 0) then true else decide (a ≥ b)) == false) && true && ((!(bif bif decide (a < 0) then true else decide (a ≥ b) then true else decide (b ≥ n)) == false || true) && ((!(bif bif decide (a < 0) then true else decide (a ≥ b) then true else decide (b ≥ n)) == false || (bif bif decide (a < 0) then true else decide (a ≥ b) then true else decide (b ≥ n)) == false && true && true) && ((!(bif bif decide (a < 0) then true else decide (a ≥ b) then true else decide (b ≥ n)) == false || (bif bif decide (a < 0) then true else decide (a ≥ b) then true else decide (b ≥ n)) == false && true && true) && ((!((bif bif decide (a < 0) then true else decide (a ≥ b) then true else decide (b ≥ n)) == false && decide (Int.ofNat i > 0) == true) || true) && ((!((bif bif decide (a < 0) then true else decide (a ≥ b) then true else decide (b ≥ n)) == false && decide (Int.ofNat i > 0) == true) || true) && ((!((bif bif decide (a < 0) then true else decide (a ≥ b) then true else decide (b ≥ n)) == false && decide (Int.ofNat i > 0) == true) || (bif bif decide (a < 0) then true else decide (a ≥ b) then true else decide (b ≥ n)) == false && decide (Int.ofNat i > 0) == true && true && rng64 (Int.ofNat i - 1)) && ((!((bif bif decide (a < 0) then true else decide (a ≥ b) then true else decide (b ≥ n)) == false && decide (Int.ofNat i > 0) == true) || (bif bif decide (a < 0) then true else decide (a ≥ b) then true else decide (b ≥ n)) == false && decide (Int.ofNat i > 0) == true && ((bif bif decide (a < 0) then true else decide (a ≥ b) then true else decide (b ≥ n)) == false && decide (Int.ofNat i > 0) == true && true) && (decide (0 ≤ Int.ofNat i - 1) && decide (Int.ofNat i - 1 < Int.ofNat m))) && ((!((bif bif decide (a < 0) then true else decide (a ≥ b) then true else decide (b ≥ n)) == false && decide (Int.ofNat i > 0) == true) || (bif bif decide (a < 0) then true else decide (a ≥ b) then true else decide (b ≥ n)) == false && decide (Int.ofNat i > 0) == true && true && decide (((0 + (0 + (Int.ofNat i - 1).toNat) * 2).add 0).succ.succ ≤ q.length)) && ((!((bif bif decide (a < 0) then true else decide (a ≥ b) then true else decide (b ≥ n)) == false && decide (Int.ofNat i > 0) == true) || true) && ((!((bif bif decide (a < 0) then true else decide (a ≥ b) then true else decide (b ≥ n)) == false && decide (Int.ofNat i > 0) == true) || true) && ((!((bif bif decide (a < 0) then true else decide (a ≥ b) then true else decide (b ≥ n)) == false && decide (Int.ofNat i > 0) == true) || (bif bif decide (a < 0) then true else decide (a ≥ b) then true else decide (b ≥ n)) == false && decide (Int.ofNat i > 0) == true && ((bif bif decide (a < 0) then true else decide (a ≥ b) then true else decide (b ≥ n)) == false && decide (Int.ofNat i > 0) == true && true) && (decide (0 ≤ Int.ofNat i) && decide (Int.ofNat i < Int.ofNat m))) && ((!((bif bif decide (a < 0) then true else decide (a ≥ b) then true else decide (b ≥ n)) == false && decide (Int.ofNat i > 0) == true) || (bif bif decide (a < 0) then true else decide (a ≥ b) then true else decide (b ≥ n)) == false && decide (Int.ofNat i > 0) == true && true && decide (((0 + (0 + i) * 2).add 0).succ.succ ≤ q.length)) && ((!((bif bif decide (a < 0) then true else decide (a ≥ b) then true else decide (b ≥ n)) == false && decide (Int.ofNat i > 0) == true) || (bif bif decide (a < 0) then true else decide (a ≥ b) then true else decide (b ≥ n)) == false && decide (Int.ofNat i > 0) == true && ((bif bif decide (a < 0) then true else decide (a ≥ b) then true else decide (b ≥ n)) == false && decide (Int.ofNat i > 0) == true && true) && true) && ((!((bif bif decide (a < 0) then true else decide (a ≥ b) then true else decide (b ≥ n)) == false && decide (Int.ofNat i > 0) == true) || (bif bif decide (a < 0) then true else decide (a ≥ b) then true else decide (b ≥ n)) == false && decide (Int.ofNat i > 0) == true && true && true) && ((!(bif bif decide (a < 0) then true else decide (a ≥ b) then true else decide (b ≥ n)) == false || ((bif bif decide (a < 0) then true else decide (a ≥ b) then true else decide (b ≥ n)) == false && bif decide (Int.ofNat i > 0) then (bif bif decide (a < 0) then true else decide (a ≥ b) then true else decide (b ≥ n)) == false && decide (Int.ofNat i > 0) == true else true) && true) && ((bif bif bif decide (a < 0) then true else decide (a ≥ b) then true else decide (b ≥ n) then true else (bif bif decide (a < 0) then true else decide (a ≥ b) then true else decide (b ≥ n)) == false) && true && true))))))))))))))))))))))) && true && ((!bif bif bif decide (a < 0) then true else decide (a ≥ b) then true else decide (b ≥ n) then true else bif decide (Int.ofNat i > 0) then !lessP (q.getD (0 + (0 + (Int.ofNat i - 1).toNat) * 2 + 0) 0) (q.getD ((0 + (0 + (Int.ofNat i - 1).toNat) * 2).add 0).succ 0) (q.getD (0 + (0 + i) * 2 + 0) 0) (q.getD ((0 + (0 + i) * 2).add 0).succ 0) else false) && true)) from by kernel_rfl)]
  simp only [badC, Bool.or_eq_false_iff] at hb
  obtain ⟨⟨⟨h0, h1⟩, h2⟩, h3⟩ := hb
  simp only [h0, h1, h2]
  cases i with
  | zero => simp
  | succ j =>
    have e1 : (Int.ofNat (j + 1) - 1).toNat = j := by simp
    have e2 : Int.ofNat (j + 1) - 1 = (j : Int) := by simp
    simp [upB, pa, pb, Nat.mul_comm 2] at h3
    simp [e1, e2]
    refine ⟨⟨?_, by omega, by omega, by omega, by omega⟩, h3⟩
    rw [rng64_eq]; simp; omega

theorem e40r {n : Int} {q : List Int} {m i : Nat} {a b : Int} (hq : q.length = m * 2) (hi : i < m) (hm : m ≤ 1000000000) (hb : badC n q i a b = true) : Exec PP T none x40.nt 0 L40.b.a.i.b (T40 n q m i a b) .r (RI 4 20) := by
  refine exec_orun env2 false 60 [true] [] (fun _ => rfl) (by kernel_rfl) (by kernel_rfl) (by kernel_rfl) ?_
  rw [(show obOf (orun g2 false 60 L40.b.a.i.b (T40 n q m i a b) [true]) = ((!decide (a < 0) == false || true) && ((!decide (a < 0) == false || true) && ((!decide (a < 0) == false || decide (a < 0) == false && (decide (a < 0) == false && true) && true) && ((bif decide (a < 0) then true else decide (a < 0) == false) && true && ((!(bif decide (a < 0) then true else decide (a ≥ b)) == false || true) && ((!(bif decide (a < 0) then true else decide (a ≥ b)) == false || true) && ((!(bif decide (a < 0) then true else decide (a ≥ b)) == false || (bif decide (a < 0) then true else decide (a ≥ b)) == false && ((bif decide (a < 0) then true else decide (a ≥ b)) == false && true) && true) && ((bif bif decide (a < 0) then true else decide (a ≥ b) then true else (bif decide (a < 0) then true else decide (a ≥ b)) == false) && true && ((!(bif bif decide (a < 0) then true else decide (a ≥ b) then true else decide (b ≥ n)) == false || true) && ((!(bif bif decide (a < 0) then true else decide (a ≥ b) then true else decide (b ≥ n)) == false || (bif bif decide (a < 0) then true else decide (a ≥ b) then true else decide (b ≥ n)) == false && true && true) && ((!(bif bif decide (a < 0) then true else decide (a ≥ b) then true else decide (b ≥ n)) == false || (bif bif decide (a < 0) then true else decide (a ≥ b) then true else decide (b ≥ n)) == false && true && true) && ((!((bif bif decide (a < 0) then true else decide (a ≥ b) then true else decide (b ≥ n)) == false && decide (Int.ofNat i > 0) == true) || true) && ((!((bif bif decide (a < 0) then true else decide (a ≥ b) then true else decide (b ≥ n)) == false && decide (Int.ofNat i > 0) == true) || true) && ((!((bif bif decide (a < 0) then true else decide (a ≥ b) then true else decide (b ≥ n)) == false && decide (Int.ofNat i > 0) == true) || (bif bif decide (a < 0) then true else decide (a ≥ b) then true else decide (b ≥ n)) == false && decide (Int.ofNat i > 0) == true && true && rng64 (Int.ofNat i - 1)) && ((!((bif bif decide (a < 0) then true else decide (a ≥ b) then true else decide (b ≥ n)) == false && decide (Int.ofNat i > 0) == true) || (bif bif decide (a < 0) then true else decide (a ≥ b) then true else decide (b ≥ n)) == false && decide (Int.ofNat i > 0) == true && ((bif bif decide (a < 0) then true else decide (a ≥ b) then true else decide (b ≥ n)) == false && decide (Int.ofNat i > 0) == true && true) && (decide (0 ≤ Int.ofNat i - 1) && decide (Int.ofNat i - 1 < Int.ofNat m))) && ((!((bif bif decide (a < 0) then true else decide (a ≥ b) then true else decide (b ≥ n)) == false && decide (Int.ofNat i > 0) == true) || (bif bif decide (a < 0) then true else decide (a ≥ b) then true else decide (b ≥ n)) == false && decide (Int.ofNat i > 0) == true && true && decide (((0 + (0 + (Int.ofNat i - 1).toNat) * 2).add 0).succ.succ ≤ q.length)) && ((!((bif bif decide (a < 0) then true else decide (a ≥ b) then true else decide (b ≥ n)) == false && decide (Int.ofNat i > 0) == true) || true) && ((!((bif bif decide (a < 0) then true else decide (a ≥ b) then true else decide (b ≥ n)) == false && decide (Int.ofNat i > 0) == true) || true) && ((!((bif bif decide (a < 0) then true else decide (a ≥ b) then true else decide (b ≥ n)) == false && decide (Int.ofNat i > 0) == true) || (bif bif decide (a < 0) then true else decide (a ≥ b) then true else decide (b ≥ n)) == false && decide (Int.ofNat i > 0) == true && ((bif bif decide (a < 0) then true else decide (a ≥ b) then true else decide (b ≥ n)) == false && decide (Int.ofNat i > 0) == true && true) && (decide (0 ≤ Int.ofNat i) && decide (Int.ofNat i < Int.ofNat m))) && ((!((bif bif decide (a < 0) then true else decide (a ≥ b) then true else decide (b ≥ n)) == false && decide (Int.ofNat i > 0) == true) || (bif bif decide (a < 0) then true else decide (a ≥ b) then true else decide (b ≥ n)) == false && decide (Int.ofNat i > 0) == true && true && decide (((0 + (0 + i) * 2).add 0).succ.succ ≤ q.length)) && ((!((bif bif decide (a < 0) then true else decide (a ≥ b) then true else decide (b ≥ n)) == false && decide (Int.ofNat i > 0) == true) || (bif bif decide (a < 0) then true else decide (a ≥ b) then true else decide (b ≥ n)) == false && decide (Int.ofNat i > 0) == true && ((bif bif decide (a < 0) then true else decide (a ≥ b) then true else decide (b ≥ n)) == false && decide (Int.ofNat i > 0) == true && true) && true) && ((!((bif bif decide (a < 0) then true else decide (a ≥ b) then true else decide (b ≥ n)) == false && decide (Int.ofNat i > 0) == true) || (bif bif decide (a < 0) then true else decide (a ≥ b) then true else decide (b ≥ n)) == false && decide (Int.ofNat i > 0) == true && true && true) && ((!(bif bif decide (a < 0) then true else decide (a ≥ b) then true else decide (b ≥ n)) == false || ((bif bif decide (a < 0) then true else decide (a ≥ b) then true else decide (b ≥ n)) == false && bif decide (Int.ofNat i > 0) then (bif bif decide (a < 0) then true else decide (a ≥ b) then true else decide (b ≥ n)) == false && decide (Int.ofNat i > 0) == true else true) && true) && ((bif bif bif decide (a < 0) then true else decide (a ≥ b) then true else decide (b ≥ n) then true else (bif bif decide (a < 0) then true else decide (a ≥ b) then true else decide (b ≥ n)) == false) && true && true))))))))))))))))))))))) && true && ((bif bif bif decide (a < 0) then true else decide (a ≥ b) then true else decide (b ≥ n) then true else bif decide (Int.ofNat i > 0) then !lessP (q.getD (0 + (0 + (Int.ofNat i - 1).toNat) * 2 + 0) 0) (q.getD ((0 + (0 + (Int.ofNat i - 1).toNat) * 2).add 0).succ 0) (q.getD (0 + (0 + i) * 2 + 0) 0) (q.getD ((0 + (0 + i) * 2).add 0).succ 0) else false) && true)) from by kernel_rfl)]
  cases h0 : decide (a < 0) with
  | true => simp
  | false =>
    cases h1 : decide (a ≥ b) with
    | true => simp
    | false =>
      cases h2 : decide (b ≥ n) with
      | true => simp
      | false =>
        simp only [badC, h0, h1, h2, Bool.false_or] at hb
        cases i with
        | zero => simp [upB] at hb
        | succ j =>
          have e1 : (Int.ofNat (j + 1) - 1).toNat = j := by simp
          have e2 : Int.ofNat (j + 1) - 1 = (j : Int) := by simp
          simp [upB, pa, pb, Nat.mul_comm 2] at hb
          simp [e1, e2]
          refine ⟨⟨?_, by omega, by omega, by omega, by omega⟩, hb⟩
          rw [rng64_eq]; simp; omega

def badAt (n : Int) (q : List Int) (i : Nat) : Bool := badC n q i (pa q i) (pb q i)
def checkP (n : Int) (q : List Int) (m : Nat) : Int := bif decide (n < 1) || decide (n > 7) then 1 else bif (List.range m).any (badAt n q) then 20 else 0

theorem s40 {n : Int} {q : List Int} {m i : Nat} (hq : q.length = m * 2) (hi : i < m) (hm : m ≤ 1000000000) (hb : badAt n q i = false) : Exec PP T none x40.nt 0 L40 (S40 n q m i) .n (S40 n q m (i + 1)) :=
  exec_seq (x := L40.a) (y := L40.b) (e40a hi) (exec_seq (x := L40.b.a) (y := L40.b.b) (exec_block (id := 1) (x := L40.b.a.i) (e := .n) (exec_seq (x := L40.b.a.i.a) (y := L40.b.a.i.b) (e40b hq hi) (e40c hq hi hm hb))) (e40d hm hi))

theorem s40r {n : Int} {q : List Int} {m i : Nat} (hq : q.length = m * 2) (hi : i < m) (hm : m ≤ 1000000000) (hb : badAt n q i = true) : Exec PP T none x40.nt 0 L40 (S40 n q m i) .r (RI 4 20) :=
  exec_seq (x := L40.a) (y := L40.b) (e40a hi) (exec_seq_x (x := L40.b.a) (y := L40.b.b) (exec_block (id := 1) (x := L40.b.a.i) (e := .r) (exec_seq (x := L40.b.a.i.a) (y := L40.b.a.i.b) (e40b hq hi) (e40r hq hi hm hb))) (by simp))

theorem s40x {n : Int} {q : List Int} {m : Nat} : Exec PP T none x40.nt 0 L40 (S40 n q m m) (.x 0) (S40 n q m m) := exec_seq_x (x := L40.a) (y := L40.b) e40x (by simp)

abbrev A40 (n : Int) (m : Nat) : List AV := [.s (.int .i64 n), .s (.sl 0 0 2 m)]
abbrev M40 (n : Int) (q : List Int) (m : Nat) : St := mkSt [(0, ⟨true, I n⟩), (1, sl0 m)] (H1 q) 1 []

theorem a40 {n : Int} {q : List Int} {m : Nat} : Exec PP T none x40.nt 0 x40.body.a (startSt (A40 n m) (H1 q)) .n (M40 n q m) := by
  refine exec_orun env2 false 60 [] [0] (fun _ => rfl) (by kernel_rfl) (by kernel_rfl) (by kernel_rfl) (by kernel_rfl)
theorem b40r {n : Int} {q : List Int} {m : Nat} (h : (decide (n < 1) || decide (n > 7)) = true) : Exec PP T none x40.nt 0 x40.body.b.a (M40 n q m) .r (RI 4 1) := by
  refine exec_orun env2 false 60 [true] [] (fun _ => rfl) (by kernel_rfl) (by kernel_rfl) (by kernel_rfl) ?_
  rw [(show obOf (orun g2 false 60 x40.body.b.a (M40 n q m) [true]) = ((!decide (n < 1) == false || true) && ((!decide (n < 1) == false || decide (n < 1) == false && true && true) && ((bif decide (n < 1) then true else decide (n < 1) == false) && true && true)) && ((bif decide (n < 1) then true else decide (n > 7)) && true)) from by kernel_rfl)]
  cases h0 : decide (n < 1) with
  | true => simp
  | false => rw [h0, Bool.false_or] at h; simp [h]
theorem b40 {n : Int} {q : List Int} {m : Nat} (h : (decide (n < 1) || decide (n > 7)) = false) : Exec PP T none x40.nt 0 x40.body.b.a (M40 n q m) .n (M40 n q m) := by
  refine exec_orun env2 false 60 [false] [0] (fun _ => rfl) (by kernel_rfl) (by kernel_rfl) (by kernel_rfl) ?_
  rw [(show obOf (orun g2 false 60 x40.body.b.a (M40 n q m) [false]) = ((!decide (n < 1) == false || true) && ((!decide (n < 1) == false || decide (n < 1) == false && true && true) && ((bif decide (n < 1) then true else decide (n < 1) == false) && true && true)) && ((!bif decide (n < 1) then true else decide (n > 7)) && true)) from by kernel_rfl)]
  rw [Bool.or_eq_false_iff] at h
  simp [h.1, h.2]
theorem c40i {n : Int} {q : List Int} {m : Nat} : Exec PP T none x40.nt 0 x40.body.b.b.a.a (M40 n q m) .n (S40 n q m 0) := by
  refine exec_orun env2 false 60 [] [0] (fun _ => rfl) (by kernel_rfl) (by kernel_rfl) (by kernel_rfl) (by kernel_rfl)
theorem d40 {n : Int} {q : List Int} {m : Nat} : Exec PP T none x40.nt 0 x40.body.b.b.b (S40 n q m m) .r (RI 4 0) := by
  refine exec_orun env2 false 60 [] [] (fun _ => rfl) (by kernel_rfl) (by kernel_rfl) (by kernel_rfl) (by kernel_rfl)

theorem body40 {n : Int} {q : List Int} {m : Nat} (hq : q.length = m * 2) (hm : m ≤ 1000000000) : Exec PP T none x40.nt 0 x40.body (startSt (A40 n m) (H1 q)) .r (RI 4 (checkP n q m)) := by
  unfold checkP
  refine exec_seq (x := x40.body.a) (y := x40.body.b) a40 ?_
  cases h : (decide (n < 1) || decide (n > 7)) with
  | true => exact exec_seq_x (x := x40.body.b.a) (y := x40.body.b.b) (b40r h) (by simp)
  | false =>
    refine exec_seq (x := x40.body.b.a) (y := x40.body.b.b) (b40 h) ?_
    cases hh : (List.range m).any (badAt n q) with
    | true =>
      obtain ⟨p, h1, h2, h3⟩ := any_first _ _ hh
      exact exec_seq_x (x := x40.body.b.b.a) (y := x40.body.b.b.b) (exec_seq (x := x40.body.b.b.a.a) (y := .block 0 (.loop L40)) c40i (exec_block (e := .r) (exec_loop_up (S40 n q m) p (fun i hi => s40 hq (by omega) hm (h3 i hi)) (s40r hq h1 hm h2) (by simp) 0 (by omega)))) (by simp)
    | false =>
      have h3 := any_none _ _ hh
      exact exec_seq (x := x40.body.b.b.a) (y := x40.body.b.b.b) (exec_seq (x := x40.body.b.b.a.a) (y := .block 0 (.loop L40)) c40i (exec_block (e := .x 0) (exec_loop_up (S40 n q m) m (fun i hi => s40 hq hi hm (h3 i hi)) s40x (by simp) 0 (by omega)))) d40

/-- an int and a slice of pairs -/
def intPairs (f : Int → List Int → Nat → TV) (args : List AV) (h : Nat → Option HO) : Option (Bool × TV × List Nat) := match args with
  | [.s (.int .i64 n), s] => match srcOf (.av s) h .i64 2 with
    | some (vc, q, m, rd) => some (vc && bndL m, f n q m, rd)
    | none => none
  | _ => none
theorem intPairs_fp (f : Int → List Int → Nat → TV) : PureFp (intPairs f) := by
  intro args h h' q hg hf
  unfold intPairs at hg ⊢
  split at hg
  · split at hg
    · rename_i hs
      cases hg
      rw [srcOf_fp hs hf]
    · cases hg
  · cases hg

theorem intPairs_ok {f : FuncId} {x : XFn} (hx : FunOK PP T f x) (t : Int → List Int → Nat → List (Nat × Slot)) (v : Int → List Int → Nat → TV) (hlen : Nat.ble 2 x.nt = true) (hb : ∀ n q m, q.length = m * 2 → m ≤ 1000000000 → Exec PP T none x.nt 0 x.body (startSt (A40 n m) (H1 q)) .r (mkSt (t n q m) [] 0 []))
    (hres : ∀ n q m, resV (mkSt (t n q m) [] 0 []).sl.get (mkSt (t n q m) [] 0 []).hp.get x.res = some (true, v n q m)) (hids : ∀ n q m, (v n q m).ids = []) : SpecOK PP (compC T) f (pureS (intPairs v)) := by
  refine spec_pure tokP hx fun ctx m h w args vals u rd base hH hargs hg => ?_
  unfold intPairs at hg
  split at hg
  · rename_i n s
    split at hg
    · rename_i vc q m' rd' hs
      simp only [Option.some.injEq, Prod.mk.injEq, Bool.and_eq_true] at hg
      obtain ⟨⟨rfl, hm⟩, rfl, rfl⟩ := hg
      match vals, hargs with
      | [v1, v2], ⟨ha1, ha2, _⟩ =>
        obtain ⟨mb, k1, k2, k3, k4⟩ := view_slice hH ha2 hs
        exact ⟨mm1 mb, H1 q, A40 n m', shown_val (ro1 k1 k2) ⟨ha1, k3 (mm1 mb) 0 rfl, trivial⟩ hlen (hb n q m' k4 (by simpa [bndL] using hm)) (fun _ => rfl) (hres n q m') (hids n q m')⟩
    · cases hg
  · cases hg

theorem ok40 : SpecOK PP (compC T) 40 (pureS (intPairs fun n q m => I (checkP n q m))) :=
  intPairs_ok o40 (fun n q m => [(4, ⟨true, I (checkP n q m)⟩)]) _ (by kernel_rfl) (fun n q m hq hm => body40 hq hm) (fun n q m => by kernel_rfl) (fun n q m => by kernel_rfl)

end Go.Proofs.Yteekkjfjpoaihaa.Eng

/- A part of the proof of topChains_holds. -/
import Derived.Test.YteekkjfjpoaihaaOt06
set_option linter.all false
namespace Go.Proofs.Yteekkjfjpoaihaa.Eng
open Go Go.Proofs
def L4 : List (Nat × Spec) := (51, pureS (gRel fun f => B (transB f))) :: L3
theorem L4_ok : SpecsL L4 := specsL_cons ok51 (pureS_fp (gRel_fp _)) o51 L3_ok
noncomputable abbrev g4 : Cal → Option Spec := specsΓ L4
theorem env4 : EnvOK PP T g4 := envL L4_ok
def L59 : XC := x59.body.b.b.b.a.b.i.i
abbrev G59 (q : List Int) (f : Nat → Bool) : List HO := [⟨true, .xvec .i64 2 q⟩, ⟨false, .row 70 [] 49 ff⟩, ⟨false, .row 70 [] 49 f⟩]
abbrev S59 (n : Int) (q : List Int) (m : Nat) (f : Nat → Bool) (i : Nat) : St := mkSt [(0, ⟨true, I n⟩), (1, sl0 m), (4, g1S 1), (5, ⟨true, I 0⟩), (6, g1S 2), (16, sl0 m), (17, ⟨true, I m⟩), (18, ⟨true, I i⟩)] (G59 q f) 3 []
abbrev P59 (n : Int) (q : List Int) (m : Nat) (f : Nat → Bool) (i : Nat) : St := mkSt [(0, ⟨true, I n⟩), (1, sl0 m), (4, g1S 1), (5, ⟨true, I 0⟩), (6, g1S 2), (16, sl0 m), (17, ⟨true, I m⟩), (18, ⟨true, I i⟩), (19, ⟨true, B (decide (Int.ofNat i < Int.ofNat m))⟩)] (G59 q f) 3 []
abbrev E59 (n : Int) (q : List Int) (m : Nat) (f : Nat → Bool) (i : Nat) (a b : Int) : St := mkSt [(0, ⟨true, I n⟩), (1, sl0 m), (4, g1S 1), (5, ⟨true, I 0⟩), (6, g1S 2), (7, ⟨true, I i⟩), (8, g1S 3), (16, sl0 m), (17, ⟨true, I m⟩), (18, ⟨true, I i⟩)] (G59 q f ++ [⟨false, .row 38 [.int .i64 a, .int .i64 b] 0 ff⟩]) 4 []
theorem e59a {n : Int} {q : List Int} {m i : Nat} {f : Nat → Bool} : Exec PP T none x59.nt 0 L59.a (S59 n q m f i) .n (P59 n q m f i) := by
  refine exec_orun env2 false 60 [] [0, 1, 2] (fun _ => rfl) (by kernel_rfl) (by kernel_rfl) (by kernel_rfl) (by kernel_rfl)
theorem e59b {n : Int} {q : List Int} {m i : Nat} {f : Nat → Bool} (hi : i < m) : Exec PP T none x59.nt 0 L59.b.a (P59 n q m f i) .n (S59 n q m f i) := by
  refine exec_orun env2 false 60 [true] [0, 1, 2] (fun _ => rfl) (by kernel_rfl) (by kernel_rfl) (by kernel_rfl) ?_
  rw [(show obOf (orun g2 false 60 L59.b.a (P59 n q m f i) [true]) = (decide (Int.ofNat i < Int.ofNat m) && true) from by kernel_rfl)]
  simp
  omega
theorem e59x {n : Int} {q : List Int} {m : Nat} {f : Nat → Bool} : Exec PP T none x59.nt 0 L59.b.a (P59 n q m f m) (.x 0) (S59 n q m f m) := by
  refine exec_orun env2 false 60 [false] [0, 1, 2] (fun _ => rfl) (by kernel_rfl) (by kernel_rfl) (by kernel_rfl) ?_
  rw [(show obOf (orun g2 false 60 L59.b.a (P59 n q m f m) [false]) = (!decide (Int.ofNat m < Int.ofNat m) && true) from by kernel_rfl)]
  simp
theorem e59d {n : Int} {q : List Int} {m i : Nat} {f : Nat → Bool} (hm : m ≤ 1000000000) (hi : i < m) : Exec PP T none x59.nt 0 L59.b.b.b (S59 n q m f i) .n (S59 n q m f (i + 1)) := by
  refine exec_orun env2 false 60 [] [0, 1, 2] (fun _ => rfl) (by kernel_rfl) (by kernel_rfl) (by kernel_rfl) ?_
  rw [(show obOf (orun g2 false 60 L59.b.b.b (S59 n q m f i) []) = (rng64 (Int.ofNat i.succ) && true) from by kernel_rfl)]
  simp [rng64]
  omega
theorem e59r {n : Int} {q : List Int} {m i : Nat} {f : Nat → Bool} (hq : q.length = m * 2) (hi : i < m) : Exec PP T none x59.nt 0 L59.b.b.a.i.a (S59 n q m f i) .n (E59 n q m f i (pa q i) (pb q i)) := by
  have e1 : pa q i = q.getD (0 + (0 + i) * 2 + 0) 0 := by unfold pa; congr 1; omega
  have e2 : pb q i = q.getD (0 + (0 + i) * 2 + 0 + 1) 0 := by unfold pb; congr 1; omega
  rw [e1, e2]
  refine exec_orun env2 false 60 [] [0, 1, 2, 3] (fun _ => rfl) (by kernel_rfl) (by kernel_rfl) (by kernel_rfl) ?_
  rw [(show obOf (orun g2 false 60 L59.b.b.a.i.a (S59 n q m f i) []) = (decide (0 ≤ Int.ofNat i) && decide (Int.ofNat i < Int.ofNat m) && (decide (((0 + (0 + i) * 2).add 0).succ.succ ≤ q.length) && (decide (0 = 0) && true && true && true))) from by kernel_rfl)]
  simp
  omega
def badD (n : Int) (q : List Int) (i : Nat) (a b : Int) : Bool := decide (min a b < 0) || decide (max a b ≥ n) || (a == b) || upB q i
theorem e59c {n : Int} {q : List Int} {m i : Nat} {f : Nat → Bool} {a b : Int} (hq : q.length = m * 2) (hi : i < m) (hm : m ≤ 1000000000) (ha : a = pa q i) (hbb : b = pb q i) (hb : badD n q i a b = false) : Exec PP T none x59.nt 0 L59.b.b.a.i.b.a (E59 n q m f i a b) .n (E59 n q m f i a b) := by
  refine exec_orun env3 false 60 [false] [0, 1, 2, 3] (fun _ => rfl) (by kernel_rfl) (by kernel_rfl) (by kernel_rfl) ?_
  rw [(show obOf (orun g3 false 60 L59.b.b.a.i.b.a (E59 n q m f i a b) [false]) = ((fun b0_ : Bool => (fun b1_ : Bool => (fun b2_ : Bool => decide (0 ≤ 0) && decide (0 < 2) && (decide (0 ≤ 1) && decide (1 < 2) && ((!decide (min a b < 0) == false || decide (0 ≤ 0) && decide (0 < 2)) && ((!decide (min a b < 0) == false || decide (min a b < 0) == false && true && true) && ((!decide (min a b < 0) == false || decide (0 ≤ 1) && decide (1 < 2)) && ((!decide (min a b < 0) == false || decide (min a b < 0) == false && true && true) && ((!decide (min a b < 0) == false || decide (min a b < 0) == false && (decide (min a b < 0) == false && true) && true) && ((!decide (min a b < 0) == false || true) && ((!decide (min a b < 0) == false || decide (min a b < 0) == false && (decide (min a b < 0) == false && true) && true) && ((bif decide (min a b < 0) then true else decide (min a b < 0) == false) && true && ((!b1_ == false || decide (0 ≤ 0) && decide (0 < 2)) && ((!b1_ == false || b1_ == false && true && true) && ((!b1_ == false || decide (0 ≤ 1) && decide (1 < 2)) && ((!b1_ == false || b1_ == false && true && true) && ((!b1_ == false || b1_ == false && (b1_ == false && true) && true) && ((bif bif decide (min a b < 0) then true else decide (max a b ≥ n) then true else b1_ == false) && true && ((!b0_ == false || true) && ((!b0_ == false || b0_ == false && true && true) && ((!b0_ == false || b0_ == false && true && true) && ((!b2_ || true) && ((!b2_ || true) && ((!b2_ || b0_ == false && decide (Int.ofNat i > 0) == true && true && rng64 (Int.ofNat i - 1)) && ((!b2_ || b0_ == false && decide (Int.ofNat i > 0) == true && (b0_ == false && decide (Int.ofNat i > 0) == true && true) && (decide (0 ≤ Int.ofNat i - 1) && decide (Int.ofNat i - 1 < Int.ofNat m))) && ((!b2_ || b0_ == false && decide (Int.ofNat i > 0) == true && true && true) && ((!b2_ || true) && ((!b2_ || b0_ == false && decide (Int.ofNat i > 0) == true && (b0_ == false && decide (Int.ofNat i > 0) == true && true) && (decide (((0 + (0 + (Int.ofNat i - 1).toNat) * 2).add 0).succ.succ ≤ q.length) && decide (2 ≤ Nat.succ 1))) && ((!b2_ || b0_ == false && decide (Int.ofNat i > 0) == true && true && true) && ((!b0_ == false || (b0_ == false && bif decide (Int.ofNat i > 0) then b0_ == false && decide (Int.ofNat i > 0) == true else true) && true) && ((bif bif bif decide (min a b < 0) then true else decide (max a b ≥ n) then true else a == b then true else b0_ == false) && true && true)))))))))))))))))))))))))))) && true && ((!bif bif bif decide (min a b < 0) then true else decide (max a b ≥ n) then true else a == b then true else bif decide (Int.ofNat i > 0) then decide (cmp2 ((List.take 2 (List.drop (0 + (0 + (Int.ofNat i - 1).toNat) * 2) q)).getD 0 0) ((List.take 2 (List.drop (0 + (0 + (Int.ofNat i - 1).toNat) * 2) q)).getD 1 0) a b ≥ 0) else false) && true)) (b0_ == false && decide (Int.ofNat i > 0) == true)) (bif decide (min a b < 0) then true else decide (max a b ≥ n))) (bif bif decide (min a b < 0) then true else decide (max a b ≥ n) then true else a == b)) from by kernel_rfl)]
  dsimp only
  simp only [badD, Bool.or_eq_false_iff] at hb
  obtain ⟨⟨⟨h0, h1⟩, h2⟩, h3⟩ := hb
  simp only [h0, h1, h2]
  cases i with
  | zero => simp
  | succ j =>
    have e1 : (Int.ofNat (j + 1) - 1).toNat = j := by simp
    have e2 : Int.ofNat (j + 1) - 1 = (j : Int) := by simp
    have e3 : rng64 (j : Int) = true := by rw [rng64_eq]; simp; omega
    simp [upB, pa, pb, Nat.mul_comm 2] at h3
    simp [e1, e2, e3, cmp2_less]
    rw [ha, hbb]
    simp [pa, pb, Nat.mul_comm 2]
    exact ⟨by omega, h3⟩
abbrev Z59 (f : Nat → Bool) (e : Int) : St := mkSt [(4, g1S 0), (5, ⟨true, I e⟩)] [⟨false, .row 70 [] 49 f⟩] 1 []
theorem e59e {n : Int} {q : List Int} {m i : Nat} {f : Nat → Bool} {a b : Int} (hq : q.length = m * 2) (hi : i < m) (hm : m ≤ 1000000000) (ha : a = pa q i) (hbb : b = pb q i) (hb : badD n q i a b = true) : Exec PP T none x59.nt 0 L59.b.b.a.i.b.a (E59 n q m f i a b) .r (Z59 f 30) := by
  refine exec_orun env3 false 60 [true] [1] (fun _ => rfl) (by kernel_rfl) (by kernel_rfl) (by kernel_rfl) ?_
  rw [(show obOf (orun g3 false 60 L59.b.b.a.i.b.a (E59 n q m f i a b) [true]) = ((fun b0_ : Bool => (fun b1_ : Bool => (fun b2_ : Bool => decide (0 ≤ 0) && decide (0 < 2) && (decide (0 ≤ 1) && decide (1 < 2) && ((!decide (min a b < 0) == false || decide (0 ≤ 0) && decide (0 < 2)) && ((!decide (min a b < 0) == false || decide (min a b < 0) == false && true && true) && ((!decide (min a b < 0) == false || decide (0 ≤ 1) && decide (1 < 2)) && ((!decide (min a b < 0) == false || decide (min a b < 0) == false && true && true) && ((!decide (min a b < 0) == false || decide (min a b < 0) == false && (decide (min a b < 0) == false && true) && true) && ((!decide (min a b < 0) == false || true) && ((!decide (min a b < 0) == false || decide (min a b < 0) == false && (decide (min a b < 0) == false && true) && true) && ((bif decide (min a b < 0) then true else decide (min a b < 0) == false) && true && ((!b1_ == false || decide (0 ≤ 0) && decide (0 < 2)) && ((!b1_ == false || b1_ == false && true && true) && ((!b1_ == false || decide (0 ≤ 1) && decide (1 < 2)) && ((!b1_ == false || b1_ == false && true && true) && ((!b1_ == false || b1_ == false && (b1_ == false && true) && true) && ((bif bif decide (min a b < 0) then true else decide (max a b ≥ n) then true else b1_ == false) && true && ((!b0_ == false || true) && ((!b0_ == false || b0_ == false && true && true) && ((!b0_ == false || b0_ == false && true && true) && ((!b2_ || true) && ((!b2_ || true) && ((!b2_ || b0_ == false && decide (Int.ofNat i > 0) == true && true && rng64 (Int.ofNat i - 1)) && ((!b2_ || b0_ == false && decide (Int.ofNat i > 0) == true && (b0_ == false && decide (Int.ofNat i > 0) == true && true) && (decide (0 ≤ Int.ofNat i - 1) && decide (Int.ofNat i - 1 < Int.ofNat m))) && ((!b2_ || b0_ == false && decide (Int.ofNat i > 0) == true && true && true) && ((!b2_ || true) && ((!b2_ || b0_ == false && decide (Int.ofNat i > 0) == true && (b0_ == false && decide (Int.ofNat i > 0) == true && true) && (decide (((0 + (0 + (Int.ofNat i - 1).toNat) * 2).add 0).succ.succ ≤ q.length) && decide (2 ≤ Nat.succ 1))) && ((!b2_ || b0_ == false && decide (Int.ofNat i > 0) == true && true && true) && ((!b0_ == false || (b0_ == false && bif decide (Int.ofNat i > 0) then b0_ == false && decide (Int.ofNat i > 0) == true else true) && true) && ((bif bif bif decide (min a b < 0) then true else decide (max a b ≥ n) then true else a == b then true else b0_ == false) && true && true)))))))))))))))))))))))))))) && true && ((bif bif bif decide (min a b < 0) then true else decide (max a b ≥ n) then true else a == b then true else bif decide (Int.ofNat i > 0) then decide (cmp2 ((List.take 2 (List.drop (0 + (0 + (Int.ofNat i - 1).toNat) * 2) q)).getD 0 0) ((List.take 2 (List.drop (0 + (0 + (Int.ofNat i - 1).toNat) * 2) q)).getD 1 0) a b ≥ 0) else false) && (decide (0 = 0) && (decide (0 = 0) && true && true && true) && true))) (b0_ == false && decide (Int.ofNat i > 0) == true)) (bif decide (min a b < 0) then true else decide (max a b ≥ n))) (bif bif decide (min a b < 0) then true else decide (max a b ≥ n) then true else a == b)) from by kernel_rfl)]
  dsimp only
  cases h0 : decide (min a b < 0) with
  | true => simp
  | false =>
  cases h1 : decide (max a b ≥ n) with
  | true => simp
  | false =>
  cases h2 : (a == b) with
  | true => simp
  | false =>
    simp only [badD, h0, h1, h2, Bool.false_or] at hb
    cases i with
    | zero => simp [upB] at hb
    | succ j =>
      have e1 : (Int.ofNat (j + 1) - 1).toNat = j := by simp
      have e2 : Int.ofNat (j + 1) - 1 = (j : Int) := by simp
      have e3 : rng64 (j : Int) = true := by rw [rng64_eq]; simp; omega
      simp [upB, pa, pb, Nat.mul_comm 2] at hb
      simp [e1, e2, e3, cmp2_less]
      rw [ha, hbb]
      simp [pa, pb, Nat.mul_comm 2]
      exact ⟨by omega, hb⟩
def relS (f : Nat → Bool) (a b : Int) : Nat → Bool := fun j => bif j.beq (0 - ([] : List SV).length + (0 + a.toNat * 7 + b.toNat * 1)) then true else f j
theorem e59s {n : Int} {q : List Int} {m i : Nat} {f : Nat → Bool} {a b : Int} (h0 : 0 ≤ a) (h1 : a < 7) (h2 : 0 ≤ b) (h3 : b < 7) : Exec PP T none x59.nt 0 L59.b.b.a.i.b.b (E59 n q m f i a b) .n (S59 n q m (relS f a b) i) := by
  refine exec_orun env2 false 60 [] [0, 1, 2] (fun _ => rfl) (by kernel_rfl) (by kernel_rfl) (by kernel_rfl) ?_
  rw [(show obOf (orun g2 false 60 L59.b.b.a.i.b.b (E59 n q m f i a b) []) = (decide (0 ≤ 0) && decide (0 < 2) && (decide (0 ≤ 1) && decide (1 < 2) && (decide (0 ≤ a) && decide (a < 7) && (decide (0 ≤ b) && decide (b < 7) && (decide (0 + (0 + a.toNat * 7 + b.toNat * 1) < 49) && true && true && true)))) && true) from by kernel_rfl)]
  simp
  omega
def relF (q : List Int) : Nat → Nat → Bool
  | 0 => ff
  | i + 1 => relS (relF q i) (pa q i) (pb q i)
def badO (n : Int) (q : List Int) (i : Nat) : Bool := badD n q i (pa q i) (pb q i)
theorem badO_rng {n : Int} {q : List Int} {i : Nat} (hn : (decide (n < 1) || decide (n > 7)) = false) (hb : badO n q i = false) : (0 ≤ pa q i ∧ pa q i < 7) ∧ 0 ≤ pb q i ∧ pb q i < 7 := by
  simp [badO, badD] at hb hn
  omega
theorem s59 {n : Int} {q : List Int} {m i : Nat} (hn : (decide (n < 1) || decide (n > 7)) = false) (hq : q.length = m * 2) (hi : i < m) (hm : m ≤ 1000000000) (hb : badO n q i = false) : Exec PP T none x59.nt 0 L59 (S59 n q m (relF q i) i) .n (S59 n q m (relF q (i + 1)) (i + 1)) := by
  obtain ⟨⟨h0, h1⟩, h2, h3⟩ := badO_rng hn hb
  exact exec_seq (x := L59.a) (y := L59.b) e59a (exec_seq (x := L59.b.a) (y := L59.b.b) (e59b hi) (exec_seq (x := L59.b.b.a) (y := L59.b.b.b) (exec_block (id := 1) (x := L59.b.b.a.i) (e := .n) (exec_seq (x := L59.b.b.a.i.a) (y := L59.b.b.a.i.b) (e59r hq hi) (exec_seq (x := L59.b.b.a.i.b.a) (y := L59.b.b.a.i.b.b) (e59c hq hi hm rfl rfl hb) (e59s h0 h1 h2 h3)))) (e59d hm hi)))
theorem s59r {n : Int} {q : List Int} {m i : Nat} {f : Nat → Bool} (hq : q.length = m * 2) (hi : i < m) (hm : m ≤ 1000000000) (hb : badO n q i = true) : Exec PP T none x59.nt 0 L59 (S59 n q m f i) .r (Z59 f 30) := by
  exact exec_seq (x := L59.a) (y := L59.b) e59a (exec_seq (x := L59.b.a) (y := L59.b.b) (e59b hi) (exec_seq_x (x := L59.b.b.a) (y := L59.b.b.b) (exec_block (id := 1) (x := L59.b.b.a.i) (e := .r) (exec_seq (x := L59.b.b.a.i.a) (y := L59.b.b.a.i.b) (e59r hq hi) (exec_seq_x (x := L59.b.b.a.i.b.a) (y := L59.b.b.a.i.b.b) (e59e hq hi hm rfl rfl hb) (by simp)))) (by simp)))
theorem s59x {n : Int} {q : List Int} {m : Nat} {f : Nat → Bool} : Exec PP T none x59.nt 0 L59 (S59 n q m f m) (.x 0) (S59 n q m f m) :=
  exec_seq (x := L59.a) (y := L59.b) e59a (exec_seq_x (x := L59.b.a) (y := L59.b.b) e59x (by simp))
abbrev M59 (n : Int) (q : List Int) (m : Nat) : St := mkSt [(0, ⟨true, I n⟩), (1, sl0 m), (4, g1S 1), (5, ⟨true, I 0⟩)] [⟨true, .xvec .i64 2 q⟩, ⟨false, .row 70 [] 49 ff⟩] 2 []
abbrev M59' (n : Int) (q : List Int) (m : Nat) : St := mkSt [(0, ⟨true, I n⟩), (1, sl0 m), (4, g1S 1), (5, ⟨true, I 0⟩), (6, g1S 2)] (G59 q ff) 3 []
theorem a59 {n : Int} {q : List Int} {m : Nat} : Exec PP T none x59.nt 0 x59.body.a (startSt (A40 n m) (H1 q)) .n (M59 n q m) := by
  refine exec_orun env2 false 60 [] [0, 1] (fun _ => rfl) (by kernel_rfl) (by kernel_rfl) (by kernel_rfl) (by kernel_rfl)
theorem a59' {n : Int} {q : List Int} {m : Nat} : Exec PP T none x59.nt 0 x59.body.b.a (M59 n q m) .n (M59' n q m) := by
  refine exec_orun env2 false 60 [] [0, 1, 2] (fun _ => rfl) (by kernel_rfl) (by kernel_rfl) (by kernel_rfl) (by kernel_rfl)
theorem b59r {n : Int} {q : List Int} {m : Nat} (h : (decide (n < 1) || decide (n > 7)) = true) : Exec PP T none x59.nt 0 x59.body.b.b.a (M59' n q m) .r (Z59 ff 1) := by
  refine exec_orun env2 false 60 [true] [1] (fun _ => rfl) (by kernel_rfl) (by kernel_rfl) (by kernel_rfl) ?_
  rw [(show obOf (orun g2 false 60 x59.body.b.b.a (M59' n q m) [true]) = ((!decide (n < 1) == false || true) && ((!decide (n < 1) == false || decide (n < 1) == false && true && true) && ((bif decide (n < 1) then true else decide (n < 1) == false) && true && true)) && ((bif decide (n < 1) then true else decide (n > 7)) && (decide (0 = 0) && (decide (0 = 0) && true && true && true) && true))) from by kernel_rfl)]
  cases h0 : decide (n < 1) with
  | true => simp
  | false => rw [h0, Bool.false_or] at h; simp [h]
theorem b59 {n : Int} {q : List Int} {m : Nat} (h : (decide (n < 1) || decide (n > 7)) = false) : Exec PP T none x59.nt 0 x59.body.b.b.a (M59' n q m) .n (M59' n q m) := by
  refine exec_orun env2 false 60 [false] [0, 1, 2] (fun _ => rfl) (by kernel_rfl) (by kernel_rfl) (by kernel_rfl) ?_
  rw [(show obOf (orun g2 false 60 x59.body.b.b.a (M59' n q m) [false]) = ((!decide (n < 1) == false || true) && ((!decide (n < 1) == false || decide (n < 1) == false && true && true) && ((bif decide (n < 1) then true else decide (n < 1) == false) && true && true)) && ((!bif decide (n < 1) then true else decide (n > 7)) && true)) from by kernel_rfl)]
  rw [Bool.or_eq_false_iff] at h
  simp [h.1, h.2]
theorem c59i {n : Int} {q : List Int} {m : Nat} : Exec PP T none x59.nt 0 x59.body.b.b.b.a.a (M59' n q m) .n (S59 n q m ff 0) := by
  refine exec_orun env2 false 60 [] [0, 1, 2] (fun _ => rfl) (by kernel_rfl) (by kernel_rfl) (by kernel_rfl) (by kernel_rfl)
theorem d59 {n : Int} {q : List Int} {m : Nat} {f : Nat → Bool} (h : transB f = true) : Exec PP T none x59.nt 0 x59.body.b.b.b.b (S59 n q m f m) .r (Z59 f 0) := by
  refine exec_orun env4 false 60 [false] [1] (fun _ => rfl) (by kernel_rfl) (by kernel_rfl) (by kernel_rfl) ?_
  rw [(show obOf (orun g4 false 60 x59.body.b.b.b.b (S59 n q m f m) [false]) = (decide (0 = 0) && true && (!!transB f && true) && (decide (0 = 0) && (decide (0 = 0) && true && true && true) && true)) from by kernel_rfl)]
  simp [h]
theorem d59r {n : Int} {q : List Int} {m : Nat} {f : Nat → Bool} (h : transB f = false) : Exec PP T none x59.nt 0 x59.body.b.b.b.b (S59 n q m f m) .r (Z59 f 30) := by
  refine exec_orun env4 false 60 [true] [1] (fun _ => rfl) (by kernel_rfl) (by kernel_rfl) (by kernel_rfl) ?_
  rw [(show obOf (orun g4 false 60 x59.body.b.b.b.b (S59 n q m f m) [true]) = (decide (0 = 0) && true && (!transB f && (decide (0 = 0) && (decide (0 = 0) && true && true && true) && true))) from by kernel_rfl)]
  simp [h]
/-- where the pairs stop being good -/
def stopO (n : Int) (q : List Int) (m : Nat) : Nat := ((List.range m).find? (badO n q)).getD m
theorem find_first {f : Nat → Bool} {m p : Nat} (h1 : p < m) (h2 : f p = true) (h3 : ∀ i, i < p → f i = false) : ((List.range m).find? f).getD m = p := by
  rw [List.find?_range_eq_some (i := p) |>.2 ⟨h2, by simpa using h1, fun j hj => by simp [h3 j hj]⟩]
  rfl
theorem find_none {f : Nat → Bool} {m : Nat} (h3 : ∀ i, i < m → f i = false) : ((List.range m).find? f).getD m = m := by
  rw [List.find?_range_eq_none.2 fun j hj => by simp [h3 j hj]]
  rfl
def orderE (n : Int) (q : List Int) (m : Nat) : Int := bif decide (n < 1) || decide (n > 7) then 1 else bif (List.range m).any (badO n q) then 30 else bif transB (relF q m) then 0 else 30
def orderF (n : Int) (q : List Int) (m : Nat) : Nat → Bool := bif decide (n < 1) || decide (n > 7) then ff else relF q (stopO n q m)
theorem body59 {n : Int} {q : List Int} {m : Nat} (hq : q.length = m * 2) (hm : m ≤ 1000000000) : Exec PP T none x59.nt 0 x59.body (startSt (A40 n m) (H1 q)) .r (Z59 (orderF n q m) (orderE n q m)) := by
  refine exec_seq (x := x59.body.a) (y := x59.body.b) a59 (exec_seq (x := x59.body.b.a) (y := x59.body.b.b) a59' ?_)
  unfold orderF orderE
  cases h : (decide (n < 1) || decide (n > 7)) with
  | true => exact exec_seq_x (x := x59.body.b.b.a) (y := x59.body.b.b.b) (b59r h) (by simp)
  | false =>
    refine exec_seq (x := x59.body.b.b.a) (y := x59.body.b.b.b) (b59 h) ?_
    simp only [cond_false]
    cases hh : (List.range m).any (badO n q) with
    | true =>
      obtain ⟨p, h1, h2, h3⟩ := any_first _ _ hh
      unfold stopO
      rw [find_first h1 h2 h3]
      exact exec_seq_x (x := x59.body.b.b.b.a) (y := x59.body.b.b.b.b) (exec_seq (x := x59.body.b.b.b.a.a) (y := .block 0 (.loop L59)) c59i (exec_block (e := .r) (exec_loop_up (fun i => S59 n q m (relF q i) i) p (fun i hi => s59 h hq (by omega) hm (h3 i hi)) (s59r hq h1 hm h2) (by simp) 0 (by omega)))) (by simp)
    | false =>
      have h3 := any_none _ _ hh
      unfold stopO
      rw [find_none h3, cond_false]
      refine exec_seq (x := x59.body.b.b.b.a) (y := x59.body.b.b.b.b) (exec_seq (x := x59.body.b.b.b.a.a) (y := .block 0 (.loop L59)) c59i (exec_block (e := .x 0) (exec_loop_up (fun i => S59 n q m (relF q i) i) m (fun i hi => s59 h hq hi hm (h3 i hi)) s59x (by simp) 0 (by omega)))) ?_
      cases ht : transB (relF q m) with
      | true => exact d59 ht
      | false => exact d59r ht
/-- values that are read from a cell of one's own at the end -/
theorem shown_valH {P : Program} {T : Tab} {x : XFn} {m0 : MM} {hs : List HO} {args0 : List AV} {vals : List Value} {w : World} {val : TV} {base : Nat} {ts : List (Nat × Slot)} {hs' : List HO} {nx : Nat} {ex : XE} (hview : RoView (compC T) m0 hs w) (hargs : All2 (AR m0) args0 vals) (hlen : Nat.ble args0.length x.nt = true)
    (hrun : Exec P T none x.nt 0 x.body (startSt args0 hs) ex (mkSt ts hs' nx [])) (hex : ex ≠ .n → ex = .r) (hres : resV (mkSt ts hs' nx []).sl.get (mkSt ts hs' nx []).hp.get x.res = some (true, val)) (hids : val.ids = []) : Shown P T x m0 hs args0 vals w val [] base where
  view := hview
  args := hargs
  len := Nat.le_of_ble_eq_true hlen
  run := ⟨mkSt ts hs' nx [], ex, val, [], hrun, by by_cases h : ex = .n; exact .inl h; exact .inr (hex h), rfl, hres, rfl, fun j hj => (by rw [hids] at hj; cases hj), (TV.ren_id fun j hj => (by rw [hids] at hj; cases hj)).symm, rfl, fun k id h => (by simp at h)⟩
theorem intPairsH_ok {f : FuncId} {x : XFn} (hx : FunOK PP T f x) (k : Nat) (c : Int → List Int → Nat → Bool) (t : Int → List Int → Nat → List (Nat × Slot)) (hs' : Int → List Int → Nat → List HO) (nx : Nat) (v : Int → List Int → Nat → TV) (hlen : Nat.ble (k + 2) x.nt = true) (hb : ∀ n q m, q.length = m * 2 → m ≤ 1000000000 → c n q m = true → Exec PP T none x.nt 0 x.body (startSt (A40 n m ++ List.replicate k (.s .any)) (H1 q)) .r (mkSt (t n q m) (hs' n q m) nx []))
    (hres : ∀ n q m, resV (mkSt (t n q m) (hs' n q m) nx []).sl.get (mkSt (t n q m) (hs' n q m) nx []).hp.get x.res = some (true, v n q m)) (hids : ∀ n q m, (v n q m).ids = []) : SpecOK PP (compC T) f (pureS (intPairsX k c v)) := by
  refine spec_pure tokP hx fun ctx m h w args vals u rd base hH hargs hg => ?_
  unfold intPairsX at hg
  split at hg
  · rename_i n s rest
    cases hk : Nat.beq rest.length k with
    | false => rw [hk] at hg; cases hg
    | true =>
      rw [hk, cond_true] at hg
      have hk := Nat.eq_of_beq_eq_true hk
      subst hk
      split at hg
      · rename_i vc q m' rd' hs
        simp only [Option.some.injEq, Prod.mk.injEq, Bool.and_eq_true] at hg
        obtain ⟨⟨rfl, hm, hc⟩, rfl, rfl⟩ := hg
        match vals, hargs with
        | v1 :: v2 :: vr, ⟨ha1, ha2, har⟩ =>
          obtain ⟨mb, k1, k2, k3, k4⟩ := view_slice hH ha2 hs
          have hall : All2 (AR (mm1 mb)) (.s (.int .i64 n) :: .s (.sl 0 0 2 m') :: List.replicate rest.length (.s .any)) (v1 :: v2 :: vr) := ⟨ha1, k3 (mm1 mb) 0 rfl, all2_any har⟩
          exact ⟨mm1 mb, H1 q, A40 n m' ++ List.replicate rest.length (.s .any), shown_valH (ro1 k1 k2) hall (by simpa using hlen) (hb n q m' k4 (by simpa [bndL] using hm) hc) (fun _ => rfl) (hres n q m') (hids n q m')⟩
      · cases hg
  · cases hg
abbrev orderR (n : Int) (q : List Int) (m : Nat) : TV := .tup [.pb [] 49 (orderF n q m), .s (.int .i64 (orderE n q m))]
def anyC (_ : Int) (_ : List Int) (_ : Nat) : Bool := true
theorem ok59 : SpecOK PP (compC T) 59 (pureS (intPairsX 0 anyC orderR)) :=
  intPairsH_ok o59 0 anyC (fun n q m => [(4, g1S 0), (5, ⟨true, I (orderE n q m)⟩)]) (fun n q m => [⟨false, .row 70 [] 49 (orderF n q m)⟩]) 1 _ (by kernel_rfl) (fun n q m hq hm _ => body59 hq hm) (fun n q m => by kernel_rfl) (fun n q m => by kernel_rfl)
end Go.Proofs.Yteekkjfjpoaihaa.Eng
namespace Go.Proofs.Yteekkjfjpoaihaa.Eng
open Go Go.Proofs
theorem body60 : Exec PP T none x60.nt 0 x60.body (startSt [] []) .r (mkSt [(0, g1S 0)] [⟨false, .row 70 [] 49 ff⟩] 1 []) := by
  refine exec_orun env0 false 60 [] [0] (fun _ => rfl) (by kernel_rfl) (by kernel_rfl) (by kernel_rfl) (by kernel_rfl)
def gNone (args : List AV) (_ : Nat → Option HO) : Option (Bool × TV × List Nat) := match args with
  | [] => some (true, .av (.pb [] 49 ff), [])
  | _ => none
theorem gNone_fp : PureFp gNone := fun args h h' q hg hf => hg
theorem ok60 : SpecOK PP (compC T) 60 (pureS gNone) := by
  refine spec_pure tokP o60 fun ctx m h w args vals v rd base hH hargs hg => ?_
  unfold gNone at hg
  split at hg
  · simp only [Option.some.injEq, Prod.mk.injEq] at hg
    obtain ⟨_, rfl, rfl⟩ := hg
    match vals, hargs with
    | [], _ => exact ⟨emV, [], [], shown_valH (ts := [(0, g1S 0)]) (hs' := [⟨false, .row 70 [] 49 ff⟩]) (nx := 1) ro0 trivial (by kernel_rfl) body60 (fun _ => rfl) (by kernel_rfl) (by kernel_rfl)⟩
  · cases hg
def L5 : List (Nat × Spec) := (60, pureS gNone) :: (59, pureS (intPairsX 0 anyC orderR)) :: L4
theorem L5_ok : SpecsL L5 := specsL_cons ok60 (pureS_fp gNone_fp) o60 (specsL_cons ok59 (pureS_fp (intPairsX_fp _ _ _)) o59 L4_ok)
/-- where it does not -/
def L5g : List (Nat × Spec) := (48, spOpen) :: L5
theorem L5g_ok : SpecsL L5g := specsL_cons ok48 spOpen_fp o48 L5_ok
noncomputable abbrev g5g : Cal → Option Spec := specsΓ L5g
theorem env5g : EnvOK PP T g5g := envL L5g_ok
def ord1 (n : Int) (q : List Int) (m : Nat) : Bool := !(orderE n q m == 0)
def isPair : AV → Bool
  | .pb [.int .i64 _, .int .i64 _] 0 _ => true
  | _ => false
def intPairsP (k : Nat) (c : Int → List Int → Nat → Bool) (f : Int → List Int → Nat → TV) (args : List AV) (h : Nat → Option HO) : Option (Bool × TV × List Nat) := match args with
  | .s (.int .i64 n) :: s :: rest => bif Nat.beq rest.length k && rest.all isPair then match srcOf (.av s) h .i64 2 with
    | some (vc, q, m, rd) => some (vc && (bndL m && c n q m), f n q m, rd)
    | none => none
    else none
  | _ => none
theorem tk0 {q : List Int} {m : Nat} (hq : q.length = m * 2) : List.take (m * 2) q = q := by
  rw [← hq]; exact List.take_length
theorem tk {q : List Int} {m : Nat} (hq : q.length = m * 2) : List.take (m * 2) (List.drop 0 q) = q := by
  rw [List.drop_zero, ← hq]; exact List.take_length
abbrev M12 (n : Int) (q : List Int) (m : Nat) (f : Nat → Bool) (e : Int) : St := mkSt [(0, ⟨true, I n⟩), (1, sl0 m), (4, ⟨true, .av (.s .nils)⟩), (5, ⟨true, I 0⟩), (6, g1S 1), (7, ⟨true, I e⟩)] [⟨true, .xvec .i64 2 q⟩, ⟨false, .row 70 [] 49 f⟩] 2 []
theorem a12 {n : Int} {q : List Int} {m : Nat} : Exec PP T none x12.nt 0 x12.body.a (startSt (A40 n m) (H1 q)) .n (mkSt [(0, ⟨true, I n⟩), (1, sl0 m), (4, ⟨true, .av (.s .nils)⟩), (5, ⟨true, I 0⟩)] (H1 q) 1 []) := by
  refine exec_orun env5g false 90 [] [0] (fun _ => rfl) (by kernel_rfl) (by kernel_rfl) (by kernel_rfl) (by kernel_rfl)
theorem b12 {n : Int} {q : List Int} {m : Nat} (hq : q.length = m * 2) (hm : m ≤ 1000000000) : Exec PP T none x12.nt 0 x12.body.b.a (mkSt [(0, ⟨true, I n⟩), (1, sl0 m), (4, ⟨true, .av (.s .nils)⟩), (5, ⟨true, I 0⟩)] (H1 q) 1 []) .n (M12 n q m (orderF n q m) (orderE n q m)) := by
  have key : Exec PP T none x12.nt 0 x12.body.b.a (mkSt [(0, ⟨true, I n⟩), (1, sl0 m), (4, ⟨true, .av (.s .nils)⟩), (5, ⟨true, I 0⟩)] (H1 q) 1 []) .n (M12 n q m (orderF n (List.take (m * 2) (List.drop 0 q)) m) (orderE n (List.take (m * 2) (List.drop 0 q)) m)) := by
    refine exec_orun env5g false 90 [] [0, 9] (fun _ => rfl) (by kernel_rfl) (by kernel_rfl) (by kernel_rfl) ?_
    rw [(show obOf (orun g5g false 90 x12.body.b.a (mkSt [(0, ⟨true, I n⟩), (1, sl0 m), (4, ⟨true, .av (.s .nils)⟩), (5, ⟨true, I 0⟩)] (H1 q) 1 []) []) = (decide ((0 + m) * 2 ≤ q.length) && (decide (m ≤ 1000000000) && true) && (decide (0 = 0) && true && true && true)) from by kernel_rfl)]
    simp [hq, hm]
  rw [tk hq] at key
  exact key
theorem eb13 {n : Int} {q : List Int} {m : Nat} (hq : q.length = m * 2) (hm : m ≤ 1000000000) (hc : anyC n q m = true) : Exec PP T none x13.nt 0 x13.body (startSt (A40 n m ++ List.replicate 0 (.s .any)) (H1 q)) .r (mkSt [(4, ⟨true, I (orderE n q m)⟩)] [] 0 []) := by
  have key : Exec PP T none x13.nt 0 x13.body (startSt (A40 n m ++ List.replicate 0 (.s .any)) (H1 q)) .r (mkSt [(4, ⟨true, I (orderE n (List.take (m * 2) (List.drop 0 q)) m)⟩)] [] 0 []) := by
    refine exec_orun env5g false 90 [] [] (fun _ => rfl) (by kernel_rfl) (by kernel_rfl) (by kernel_rfl) ?_
    rw [(show obOf (orun g5g false 90 x13.body (startSt (A40 n m ++ List.replicate 0 (.s .any)) (H1 q)) []) = (decide ((0 + m) * 2 ≤ q.length) && (decide (m ≤ 1000000000) && true) && (decide (0 = 0) && true && true && true) && true) from by kernel_rfl)]
    try rw [tk0 hq]
    simp only [anyC] at hc
    try simp at hc
    simp [anyC, bndL, hq, hm, hc]
  rw [tk hq] at key
  exact key
theorem ok13e : SpecOK PP (compC T) 13 (pureS (intPairsX 0 anyC fun n q m => I (orderE n q m))) :=
  intPairsH_ok o13 0 anyC (fun n q m => [(4, ⟨true, I (orderE n q m)⟩)]) (fun n q m => []) 0 _ (by kernel_rfl) (fun n q m hq hm hc => eb13 hq hm hc) (fun n q m => by kernel_rfl) (fun n q m => by kernel_rfl)
end Go.Proofs.Yteekkjfjpoaihaa.Eng
namespace Go.Proofs.Yteekkjfjpoaihaa.Eng
open Go Go.Proofs
theorem specX_lit {f : FuncId} {k : Nat} {c c' : Int → List Int → Nat → Bool} {v v' : Int → List Int → Nat → TV} (h : SpecOK PP (compC T) f (pureS (intPairsX k c v))) (hc : ∀ n q m, c' n q m = true → c n q m = true ∧ v n q m = v' n q m) : SpecOK PP (compC T) f (pureS (intPairsX k c' v')) := by
  intro ctx m hh w args vals base e hH hargs hfr hup hr hvc
  simp only [pureS, intPairsX] at hr
  have h := h ctx m hh w args vals base
  simp only [pureS, intPairsX] at h
  split at hr
  case h_2 => cases hr
  rename_i vc u rd hq
  cases hr
  simp only at hvc
  subst hvc
  split at hq
  case h_2 => cases hq
  rename_i n s rest
  cases hk : Nat.beq rest.length k with
  | false => rw [hk] at hq; cases hq
  | true =>
    simp only [hk, cond_true] at hq h
    split at hq
    case h_2 => cases hq
    rename_i vc q m' rd' hs
    simp only [Option.some.injEq, Prod.mk.injEq, Bool.and_eq_true] at hq
    obtain ⟨⟨rfl, hm, hcc⟩, rfl, rfl⟩ := hq
    obtain ⟨h1, h2⟩ := hc n q m' hcc
    simp only [hs] at h
    have := h ⟨true && (bndL m' && c n q m'), v n q m', [], [], some rd'⟩ hH hargs hfr hup rfl (by simp [hm, h1])
    simp only [h2] at this
    exact this
def cW (w : Int) (n : Int) (q : List Int) (m : Nat) : Bool := checkP n q m == w
def cE (w : Int) (n : Int) (q : List Int) (m : Nat) : Bool := (checkP n q m == w) && err1 n q m
def oW (e : Int) (n : Int) (q : List Int) (m : Nat) : Bool := orderE n q m == e
def oE (e : Int) (n : Int) (q : List Int) (m : Nat) : Bool := (orderE n q m == e) && ord1 n q m
def iB (b : Bool) (n : Int) (q : List Int) (m : Nat) : Bool := isOrd n q m == b
def gAwake (args : List AV) (_ : Nat → Option HO) : Option (Bool × TV × List Nat) := match args with
  | [] => some (true, B true, [])
  | _ => none
def L6 (w e : Int) (b : Bool) : List (Nat × Spec) := [(11, pureS gAwake), (39, spFew), (40, pureS (intPairsX 0 (cW w) fun _ _ _ => I w)), (28, pureS (intPairsX 0 (iB b) fun _ _ _ => B b)), (41, pureS (intPairsX 0 (cW w) fun _ _ _ => I w)), (13, pureS (intPairsX 0 (oW e) fun _ _ _ => I e)), (42, pureS (intPairsX 0 (cE w) fun _ _ _ => .tup [.s .nils, .s (.int .i64 w)])), (9, pureS (intPairsX 0 (cE w) fun _ _ _ => .tup [.s (.int .i64 0), .s (.int .i64 w)])), (8, pureS (intPairsX 0 (cE w) fun _ _ _ => .tup [.s (.int .i64 0), .s (.int .i64 w)])), (10, pureS (intPairsX 0 (cE w) fun _ _ _ => .tup [.s .nils, .s (.bool false), .s (.int .i64 w)])), (45, pureS (intPairsX 0 (cE w) fun _ _ _ => .tup [.s .nils, .s (.bool false), .s (.int .i64 w)])), (46, pureS (intPairsX 1 (cE w) fun _ _ _ => .tup [.s (.bool false), .s (.int .i64 w)])), (47, pureS (intPairsX 0 (cE w) fun _ _ _ => .tup [.pb [.nils, .nils] 0 ff, .s (.bool false), .s (.int .i64 w)])), (43, pureS (intPairsP 2 (cE w) fun _ _ _ => .tup [.s (.bool false), .s (.int .i64 w)])), (44, pureS (intPairsP 1 (cE w) fun _ _ _ => .tup [.s .nils, .s (.int .i64 w)])), (12, pureS (intPairsX 0 (oE e) fun _ _ _ => .tup [.s .nils, .s (.int .i64 e)])), (19, pureS (intPairsX 0 (oE e) fun _ _ _ => .tup [.s .nils, .s (.int .i64 e)])), (20, pureS (intPairsX 0 (oE e) fun _ _ _ => .tup [.s .nils, .s (.int .i64 e)])), (29, pureS (intPairsX 0 (oE e) fun _ _ _ => .tup [.pb [.nils, .nils] 0 ff, .s (.bool false), .s (.int .i64 e)]))]
noncomputable abbrev g6 (w e : Int) (b : Bool) : Cal → Option Spec := specsΓ (L6 w e b)
end Go.Proofs.Yteekkjfjpoaihaa.Eng
namespace Go.Proofs.Yteekkjfjpoaihaa.Eng
open Go Go.Proofs
theorem at7_relS {f : Nat → Bool} {a b : Int} {x y : Nat} (ha : 0 ≤ a ∧ a < 7) (hb : 0 ≤ b ∧ b < 7) (hx : x < 7) (hy : y < 7) : at7 (relS f a b) x y = (at7 f x y || (a == (x : Int) && b == (y : Int))) := by
  unfold at7 relS
  simp only [List.length_nil]
  by_cases h : a = (x : Int) ∧ b = (y : Int)
  · obtain ⟨rfl, rfl⟩ := h
    rw [beqT (by simp)]
    simp
  · rw [beqF (by omega)]
    have : (a == (x : Int) && b == (y : Int)) = false := by
      cases hh : (a == (x : Int) && b == (y : Int)) with
      | false => rfl
      | true => simp at hh; exact absurd hh h
    rw [this, cond_false, Bool.or_false]
end Go.Proofs.Yteekkjfjpoaihaa.Eng
namespace Go.Proofs.Yteekkjfjpoaihaa.Eng
open Go Go.Proofs
theorem nodup_range (k : Nat) : nodupB (List.range k) = true := by
  have key : ∀ l : List Nat, l.Nodup → nodupB l = true := by
    intro l
    induction l with
    | nil => intro _; rfl
    | cons a l ih =>
      intro h
      obtain ⟨h1, h2⟩ := List.nodup_cons.1 h
      simp only [nodupB, Bool.and_eq_true, Bool.not_eq_true', ih h2, and_true]
      cases hh : l.any (Nat.beq a) with
      | false => rfl
      | true => exact absurd (any_beq.1 hh) h1
  exact key _ List.nodup_range
section
variable {P : Program} {T : Tab}
/-- a function that hands back values with new objects: all that its last state shows -/
theorem shown_news {x : XFn} {m0 : MM} {hs : List HO} {args0 : List AV} {vals : List Value} {w : World} {tv : TV} {base : Nat} {ts : List (Nat × Slot)} {hs' : List HO} {nx : Nat} {ex : XE} (hview : RoView (compC T) m0 hs w) (hargs : All2 (AR m0) args0 vals) (hlen : Nat.ble args0.length x.nt = true)
    (hrun : Exec P T none x.nt 0 x.body (startSt args0 hs) ex (mkSt ts hs' nx [])) (hex : ex ≠ .n → ex = .r) (hres : resV (mkSt ts hs' nx []).sl.get (mkSt ts hs' nx []).hp.get x.res = some (true, tv))
    (hids : tv.ids.all (fun j => Nat.blt j hs'.length) = true) (ho : hs'.all (fun ho => !ho.ro && ho.live && !ho.o.isLoop && ho.o.ids.all fun j => Nat.blt j hs'.length) = true) :
    Shown P T x m0 hs args0 vals w (tv.ren (renN (List.range hs'.length) base)) (hs'.map fun ho => ho.ren (renN (List.range hs'.length) base)) base where
  view := hview
  args := hargs
  len := Nat.le_of_ble_eq_true hlen
  run := ⟨mkSt ts hs' nx [], ex, tv, List.range hs'.length, hrun, by by_cases h : ex = .n; exact .inl h; exact .inr (hex h), rfl, hres, nodup_range _,
    fun j hj => List.mem_range.2 (Nat.le_of_ble_eq_true (List.all_eq_true.1 hids j hj)), rfl, by simp, fun k id h => by
      have hk : k < hs'.length := by
        have := (List.getElem?_eq_some_iff.1 h).1
        simpa using this
      rw [List.getElem?_range hk] at h
      cases h
      have hin := List.all_eq_true.1 ho hs'[k] (List.getElem_mem _)
      simp only [Bool.and_eq_true, Bool.not_eq_true'] at hin
      refine ⟨hs'[k], ?_, hin.1.1.1, hin.1.1.2, hin.1.2, fun j hj => List.mem_range.2 (Nat.le_of_ble_eq_true (List.all_eq_true.1 hin.2 j hj)), ?_⟩
      · show leaveH _ [] k = _
        simp only [leaveH]
        rw [mkSt_hp]
        simp [hk]
      · simp [hk]⟩
end
/-- a graph, or another row, as one that is only read -/
theorem view_row {cmp : Cmp} {ctx : Ctx} {m : MM} {h : Nat → Option HO} {w : World} {id : Nat} {v : Value} {ro : Bool} {ty : TypeId} {n : Int} {k : Nat} {f g : Nat → Bool} (hH : HRel cmp ctx m h w) (hv : AR m (.s (.ptr id 0 0)) v) (hs : h id = some ⟨ro, .row ty [.int .i64 n] k f⟩) (hfg : eqB k f g = true) :
    ∃ mb : MB, (∀ m', OR cmp m' mb (.row ty [.int .i64 n] k g) w) ∧ (∀ b, mb.b = some b → b < w.heap.size) ∧ (∀ (m' : MM) id', m' id' = some mb → SR m' (.ptr id' 0 0) v) := by
  obtain ⟨mb, b, hm, hb, rfl⟩ := hv
  obtain ⟨mb', h1, h2, h3, _⟩ := hH.obj id _ hs
  rw [hm] at h1
  cases h1
  refine ⟨mb, fun m' => ?_, fun b' hb' => h3 rfl b' hb', fun m' id' hm' => ⟨mb, b, hm', hb, rfl⟩⟩
  obtain ⟨b', cs, e1, e2, e3, vs, e4, e5, e6⟩ := h2
  refine ⟨b', cs, e1, e2, e3, vs, ?_, e5, by rw [e6, eqB_cells hfg]⟩
  match vs, e4 with
  | [u], ⟨hu, _⟩ => exact ⟨hu, trivial⟩
/-- the runner with no calls but in place -/
def none0 : FuncId → Option Spec := fun _ => none
theorem none0_ok : SpecsOK PP T none0 := ⟨fun _ _ h => (by cases h), fun _ _ h => (by cases h), fun _ _ h => (by cases h)⟩
noncomputable abbrev gA : Cal → Option Spec := gam F none0 200 6
theorem envA : EnvOK PP T gA := gam_ok tokP eqokP mixP F_ok none0_ok 200 6
def bitF (k : Nat) : Nat → Bool := fun j => Nat.testBit k j
end Go.Proofs.Yteekkjfjpoaihaa.Eng
namespace Go.Proofs.Yteekkjfjpoaihaa.Eng
open Go Go.Proofs
section
variable {P : Program} {T : Tab} {r : Option Nat} {Γ : Cal → Option Spec} {nt kp : Nat}
def liveAt (hs : List HO) (j : Nat) : Bool := match hs[j]? with | some h => h.live | none => false
/-- the conditions of another view that may drop objects and keeps loops where they are -/
def mkOkG (ts : List (Nat × Slot)) (hs : List HO) (ids : List Nat) (kp : Nat) : Bool :=
  ts.all (fun p => p.2.v.idsLt hs.length) && hs.all (fun h => h.o.idsLt hs.length && (!h.o.isLoop || h.o.ids.all fun j => Nat.beq (ids.getD j 0) j)) && ((List.range hs.length).all fun i => (List.range hs.length).all fun j => Nat.beq i j || (!(liveAt hs i) || (!(liveAt hs j) || !(Nat.beq (ids.getD i 0) (ids.getD j 0))))) && Nat.beq ids.length hs.length && keepsK kp ids 0
theorem live_gone {h : HO} (hl : h.live = false) : h.o = .gone := by
  unfold HO.live at hl
  cases ho : h.o <;> rw [ho] at hl <;> first | rfl | cases hl
theorem HO.live_ren (ρ : Nat → Nat) (ho : HO) : (ho.ren ρ).live = ho.live := by
  unfold HO.live HO.ren
  cases ho.o <;> rfl
theorem weak_mkG {S : St} {ts : List (Nat × Slot)} {hs : List HO} {nx : Nat} {df : List Nat} {ids : List Nat} (hok : mkOkG ts hs ids kp = true)
    (hts : ∀ p ∈ ts, S.sl.get p.1 = some ⟨p.2.c, p.2.v.ren fun j => ids.getD j 0⟩) (hhs : ∀ j h, hs[j]? = some h → (h.live = true → S.hp.get (ids.getD j 0) = some (h.ren fun j => ids.getD j 0)) ∧ (h.live = false → (S.hp.get (ids.getD j 0)).isSome = true)) (hdf : S.df = df.map fun j => ids.getD j 0) (hdl : ∀ j ∈ df, j < hs.length) :
    Weak T kp S (mkSt ts hs nx df) := by
  intro ctx nt m a w hR
  simp only [mkOkG, Bool.and_eq_true] at hok
  obtain ⟨⟨⟨⟨h1, h2⟩, h3⟩, h4⟩, h5⟩ := hok
  have hlen := Nat.eq_of_beq_eq_true h4
  let m2 : MM := fun j => if j < hs.length then m (ids.getD j 0) else none
  have hm2 : ∀ j, j < hs.length → m2 j = m (ids.getD j 0) := fun j hj => by simp only [m2, if_pos hj]
  have hdist : ∀ i j hi hj, hs[i]? = some hi → hs[j]? = some hj → hi.live = true → hj.live = true → i ≠ j → ids.getD i 0 ≠ ids.getD j 0 := by
    intro i j hi hj e1 e2 l1 l2 hne he
    have g1 := (List.getElem?_eq_some_iff.1 e1).1
    have g2 := (List.getElem?_eq_some_iff.1 e2).1
    have := List.all_eq_true.1 (List.all_eq_true.1 h3 i (List.mem_range.2 g1)) j (List.mem_range.2 g2)
    simp only [liveAt, e1, e2, l1, l2, Bool.not_true, Bool.false_or, Bool.or_eq_true, Bool.not_eq_true'] at this
    rcases this with h | h
    · exact hne (Nat.eq_of_beq_eq_true h)
    · rw [beqT he] at h; cases h
  refine ⟨m2, fun id mb hid hmb => ?_, fun t s hts' => ?_, hR.size, ?_, ?_⟩
  · have := keepsK_spec h5 id hid
    have hl : id < ids.length := (List.getElem?_eq_some_iff.1 this).1
    rw [hm2 id (by omega)]
    have e : ids.getD id 0 = id := by rw [List.getD_eq_getElem?_getD, this]; simp
    rw [e]
    exact hmb
  · have hm := alGet_mem hts'
    have := hts _ hm
    have hs1 := hR.slot t _ this
    refine ⟨fun c => TR.unren (hs1.1 c) fun j hj => hm2 j ?_, hs1.2⟩
    have := List.all_eq_true.1 (List.all_eq_true.1 h1 _ hm) j hj
    exact Nat.le_of_ble_eq_true this
  · refine ⟨fun id ho hid => ?_, fun id id' ho ho' mb mb' b hne hid hid' hro hl hl' hm hm' hb => ?_, fun id hid => ?_, hR.heap.os, hR.heap.tape, hR.heap.output, hR.heap.size, hR.heap.same0⟩
    · rw [mkSt_hp] at hid
      have hlt := (List.getElem?_eq_some_iff.1 hid).1
      have hin := List.all_eq_true.1 h2 ho (List.mem_of_getElem? hid)
      simp only [Bool.and_eq_true, Bool.or_eq_true, Bool.not_eq_true'] at hin
      cases hlv : ho.live with
      | true =>
        obtain ⟨mb, g1, g2, g3, g4⟩ := hR.heap.obj _ _ ((hhs id ho hid).1 hlv)
        refine ⟨mb, by rw [hm2 id hlt]; exact g1, ?_, fun _ => g3 (by rw [HO.live_ren]; exact hlv), fun hro _ => g4 hro (by rw [HO.live_ren]; exact hlv)⟩
        rcases hin.2 with hl | hl
        · exact OR.unren g2 (fun j hj => hm2 j (Nat.le_of_ble_eq_true (List.all_eq_true.1 hin.1 j hj))) hl
        · have hfix : ∀ j ∈ ho.o.ids, m2 j = m j := fun j hj => by
            rw [hm2 j (Nat.le_of_ble_eq_true (List.all_eq_true.1 hin.1 j hj)), Nat.eq_of_beq_eq_true (List.all_eq_true.1 hl j hj)]
          cases hlo : ho.o.isLoop with
          | false => exact OR.unren g2 (fun j hj => hm2 j (Nat.le_of_ble_eq_true (List.all_eq_true.1 hin.1 j hj))) hlo
          | true =>
            have e : (ho.ren fun j => ids.getD j 0).o = ho.o := by
              unfold HO.ren
              cases ho' : ho.o <;> rw [ho'] at hlo <;> first | rfl | cases hlo
            rw [e] at g2
            exact g2.sub hfix
      | false =>
        obtain ⟨h', hh'⟩ := Option.isSome_iff_exists.1 ((hhs id ho hid).2 hlv)
        obtain ⟨mb, g1, _⟩ := hR.heap.obj _ _ hh'
        refine ⟨mb, by rw [hm2 id hlt]; exact g1, ?_, fun h => by simp at h, fun _ h => by simp at h⟩
        rw [live_gone hlv]
        trivial
    · rw [mkSt_hp] at hid hid'
      have hlt := (List.getElem?_eq_some_iff.1 hid).1
      have hlt' := (List.getElem?_eq_some_iff.1 hid').1
      rw [hm2 id hlt] at hm
      rw [hm2 id' hlt'] at hm'
      exact hR.heap.dist _ _ _ _ mb mb' b (hdist id id' ho ho' hid hid' hl hl' hne) ((hhs id ho hid).1 hl) ((hhs id' ho' hid').1 hl') hro (by rw [HO.live_ren]; exact hl) (by rw [HO.live_ren]; exact hl') hm hm' hb
    · rw [mkSt_hp, List.getElem?_eq_none_iff] at hid
      simp only [m2, if_neg (by omega : ¬ id < hs.length)]
  · show All2 _ df a.defers
    have := hR.df
    rw [hdf] at this
    revert this hdl
    generalize a.defers = ds
    clear hdf
    induction df generalizing ds with
    | nil => intro _ h; cases ds with
      | nil => trivial
      | cons _ _ => exact h.elim
    | cons x df ih =>
      intro hd h
      cases ds with
      | nil => exact h.elim
      | cons d ds =>
        obtain ⟨⟨mb, b, e1, e2⟩, h2⟩ := h
        exact ⟨⟨mb, b, by rw [hm2 x (hd x (by simp))]; exact e1, e2⟩, ih ds (fun j hj => hd j (by simp [hj])) h2⟩
/-- what is looked at: the slots, the live objects -/
def lookH (h : HO) (x : Option HO) : Option HO := bif h.live then x else x.map fun _ => goneH
noncomputable def viewG (ts ids : List Nat) (hs : List HO) (S : St) : List (Option Slot) × List (Option HO) × List Nat :=
  (ts.map S.sl.get, (ids.zip hs).map fun p => lookH p.2 (S.hp.get p.1), S.df)
theorem weak_viewG {S : St} {ts : List (Nat × Slot)} {hs : List HO} {nx : Nat} {df ids : List Nat}
    (hv : viewG (ts.map (·.1)) ids hs S = (ts.map (fun p => some ⟨p.2.c, p.2.v.ren fun j => ids.getD j 0⟩), hs.map (fun h => some (bif h.live then h.ren fun j => ids.getD j 0 else goneH)), df.map fun j => ids.getD j 0))
    (hok : mkOkG ts hs ids kp = true) (hdl : df.all (fun j => Nat.blt j hs.length) = true) : Weak T kp S (mkSt ts hs nx df) := by
  simp only [viewG, Prod.mk.injEq] at hv
  obtain ⟨h3, h4, h5⟩ := hv
  refine weak_mkG (ids := ids) hok (fun p hp => ?_) (fun j h hj => ?_) h5 fun j hj => Nat.le_of_ble_eq_true (List.all_eq_true.1 hdl j hj)
  · rw [List.map_map] at h3
    exact List.map_inj_left.1 h3 p hp
  · have hok' := hok
    simp only [mkOkG, Bool.and_eq_true] at hok'
    have hlen := Nat.eq_of_beq_eq_true hok'.1.2
    have hlt : j < hs.length := (List.getElem?_eq_some_iff.1 hj).1
    have e : ids[j]? = some (ids.getD j 0) := by
      have : j < ids.length := by omega
      simp [this]
    have hz : (ids.zip hs)[j]? = some (ids.getD j 0, h) := by
      rw [List.getElem?_zip_eq_some]
      exact ⟨e, hj⟩
    have := congrArg (fun l => l[j]?) h4
    simp only [List.getElem?_map, hz, hj, Option.map_some, Option.some.injEq] at this
    unfold lookH at this
    refine ⟨fun hl => ?_, fun hl => ?_⟩
    · rw [hl, cond_true, cond_true] at this
      exact this
    · rw [hl, cond_false] at this
      cases hg : S.hp.get (ids.getD j 0) with
      | none => rw [hg] at this; cases this
      | some x => rfl
noncomputable def vwG (ts ids : List Nat) (hs : List HO) (q : Option (Bool × XE × St × List Bool)) : Option (XE × List (Option Slot) × List (Option HO) × List Nat) :=
  q.map fun q => (q.2.1, viewG ts ids hs q.2.2.1)
theorem exec_orunG (hE : EnvOK P T Γ) (inr : Bool) (k : Nat) (os : List Bool) (ids : List Nat) (hr : inr = false → r = none) {c : XC} {S : St} {e : XE} {ts : List (Nat × Slot)} {hs : List HO} {nx : Nat} {df : List Nat}
    (hv : vwG (ts.map (·.1)) ids hs (orun Γ inr k c S os) = some (e, ts.map (fun p => some ⟨p.2.c, p.2.v.ren fun j => ids.getD j 0⟩), hs.map (fun h => some (bif h.live then h.ren fun j => ids.getD j 0 else goneH)), df.map fun j => ids.getD j 0))
    (hok : mkOkG ts hs ids kp = true) (hdl : df.all (fun j => Nat.blt j hs.length) = true) (hob : obOf (orun Γ inr k c S os) = true) : Exec P T r nt kp c S e (mkSt ts hs nx df) := by
  unfold vwG at hv
  cases ho : orun Γ inr k c S os with
  | none => rw [ho] at hv; cases hv
  | some q =>
    obtain ⟨v, e1, S1, os1⟩ := q
    rw [ho] at hv hob
    simp only [Option.map_some, Option.some.injEq, Prod.mk.injEq] at hv
    obtain ⟨rfl, hv⟩ := hv
    exact (orun_snd hE hr k c S S1 os os1 e1 v ho hob).1.post (weak_viewG hv hok hdl)
end
open Classical in
noncomputable def atB (A A' : List AV) (H H' : Nat → Option HO) (B B' : Nat) : Bool := decide (A' = A ∧ H' = H ∧ B' = B)
theorem atB_t {A A' : List AV} {H H' : Nat → Option HO} {B B' : Nat} (h1 : A' = A) (h2 : H' = H) (h3 : B' = B) : atB A A' H H' B B' = true := by
  unfold atB
  simp [h1, h2, h3]
theorem atB_of {A A' : List AV} {H H' : Nat → Option HO} {B B' : Nat} (h : atB A A' H H' B B' = true) : A' = A ∧ H' = H ∧ B' = B := by
  unfold atB at h
  simpa using h
noncomputable def spAt (A : List AV) (H : Nat → Option HO) (B : Nat) (val : TV) (upd : List (Nat × HO)) (news : List HO) : Spec where
  run := fun args h base => some ⟨atB A args H h B base, val, upd, news, none⟩
theorem spAt_fp {A : List AV} {H : Nat → Option HO} {B : Nat} {val : TV} {upd : List (Nat × HO)} {news : List HO} : SpecFp (spAt A H B val upd news) := by
  intro args h h' base e hr hf
  simp only [spAt, Option.some.injEq] at hr
  subst hr
  have hf : h' = h := hf
  subst hf
  rfl
section
variable {P : Program} {T : Tab}
/-- the renaming of what is new -/
def renK (K B : Nat) : Nat → Nat := fun j => if K ≤ j then B + (j - K) else j
/-- the end of a contract at one place: the first K ids stay, the others are new -/
theorem stp_at {cmp : Cmp} {ctx : Ctx} {m m1 : MM} {h : Nat → Option HO} {w w1 : World} {B K : Nat} {upd : List (Nat × HO)} {news hs1 : List HO} (hH : HRel cmp ctx m h w) (hfr : ∀ k, k < news.length → h (B + k) = none)
    (hH1 : HRel cmp ⟨w, wbOf m upd⟩ m1 (fun j => hs1[j]?) w1) (hk : ∀ id, id < K → m1 id = m id) (hlen : hs1.length = K + news.length)
    (hnew : (List.range news.length).all (fun k => match hs1[K + k]? with | some o => !o.ro && o.live && !o.o.isLoop | none => false) = true) (hnews : news = (hs1.drop K).map (HO.ren (renK K B)))
    (hupd : ∀ u ∈ upd, (u.2.live = false ∧ ∃ mb, m u.1 = some mb) ∨ (u.1 < K ∧ ∃ o, hs1[u.1]? = some o ∧ o.live = true ∧ u.2.o = o.o.ren (renK K B) ∧ (o.o.isLoop = true → ∀ j ∈ o.o.ids, j < K)))
    (hids : ∀ (j : Nat) (o : HO), hs1[j]? = some o → ∀ i ∈ o.o.ids, i < hs1.length) :
    Stp cmp m (subM m m1 (fun k => K + k) B news.length) w w1 upd B news := by
  have hren : ∀ j, j < hs1.length → subM m m1 (fun k => K + k) B news.length (renK K B j) = m1 j := by
    intro j hj
    unfold renK
    by_cases hK : K ≤ j
    · rw [if_pos hK]
      unfold subM
      rw [if_pos (by omega)]
      show m1 (K + (B + (j - K) - B)) = _
      rw [show K + (B + (j - K) - B) = j by omega]
    · rw [if_neg hK]
      unfold subM
      rw [hk j (by omega)]
      by_cases hB : B ≤ j ∧ j < B + news.length
      · rw [if_pos hB]
        have e1 := hH.dom j (by have := hfr (j - B) (by omega); rwa [show B + (j - B) = j by omega] at this)
        obtain ⟨mb, g1, _⟩ := hH1.obj j hs1[j] (by simp [hj])
        rw [hk j (by omega), e1] at g1
        cases g1
      · rw [if_neg hB]
  have hget : ∀ k, k < news.length → ∃ o, hs1[K + k]? = some o ∧ o.ro = false ∧ o.live = true ∧ o.o.isLoop = false := by
    intro k hkl
    have := List.all_eq_true.1 hnew k (List.mem_range.2 hkl)
    split at this
    · rename_i o ho
      simp only [Bool.and_eq_true, Bool.not_eq_true'] at this
      exact ⟨o, ho, this.1.1, this.1.2, this.2⟩
    · cases this
  refine sub_stp hH hfr hH1 (fun i j _ _ h => by omega) (fun k hkl => ?_) (fun u hu hl => ?_) (fun u hu => ?_) fun k ho hko => ?_
  · obtain ⟨o, h1, h2, h3, _⟩ := hget k hkl
    exact ⟨o, h1, h2, h3⟩
  · rcases hupd u hu with ⟨h1, _⟩ | ⟨h1, o, h2, h3, _⟩
    · rw [h1] at hl; cases hl
    · exact ⟨u.1, o, h2, h3, hk _ h1, fun k _ => by omega⟩
  · rcases hupd u hu with ⟨h1, mb, h2⟩ | ⟨h1, o, h2, h3, h4, h5⟩
    · refine ⟨mb, h2, ?_⟩
      rw [live_gone h1]
      trivial
    · obtain ⟨mb, g1, g2, _⟩ := hH1.obj _ _ h2
      refine ⟨mb, by rw [← hk _ h1]; exact g1, ?_⟩
      rw [h4]
      exact g2.ren (fun j hj => hren j (hids _ _ h2 j hj)) fun hl j hj => by unfold renK; rw [if_neg (by have := h5 hl j hj; omega)]
  · have hkl : k < news.length := (List.getElem?_eq_some_iff.1 hko).1
    obtain ⟨o, h1, h2, h3, h4⟩ := hget k hkl
    obtain ⟨mb, g1, g2, _⟩ := hH1.obj _ _ h1
    refine ⟨mb, g1, ?_⟩
    have e : ho = o.ren (renK K B) := by
      rw [hnews] at hko
      rw [List.getElem?_map, List.getElem?_drop, h1] at hko
      simpa using hko.symm
    rw [e]
    exact g2.ren (fun j hj => hren j (hids _ _ h1 j hj)) fun hl => by rw [h4] at hl; cases hl
/-- the heap at its start, as far as it may be turned -/
theorem hrel_at {cmp : Cmp} {ctx : Ctx} {m : MM} {H : Nat → Option HO} {w : World} {S : Sto HO} {upd : List (Nat × HO)} (hH : HRel cmp ctx m H w) (hd : ∀ j, S.get j = none → H j = none)
    (hS : ∀ (j : Nat) (o : HO), S.get j = some o → ∃ o' : HO, H j = some o' ∧ o'.o = o.o ∧ (o.ro = false → o'.ro = false ∧ (o.live = true → ∃ u ∈ upd, u.1 = j))) : HRel cmp ⟨w, wbOf m upd⟩ m S.get w where
  obj := fun id ho hid => by
    obtain ⟨o', h1, h2, h3⟩ := hS id ho hid
    obtain ⟨mb, g1, g2, g3, g4⟩ := hH.obj id o' h1
    have hl : o'.live = ho.live := by unfold HO.live; rw [h2]
    refine ⟨mb, g1, by rw [← h2]; exact g2, fun hlv => g3 (by rw [hl]; exact hlv), fun hro hlv b hb => ?_⟩
    obtain ⟨u, hu, e⟩ := (h3 hro).2 hlv
    exact .inr ⟨u, hu, mb, by rw [e]; exact g1, hb⟩
  dist := fun id id' ho ho' mb mb' b hne hid hid' hro hl hl' hm hm' hb => by
    obtain ⟨o1, h1, h2, h3⟩ := hS id ho hid
    obtain ⟨o2, k1, k2, _⟩ := hS id' ho' hid'
    exact hH.dist id id' o1 o2 mb mb' b hne h1 k1 (h3 hro).1 (by unfold HO.live at hl ⊢; rw [h2]; exact hl) (by unfold HO.live at hl' ⊢; rw [k2]; exact hl') hm hm' hb
  dom := fun id hid => hH.dom id (hd id hid)
  os := rfl
  tape := rfl
  output := rfl
  size := Nat.le_refl _
  same0 := fun _ _ _ => rfl
end
end Go.Proofs.Yteekkjfjpoaihaa.Eng
namespace Go.Proofs.Yteekkjfjpoaihaa.Eng
open Go Go.Proofs
@[simp] theorem atB_self {A : List AV} {H : Nat → Option HO} {B : Nat} : atB A A H H B B = true := atB_t rfl rfl rfl
/-- what must hold of the heap at the start and at the end (all closed but for the contents) -/
structure AtOK (H : Nat → Option HO) (S : Sto HO) (K B : Nat) (upd : List (Nat × HO)) (news hs1 : List HO) : Prop where
  start : ∀ (j : Nat) (o : HO), S.get j = some o → ∃ o' : HO, H j = some o' ∧ o'.o = o.o ∧ (o.ro = false → o'.ro = false ∧ (o.live = true → ∃ u ∈ upd, u.1 = j))
  keep : ∀ j, j < K → (S.get j).isSome = true
  len : hs1.length = K + news.length
  new : (List.range news.length).all (fun k => match hs1[K + k]? with | some o => !o.ro && o.live && !o.o.isLoop | none => false) = true
  news_eq : news = (hs1.drop K).map (HO.ren (renK K B))
  upd_eq : ∀ u ∈ upd, (u.2.live = false ∧ (S.get u.1).isSome = true) ∨ (u.1 < K ∧ ∃ o, hs1[u.1]? = some o ∧ o.live = true ∧ u.2.o = o.o.ren (renK K B) ∧ (o.o.isLoop = true → ∀ j ∈ o.o.ids, j < K))
  ids : ∀ (j : Nat) (o : HO), hs1[j]? = some o → ∀ i ∈ o.o.ids, i < hs1.length
theorem AtOK.stp {H : Nat → Option HO} {S : Sto HO} {K B : Nat} {upd : List (Nat × HO)} {news hs1 : List HO} (hA : AtOK H S K B upd news hs1) {cmp : Cmp} {ctx : Ctx} {m m1 : MM} {w w1 : World} (hH : HRel cmp ctx m H w) (hfr : ∀ k, k < news.length → H (B + k) = none)
    (hk : MM.leK K m m1) (hH1 : HRel cmp ⟨w, wbOf m upd⟩ m1 (fun j => hs1[j]?) w1) : Stp cmp m (subM m m1 (fun k => K + k) B news.length) w w1 upd B news := by
  have hmem : ∀ j, (S.get j).isSome = true → ∃ mb, m j = some mb := fun j hj => by
    obtain ⟨o, ho⟩ := Option.isSome_iff_exists.1 hj
    obtain ⟨o', h1, _⟩ := hA.start j o ho
    obtain ⟨mb, g, _⟩ := hH.obj j o' h1
    exact ⟨mb, g⟩
  refine stp_at hH hfr hH1 (fun id hid => ?_) hA.len hA.new hA.news_eq (fun u hu => ?_) hA.ids
  · obtain ⟨mb, g⟩ := hmem id (hA.keep id hid)
    rw [g, hk id mb hid g]
  · rcases hA.upd_eq u hu with ⟨h1, h2⟩ | h
    · exact .inl ⟨h1, hmem _ h2⟩
    · exact .inr h
theorem yield_at {id : Nat} {A : List AV} {H : Nat → Option HO} {S : Sto HO} {B K : Nat} {sl slS : Sto Slot} {ps : List Nat} {asg body : XC} {S1 S2 : St} {ex : XE} {upd : List (Nat × HO)} {news hs1 : List HO} {sl1 sl2 : Sto Slot} {ps1 ps2 : List Nat} {asg1 body1 asg2 body2 : XC} {bv : Bool}
    (hA : AtOK H S K B upd news hs1) (hdom : ∀ j, S.get j = none → H j = none) (hK : id < K) (hid0 : S.get id = some ⟨false, .loop sl ps asg body .ready⟩) (hlen : A.length = ps.length) (hsl : ∀ t s, slS.get t = some s → setPs sl.get ps A t = some s)
    (hasg : ∀ l nt, Exec PP T (some l) nt K asg ⟨slS, S, B, []⟩ .n S1) (hid1 : S1.hp.get id = some ⟨false, .loop sl1 ps1 asg1 body1 .ready⟩)
    (hbody : ∀ l nt, Exec PP T (some l) nt K body { S1 with hp := S1.hp.set id ⟨false, .loop sl1 ps1 asg1 body1 .busy⟩ } ex S2) (hid2 : S2.hp.get id = some ⟨false, .loop sl2 ps2 asg2 body2 .busy⟩)
    (hfin : ∀ j, (S2.hp.set id ⟨false, .loop sl2 ps2 asg2 body2 (endLS ex)⟩).get j = hs1[j]?) (hbv : bv = ex.isN) : YieldOK PP (compC T) id (spAt A H B (.av (.s (.bool bv))) upd news) := by
  intro ctx m h w args vals base e l mb hH hm hb hargs hfr hup hr hvc
  simp only [spAt, Option.some.injEq] at hr
  subst hr
  obtain ⟨rfl, rfl, rfl⟩ := atB_of hvc
  subst hbv
  refine round_exec (kp := K) (S := ⟨slS, S, base, []⟩) hK hlen hid0 hsl rfl hasg hid1 hbody hid2 (hrel_at hH hdom hA.start) hm hb hargs fun v w' m1 hk hv hH1 => ?_
  subst hv
  have e1 : (S2.hp.set id ⟨false, .loop sl2 ps2 asg2 body2 (endLS ex)⟩).get = fun j => hs1[j]? := funext hfin
  rw [e1] at hH1
  exact ⟨_, _, rfl, rfl, hA.stp hH hfr hk hH1⟩
/-- .. seen over a part of the heap that is shut under pointing -/
theorem hrel_part {cmp : Cmp} {ctx : Ctx} {m : MM} {H : Nat → Option HO} {w : World} {S : Sto HO} {upd : List (Nat × HO)} (hH : HRel cmp ctx m H w) (hcl : ∀ (j : Nat) (o : HO), S.get j = some o → ∀ i ∈ o.o.ids, (S.get i).isSome = true)
    (hS : ∀ (j : Nat) (o : HO), S.get j = some o → ∃ o' : HO, H j = some o' ∧ o'.o = o.o ∧ (o.ro = false → o'.ro = false ∧ (o.live = true → ∃ u ∈ upd, u.1 = j))) : HRel cmp ⟨w, wbOf m upd⟩ (fun j => if (S.get j).isSome = true then m j else none) S.get w where
  obj := fun id ho hid => by
    obtain ⟨o', h1, h2, h3⟩ := hS id ho hid
    obtain ⟨mb, g1, g2, g3, g4⟩ := hH.obj id o' h1
    have hl : o'.live = ho.live := by unfold HO.live; rw [h2]
    refine ⟨mb, by simp [hid, g1], by rw [← h2]; exact g2.sub fun j hj => if_pos (hcl id ho hid j (by rw [← h2]; exact hj)), fun hlv => g3 (by rw [hl]; exact hlv), fun hro hlv b hb => ?_⟩
    obtain ⟨u, hu, e⟩ := (h3 hro).2 hlv
    exact .inr ⟨u, hu, mb, by rw [e]; exact g1, hb⟩
  dist := fun id id' ho ho' mb mb' b hne hid hid' hro hl hl' hm hm' hb => by
    obtain ⟨o1, h1, h2, h3⟩ := hS id ho hid
    obtain ⟨o2, k1, k2, _⟩ := hS id' ho' hid'
    simp only [hid, hid', Option.isSome_some, if_true] at hm hm'
    exact hH.dist id id' o1 o2 mb mb' b hne h1 k1 (h3 hro).1 (by unfold HO.live at hl ⊢; rw [h2]; exact hl) (by unfold HO.live at hl' ⊢; rw [k2]; exact hl') hm hm' hb
  dom := fun id hid => by simp [hid]
  os := rfl
  tape := rfl
  output := rfl
  size := Nat.le_refl _
  same0 := fun _ _ _ => rfl
theorem spec_at {f : FuncId} {x : XFn} (hx : FunOK PP T f x) {A : List AV} {H : Nat → Option HO} {S : Sto HO} {B K : Nat} {ts : List (Nat × Slot)} {ex : XE} {upd : List (Nat × HO)} {news hs1 : List HO} {nx : Nat}
    (hA : AtOK H S K B upd news hs1) (hcl : ∀ (j : Nat) (o : HO), S.get j = some o → ∀ i ∈ o.o.ids, (S.get i).isSome = true) (hai : ∀ i ∈ A.flatMap AV.ids, (S.get i).isSome = true) (hlen : Nat.ble A.length x.nt = true) (hrun : Exec PP T none x.nt K x.body ⟨.al (slotsOf A), S, B, []⟩ ex (mkSt ts hs1 nx [])) (hex : ex = .n ∨ ex = .r) (hres : x.res = []) : SpecOK PP (compC T) f (spAt A H B (.tup []) upd news) := by
  obtain ⟨_, fn, hf, hxf⟩ := hx
  intro ctx m h w args vals base e hH hargs hfr hup hr hvc
  simp only [spAt, Option.some.injEq] at hr
  subst hr
  obtain ⟨rfl, rfl, rfl⟩ := atB_of hvc
  refine callsIn_exec (kp := K) (S := ⟨.al (slotsOf args), S, base, []⟩) (tv := .tup []) tokP hf hxf (Nat.le_of_ble_eq_true hlen) (fun t s hs => by
    have := (alGet_slots args 0 t s hs).2
    simpa using this) rfl hrun hex rfl (by rw [hres]; rfl) (hrel_part hH hcl hA.start) (All2.sub hargs fun j hj => if_pos (hai j hj)) fun v w' m1 hk hv hH1 => ?_
  have e1 : leaveH (mkSt ts hs1 nx []).hp.get (mkSt ts hs1 nx []).df = fun j => hs1[j]? := by
    funext j
    show (mkSt ts hs1 nx []).hp.get j = _
    rw [mkSt_hp]
  rw [e1] at hH1
  refine ⟨v, _, rfl, ?_, hA.stp hH hfr (fun id mb hid hm => hk id mb hid (by simp [hA.keep id hid, hm])) hH1⟩
  obtain ⟨vs, e, hvs⟩ := hv
  cases vs with
  | nil => exact ⟨[], e, trivial⟩
  | cons _ _ => exact hvs.elim
end Go.Proofs.Yteekkjfjpoaihaa.Eng
namespace Go.Proofs.Yteekkjfjpoaihaa.Eng
open Go Go.Proofs
theorem alGet_filter {t u : Nat} (hu : ¬ t = u) {s : Slot} : ∀ {ts : List (Nat × Slot)}, alGet (ts.filter fun p => !(Nat.beq p.1 t)) u = some s → alGet ts u = some s
  | [], h => h
  | p :: ts, h => by
    rw [alGet_cons]
    by_cases hp : p.1 = t
    · rw [beqF (show ¬ p.1 = u by omega), cond_false]
      rw [List.filter_cons_of_neg (by rw [beqT hp]; simp)] at h
      exact alGet_filter hu h
    · rw [List.filter_cons_of_pos (by rw [beqF hp]; rfl), alGet_cons] at h
      by_cases hpu : p.1 = u
      · rw [beqT hpu, cond_true] at h ⊢; exact h
      · rw [beqF hpu, cond_false] at h ⊢; exact alGet_filter hu h
section
variable {P : Program} {T : Tab} {r : Option Nat} {nt kp : Nat}
/-- a nil slice seen as an empty one, with an object of its own -/
theorem weak_nil {ts ts' : List (Nat × Slot)} {hs : List HO} {nx nx' : Nat} {df : List Nat} (t : Nat) (ty : TypeId) (k : IntKind) (sz : Nat) (ht : alGet ts t = some ⟨true, .av (.s .nils)⟩)
    (hts : ts' = (t, ⟨true, .av (.s (.sl hs.length 0 sz 0))⟩) :: ts.filter (fun p => !(Nat.beq p.1 t))) (_hnx : nx' = nx + 1) : Weak T kp (mkSt ts hs nx df) (mkSt ts' (hs ++ [⟨false, .ivec ty k sz []⟩]) nx' df) := by
  intro ctx nt m a w hR
  have h0 : m hs.length = none := hR.heap.dom _ (by rw [mkSt_hp]; simp)
  let m' : MM := fun j => if j = hs.length then some ⟨none, 0, 0⟩ else m j
  have hle : m.le m' := fun id mb hm => by
    show (if id = hs.length then _ else m id) = _
    rw [if_neg (fun e => by rw [e, h0] at hm; cases hm)]
    exact hm
  have hn : m' hs.length = some ⟨none, 0, 0⟩ := if_pos rfl
  have hother : ∀ j, j ≠ hs.length → m' j = m j := fun j hj => if_neg hj
  have hget : ∀ j, (mkSt ts' (hs ++ [⟨false, .ivec ty k sz []⟩]) nx' df).hp.get j = if j = hs.length then some ⟨false, .ivec ty k sz []⟩ else (mkSt ts hs nx df).hp.get j := fun j => by
    rw [mkSt_hp, mkSt_hp]
    by_cases hj : j = hs.length
    · subst hj; simp
    · rw [if_neg hj]
      by_cases hl : j < hs.length
      · rw [List.getElem?_append_left hl]
      · rw [List.getElem?_eq_none (by simp; omega), List.getElem?_eq_none (by omega)]
  refine ⟨m', hle.toK kp, ⟨fun u s hs' => ?_, hR.size, ⟨fun id ho hid => ?_, fun id id' ho ho' mb mb' b hne hid hid' hro hl hl' hm hm' hb => ?_, fun id hid => ?_, hR.heap.os, hR.heap.tape, hR.heap.output, hR.heap.size, hR.heap.same0⟩, ?_⟩⟩
  · have hs' : alGet ts' u = some s := hs'
    rw [hts, alGet_cons] at hs'
    by_cases hu : t = u
    · subst hu
      rw [beqT rfl, cond_true] at hs'
      cases hs'
      obtain ⟨h1, h2⟩ := hR.slot t _ ht
      have h1 : (a.tmps.getD t undef) = .slice none 0 0 := h1 rfl
      exact ⟨fun _ => ⟨_, hn, Nat.le_refl _, .inl ⟨rfl, h1, rfl, rfl, rfl⟩⟩, h2⟩
    · rw [beqF hu, cond_false] at hs'
      have : alGet ts u = some s := alGet_filter hu hs'
      obtain ⟨h1, h2⟩ := hR.slot u s this
      exact ⟨fun c => (h1 c).le hle, h2⟩
  · rw [hget] at hid
    by_cases hj : id = hs.length
    · rw [if_pos hj] at hid
      cases hid
      subst hj
      exact ⟨_, hn, .inl ⟨rfl, rfl, rfl⟩, fun _ b hb => (by cases hb), fun _ _ b hb => (by cases hb)⟩
    · rw [if_neg hj] at hid
      obtain ⟨mb, g1, g2, g3, g4⟩ := hR.heap.obj id ho hid
      exact ⟨mb, hle _ _ g1, g2.le hle, g3, g4⟩
  · rw [hget] at hid hid'
    by_cases hj : id = hs.length
    · subst hj
      rw [hn] at hm
      cases hm
      cases hb
    · by_cases hj' : id' = hs.length
      · subst hj'
        rw [hn] at hm'
        cases hm'
        intro h; cases h
      · rw [if_neg hj] at hid
        rw [if_neg hj'] at hid'
        rw [hother _ hj] at hm
        rw [hother _ hj'] at hm'
        exact hR.heap.dist id id' ho ho' mb mb' b hne hid hid' hro hl hl' hm hm' hb
  · rw [hget] at hid
    by_cases hj : id = hs.length
    · rw [if_pos hj] at hid; cases hid
    · rw [if_neg hj] at hid
      rw [hother _ hj]
      exact hR.heap.dom id hid
  · exact All2.mono (fun id d ⟨mb, b, e1, e2, e3⟩ => ⟨mb, b, hle _ _ e1, e2, e3⟩) hR.df
end
theorem exec_loop_from {P : Program} {T : Tab} {r : Option Nat} {nt kp : Nat} {x : XC} (S : Nat → St) (lo n : Nat) {e : XE} {S' : St} (h : ∀ i, lo ≤ i → i < n → Exec P T r nt kp x (S i) .n (S (i + 1))) (hl : Exec P T r nt kp x (S n) e S') (he : e ≠ .n) (hlo : lo ≤ n) : Exec P T r nt kp (.loop x) (S lo) e S' := by
  have := exec_loop_up (P := P) (T := T) (r := r) (nt := nt) (kp := kp) (x := x) (fun j => S (lo + j)) (n - lo) (fun i hi => h (lo + i) (by omega) (by omega)) (by show Exec _ _ _ _ _ _ (S (lo + (n - lo))) _ _; rw [show lo + (n - lo) = n by omega]; exact hl) he 0 (by omega)
  exact this
def flat (l : List (Int × Int)) : List Int := l.flatMap fun p => [p.1, p.2]
theorem flat_len (l : List (Int × Int)) : (flat l).length = l.length * 2 := by
  unfold flat
  induction l with
  | nil => rfl
  | cons a l ih => rw [List.flatMap_cons, List.length_append, ih]; simp; omega
theorem flat_app (l : List (Int × Int)) (a b : Int) : flat (l ++ [(a, b)]) = flat l ++ [a, b] := by
  simp [flat, List.flatMap_append]
def rowL (g : Nat → Nat → Bool) (a b : Nat) : List (Int × Int) := ((List.range b).filter (g a)).map fun j : Nat => (Int.ofNat a, Int.ofNat j)
def listL (g : Nat → Nat → Bool) (n a : Nat) : List (Int × Int) := (List.range a).flatMap fun x => rowL g x n
theorem rowL_t {g : Nat → Nat → Bool} {a b : Nat} (h : g a b = true) : rowL g a (b + 1) = rowL g a b ++ [(Int.ofNat a, Int.ofNat b)] := by
  simp [rowL, List.range_succ, List.filter_append, h]
theorem rowL_f {g : Nat → Nat → Bool} {a b : Nat} (h : g a b = false) : rowL g a (b + 1) = rowL g a b := by
  simp [rowL, List.range_succ, List.filter_append, h]
theorem listL_succ (g : Nat → Nat → Bool) (n a : Nat) : listL g n (a + 1) = listL g n a ++ rowL g a n := by
  simp [listL, List.range_succ, List.flatMap_append]
theorem rowL_len (g : Nat → Nat → Bool) (a b : Nat) : (rowL g a b).length ≤ b := by
  simp only [rowL, List.length_map]
  have := List.length_filter_le (g a) (List.range b)
  simpa using this
theorem listL_len (g : Nat → Nat → Bool) (n : Nat) : ∀ a, (listL g n a).length ≤ a * n
  | 0 => by simp [listL]
  | a + 1 => by
    rw [listL_succ, List.length_append, Nat.succ_mul]
    have := listL_len g n a
    have := rowL_len g a n
    omega
/-- what has been gathered inside -/
def midL (g : Nat → Nat → Bool) (n a b : Nat) : List (Int × Int) := listL g n a ++ rowL g a b
theorem midL_len {g : Nat → Nat → Bool} {n a b : Nat} (ha : a ≤ 7) (hn : n ≤ 7) (hb : b ≤ 7) : (midL g n a b).length ≤ 100 := by
  unfold midL
  rw [List.length_append]
  have h1 := listL_len g n a
  have h2 := rowL_len g a b
  have : a * n ≤ 7 * 7 := Nat.mul_le_mul ha hn
  omega
theorem midL_f {g : Nat → Nat → Bool} {n a b : Nat} (h : g a b = false) : midL g n a (b + 1) = midL g n a b := by unfold midL; rw [rowL_f h]
theorem midL_tl {g : Nat → Nat → Bool} {n a b : Nat} (h : g a b = true) : (midL g n a (b + 1)).length = (midL g n a b).length + 1 := by unfold midL; rw [rowL_t h]; simp; omega
theorem midL_tf {g : Nat → Nat → Bool} {n a b : Nat} (h : g a b = true) : flat (midL g n a (b + 1)) = List.take ((midL g n a b).length * 2) (flat (midL g n a b)) ++ [Int.ofNat a, Int.ofNat b] := by
  rw [← flat_len, List.take_length]
  unfold midL
  rw [rowL_t h, ← List.append_assoc, flat_app]
theorem midL_0 {g : Nat → Nat → Bool} {n a : Nat} : midL g n a 0 = listL g n a := by simp [midL, rowL]
theorem midL_end {g : Nat → Nat → Bool} {n a : Nat} : midL g n a n = listL g n (a + 1) := by rw [listL_succ]; rfl
abbrev lsS (k : Nat) (m : Nat) : Slot := ⟨true, .av (.s (.sl k 0 2 m))⟩
theorem exec_eq {P : Program} {T : Tab} {r : Option Nat} {nt kp : Nat} {c : XC} {S S1 S2 : St} {e : XE} (h : Exec P T r nt kp c S e S1) (hs : S1 = S2) : Exec P T r nt kp c S e S2 := hs ▸ h
def L56 : XC := x56.body.b.b.a.b.i.i
def M56 : XC := L56.b.b.a.i.b.b.i.i
abbrev S56 (f : Nat → Bool) (m : Nat) (q : List Int) (a : Nat) : St := mkSt [(1, g1S 0), (3, lsS 1 m), (6, ⟨true, I a⟩)] [⟨false, .row 70 [] 49 f⟩, ⟨false, .ivec 38 .i64 2 q⟩] 2 []
abbrev P56 (f : Nat → Bool) (m : Nat) (q : List Int) (a : Nat) : St := mkSt [(1, g1S 0), (3, lsS 1 m), (6, ⟨true, I a⟩), (7, ⟨true, B (decide (Int.ofNat a < 7))⟩)] [⟨false, .row 70 [] 49 f⟩, ⟨false, .ivec 38 .i64 2 q⟩] 2 []
abbrev U56 (f : Nat → Bool) (m : Nat) (q : List Int) (a b : Nat) : St := mkSt [(1, g1S 0), (3, lsS 1 m), (4, ⟨true, I a⟩), (6, ⟨true, I a⟩), (9, ⟨true, I b⟩)] [⟨false, .row 70 [] 49 f⟩, ⟨false, .ivec 38 .i64 2 q⟩] 2 []
abbrev K56 (f : Nat → Bool) (m : Nat) (q : List Int) (a : Nat) : St := mkSt [(1, g1S 0), (3, lsS 1 m), (4, ⟨true, I a⟩), (6, ⟨true, I a⟩)] [⟨false, .row 70 [] 49 f⟩, ⟨false, .ivec 38 .i64 2 q⟩] 2 []
abbrev W56 (f : Nat → Bool) (m : Nat) (q : List Int) (a b : Nat) : St := mkSt [(1, g1S 0), (3, lsS 1 m), (4, ⟨true, I a⟩), (6, ⟨true, I a⟩), (9, ⟨true, I b⟩), (5, ⟨true, I b⟩)] [⟨false, .row 70 [] 49 f⟩, ⟨false, .ivec 38 .i64 2 q⟩] 2 []
theorem l56a {f : Nat → Bool} {m : Nat} {q : List Int} {a : Nat} : Exec PP T none x56.nt 0 L56.a (S56 f m q a) .n (P56 f m q a) := by
  refine exec_orun env0 false 60 [] [0, 1] (fun _ => rfl) (by kernel_rfl) (by kernel_rfl) (by kernel_rfl) ?_
  rw [(show obOf (orun g0 false 60 L56.a (S56 f m q a) []) = (true) from by kernel_rfl)]
theorem l56b {f : Nat → Bool} {m : Nat} {q : List Int} {a : Nat} (ha : a < 7) : Exec PP T none x56.nt 0 L56.b.a (P56 f m q a) .n (S56 f m q a) := by
  refine exec_orun env0 false 60 [true] [0, 1] (fun _ => rfl) (by kernel_rfl) (by kernel_rfl) (by kernel_rfl) ?_
  rw [(show obOf (orun g0 false 60 L56.b.a (P56 f m q a) [true]) = (decide (Int.ofNat a < 7) && true) from by kernel_rfl)]
  simp
  omega
theorem l56x {f : Nat → Bool} {m : Nat} {q : List Int} {a : Nat} (ha : ¬ a < 7) : Exec PP T none x56.nt 0 L56.b.a (P56 f m q a) (.x 0) (S56 f m q a) := by
  refine exec_orun env0 false 60 [false] [0, 1] (fun _ => rfl) (by kernel_rfl) (by kernel_rfl) (by kernel_rfl) ?_
  rw [(show obOf (orun g0 false 60 L56.b.a (P56 f m q a) [false]) = (!decide (Int.ofNat a < 7) && true) from by kernel_rfl)]
  simp
  omega
theorem l56c {f : Nat → Bool} {m : Nat} {q : List Int} {a : Nat} : Exec PP T none x56.nt 0 L56.b.b.a.i.a (S56 f m q a) .n (K56 f m q a) := by
  refine exec_orun env0 false 60 [] [0, 1] (fun _ => rfl) (by kernel_rfl) (by kernel_rfl) (by kernel_rfl) ?_
  rw [(show obOf (orun g0 false 60 L56.b.b.a.i.a (S56 f m q a) []) = (true) from by kernel_rfl)]
theorem l56d {f : Nat → Bool} {m : Nat} {q : List Int} {a : Nat} (ha : a < 8) : Exec PP T none x56.nt 0 L56.b.b.a.i.b.a (K56 f m q a) .n (U56 f m q a 0) := by
  refine exec_orun env0 false 60 [] [0, 1] (fun _ => rfl) (by kernel_rfl) (by kernel_rfl) (by kernel_rfl) ?_
  rw [(show obOf (orun g0 false 60 L56.b.b.a.i.b.a (K56 f m q a) []) = (true) from by kernel_rfl)]
  try simp [rng64]
  try omega
theorem l56e {f : Nat → Bool} {m : Nat} {q : List Int} {a : Nat} {b : Nat} (ha : a < 8) : Exec PP T none x56.nt 0 L56.b.b.b (U56 f m q a b) .n (S56 f m q (a + 1)) := by
  refine exec_orun env0 false 60 [] [0, 1] (fun _ => rfl) (by kernel_rfl) (by kernel_rfl) (by kernel_rfl) ?_
  rw [(show obOf (orun g0 false 60 L56.b.b.b (U56 f m q a b) []) = (rng64 (Int.ofNat a.succ) && true) from by kernel_rfl)]
  simp [rng64]
  omega
abbrev Q56 (f : Nat → Bool) (m : Nat) (q : List Int) (a b : Nat) : St := mkSt [(1, g1S 0), (3, lsS 1 m), (4, ⟨true, I a⟩), (6, ⟨true, I a⟩), (9, ⟨true, I b⟩), (10, ⟨true, B (decide (Int.ofNat b < 7))⟩)] [⟨false, .row 70 [] 49 f⟩, ⟨false, .ivec 38 .i64 2 q⟩] 2 []
theorem m56a {f : Nat → Bool} {m : Nat} {q : List Int} {a : Nat} {b : Nat} : Exec PP T none x56.nt 0 M56.a (U56 f m q a b) .n (Q56 f m q a b) := by
  refine exec_orun env0 false 60 [] [0, 1] (fun _ => rfl) (by kernel_rfl) (by kernel_rfl) (by kernel_rfl) ?_
  rw [(show obOf (orun g0 false 60 M56.a (U56 f m q a b) []) = (true) from by kernel_rfl)]
theorem m56b {f : Nat → Bool} {m : Nat} {q : List Int} {a : Nat} {b : Nat} (hb : b < 7) : Exec PP T none x56.nt 0 M56.b.a (Q56 f m q a b) .n (U56 f m q a b) := by
  refine exec_orun env0 false 60 [true] [0, 1] (fun _ => rfl) (by kernel_rfl) (by kernel_rfl) (by kernel_rfl) ?_
  rw [(show obOf (orun g0 false 60 M56.b.a (Q56 f m q a b) [true]) = (decide (Int.ofNat b < 7) && true) from by kernel_rfl)]
  simp
  omega
theorem m56x {f : Nat → Bool} {m : Nat} {q : List Int} {a : Nat} {b : Nat} (hb : ¬ b < 7) : Exec PP T none x56.nt 0 M56.b.a (Q56 f m q a b) (.x 2) (U56 f m q a b) := by
  refine exec_orun env0 false 60 [false] [0, 1] (fun _ => rfl) (by kernel_rfl) (by kernel_rfl) (by kernel_rfl) ?_
  rw [(show obOf (orun g0 false 60 M56.b.a (Q56 f m q a b) [false]) = (!decide (Int.ofNat b < 7) && true) from by kernel_rfl)]
  simp
  omega
theorem m56e {f : Nat → Bool} {m : Nat} {q : List Int} {a : Nat} {b : Nat} (hb : b < 8) : Exec PP T none x56.nt 0 M56.b.b.b (U56 f m q a b) .n (U56 f m q a (b + 1)) := by
  refine exec_orun env0 false 60 [] [0, 1] (fun _ => rfl) (by kernel_rfl) (by kernel_rfl) (by kernel_rfl) ?_
  rw [(show obOf (orun g0 false 60 M56.b.b.b (U56 f m q a b) []) = (rng64 (Int.ofNat b.succ) && true) from by kernel_rfl)]
  simp [rng64]
  omega
theorem y56a {f : Nat → Bool} {m : Nat} {q : List Int} {a : Nat} {b : Nat} : Exec PP T none x56.nt 0 M56.b.b.a.i.a (U56 f m q a b) .n (W56 f m q a b) := by
  refine exec_orun env0 false 60 [] [0, 1] (fun _ => rfl) (by kernel_rfl) (by kernel_rfl) (by kernel_rfl) ?_
  rw [(show obOf (orun g0 false 60 M56.b.b.a.i.a (U56 f m q a b) []) = (true) from by kernel_rfl)]
theorem y56f {f : Nat → Bool} {m : Nat} {q : List Int} {a : Nat} {b : Nat} (ha : a < 7) (hb : b < 7) (h : at7 f a b = false) : Exec PP T none x56.nt 0 M56.b.b.a.i.b (W56 f m q a b) .n (U56 f m q a b) := by
  refine exec_orun env0 false 60 [false] [0, 1] (fun _ => rfl) (by kernel_rfl) (by kernel_rfl) (by kernel_rfl) ?_
  rw [(show obOf (orun g0 false 60 M56.b.b.a.i.b (W56 f m q a b) [false]) = (decide (0 ≤ Int.ofNat a) && decide (Int.ofNat a < 7) && (decide (0 ≤ Int.ofNat b) && decide (Int.ofNat b < 7) && (decide (0 + (0 + a * 7 + b * 1) < 49) && true)) && (!f (0 + (0 + a * 7 + b * 1)) && true)) from by kernel_rfl)]
  unfold at7 at h
  simp [h]
  omega
theorem y56t {f : Nat → Bool} {m : Nat} {q : List Int} {a : Nat} {b : Nat} (hq : q.length = m * 2) (hm : m ≤ 100) (ha : a < 7) (hb : b < 7) (h : at7 f a b = true) : Exec PP T none x56.nt 0 M56.b.b.a.i.b (W56 f m q a b) .n (mkSt [(1, g1S 0), (3, lsS 1 (m + 1)), (4, ⟨true, I a⟩), (6, ⟨true, I a⟩), (9, ⟨true, I b⟩)] [⟨false, .row 70 [] 49 f⟩, ⟨false, .ivec 38 .i64 2 (List.take (m * 2) q ++ [Int.ofNat a, Int.ofNat b])⟩] 2 []) := by
  refine exec_orun env0 false 60 [true] [0, 3] (fun _ => rfl) (by kernel_rfl) (by kernel_rfl) (by kernel_rfl) ?_
  rw [(show obOf (orun g0 false 60 M56.b.b.a.i.b (W56 f m q a b) [true]) = (decide (0 ≤ Int.ofNat a) && decide (Int.ofNat a < 7) && (decide (0 ≤ Int.ofNat b) && decide (Int.ofNat b < 7) && (decide (0 + (0 + a * 7 + b * 1) < 49) && true)) && (f (0 + (0 + a * 7 + b * 1)) && (decide (2 ≤ Nat.succ 1) && decide (m * 2 ≤ q.length) && decide (m.succ ≤ 1000000000) && true && true && true))) from by kernel_rfl)]
  unfold at7 at h
  simp [h, hq]
  omega
abbrev gg56 (f : Nat → Bool) : Nat → Nat → Bool := fun a b => at7 f a b
abbrev sU56 (f : Nat → Bool) (n' a b : Nat) : St := U56 f (midL (gg56 f) n' a b).length (flat (midL (gg56 f) n' a b)) a b
abbrev sS56 (f : Nat → Bool) (n' a : Nat) : St := S56 f (listL (gg56 f) n' a).length (flat (listL (gg56 f) n' a)) a
theorem m56 {f : Nat → Bool} {n' a b : Nat} (ha : a < 7) (hb : b < 7) (hb7 : b < 7) (hn' : n' ≤ 7) : Exec PP T none x56.nt 0 M56 (sU56 f n' a b) .n (sU56 f n' a (b + 1)) := by
  have hl := midL_len (g := (gg56 f)) (n := n') (a := a) (b := b) (by omega) hn' (by omega)
  have hf := flat_len (midL (gg56 f) n' a b)
  show Exec PP T none x56.nt 0 M56 _ .n (U56 f (midL (gg56 f) n' a (b + 1)).length (flat (midL (gg56 f) n' a (b + 1))) a (b + 1))
  cases h : at7 f a b with
  | false =>
    rw [midL_f h]
    exact exec_seq (x := M56.a) (y := M56.b) m56a (exec_seq (x := M56.b.a) (y := M56.b.b) (m56b hb) (exec_seq (x := M56.b.b.a) (y := M56.b.b.b) (exec_block (id := 3) (x := M56.b.b.a.i) (e := .n) (exec_seq (x := M56.b.b.a.i.a) (y := M56.b.b.a.i.b) y56a (y56f ha hb7 h))) (m56e (by omega))))
  | true =>
    rw [midL_tl h, midL_tf h]
    exact exec_seq (x := M56.a) (y := M56.b) m56a (exec_seq (x := M56.b.a) (y := M56.b.b) (m56b hb) (exec_seq (x := M56.b.b.a) (y := M56.b.b.b) (exec_block (id := 3) (x := M56.b.b.a.i) (e := .n) (exec_seq (x := M56.b.b.a.i.a) (y := M56.b.b.a.i.b) y56a (y56t hf hl ha hb7 h))) (m56e (by omega))))
theorem l56 {f : Nat → Bool} {a : Nat} (ha : a < 7) (hn' : 7 ≤ 7) : Exec PP T none x56.nt 0 L56 (sS56 f 7 a) .n (sS56 f 7 (a + 1)) := by
  show Exec PP T none x56.nt 0 L56 _ .n (S56 f (listL (gg56 f) 7 (a + 1)).length (flat (listL (gg56 f) 7 (a + 1))) (a + 1))
  rw [← midL_end]
  refine exec_seq (x := L56.a) (y := L56.b) l56a (exec_seq (x := L56.b.a) (y := L56.b.b) (l56b ha) (exec_seq (x := L56.b.b.a) (y := L56.b.b.b) (exec_block (id := 1) (x := L56.b.b.a.i) (e := .n) (exec_seq (x := L56.b.b.a.i.a) (y := L56.b.b.a.i.b) l56c (exec_seq (x := L56.b.b.a.i.b.a) (y := .block 2 (.loop M56)) (l56d (by omega))
    (exec_block (e := .x 2) ?_)))) (l56e (b := 7) (by omega))))
  have h0 : midL (gg56 f) 7 a 0 = listL (gg56 f) 7 a := midL_0
  rw [← h0]
  exact exec_loop_from (fun b => sU56 f 7 a b) 0 7 (fun b hlo hb => m56 (by omega) hb (by omega) hn') (exec_seq (x := M56.a) (y := M56.b) m56a (exec_seq_x (x := M56.b.a) (y := M56.b.b) (m56x (by omega)) (by simp))) (by simp) (by omega)
theorem a56 {f : Nat → Bool} : Exec PP T none x56.nt 0 x56.body.a (startSt [.pb [] 49 f] []) .n (mkSt [(1, g1S 0)] [⟨false, .row 70 [] 49 f⟩] 1 []) := by
  refine exec_orun env0 false 60 [] [0] (fun _ => rfl) (by kernel_rfl) (by kernel_rfl) (by kernel_rfl) (by kernel_rfl)
theorem a56' {f : Nat → Bool} : Exec PP T none x56.nt 0 x56.body.b.a (mkSt [(1, g1S 0)] [⟨false, .row 70 [] 49 f⟩] 1 []) .n (mkSt [(3, lsS 1 0), (1, g1S 0)] [⟨false, .row 70 [] 49 f⟩, ⟨false, .ivec 38 .i64 2 []⟩] 2 []) := by
  have key : Exec PP T none x56.nt 0 x56.body.b.a (mkSt [(1, g1S 0)] [⟨false, .row 70 [] 49 f⟩] 1 []) .n (mkSt [(1, g1S 0), (3, ⟨true, .av (.s .nils)⟩)] [⟨false, .row 70 [] 49 f⟩] 1 []) := by
    refine exec_orun env0 false 60 [] [0] (fun _ => rfl) (by kernel_rfl) (by kernel_rfl) (by kernel_rfl) (by kernel_rfl)
  exact key.post (weak_nil 3 38 .i64 2 rfl rfl rfl)
theorem b56 {f : Nat → Bool} : Exec PP T none x56.nt 0 x56.body.b.b.a.a (mkSt [(3, lsS 1 0), (1, g1S 0)] [⟨false, .row 70 [] 49 f⟩, ⟨false, .ivec 38 .i64 2 []⟩] 2 []) .n (S56 f 0 [] 0) := by
  refine exec_orun env0 false 60 [] [0, 1] (fun _ => rfl) (by kernel_rfl) (by kernel_rfl) (by kernel_rfl) (by kernel_rfl)
theorem d56 {f : Nat → Bool} {m : Nat} {q : List Int} : Exec PP T none x56.nt 0 x56.body.b.b.b (S56 f m q 7) .r (mkSt [(2, lsS 0 m)] [⟨false, .ivec 38 .i64 2 q⟩] 1 []) := by
  refine exec_orun env0 false 60 [] [1] (fun _ => rfl) (by kernel_rfl) (by kernel_rfl) (by kernel_rfl) (by kernel_rfl)
def toldL (f : Nat → Bool) : List (Int × Int) := listL (fun a b => at7 f a b) 7 7
theorem body56 {f : Nat → Bool} : Exec PP T none x56.nt 0 x56.body (startSt [.pb [] 49 f] []) .r (mkSt [(2, lsS 0 (toldL f).length)] [⟨false, .ivec 38 .i64 2 (flat (toldL f))⟩] 1 []) := by
  refine exec_seq (x := x56.body.a) (y := x56.body.b) a56 (exec_seq (x := x56.body.b.a) (y := x56.body.b.b) a56' (exec_seq (x := x56.body.b.b.a) (y := x56.body.b.b.b) (exec_seq (x := x56.body.b.b.a.a) (y := .block 0 (.loop L56)) b56 (exec_block (e := .x 0) ?_)) (d56 (f := f))))
  exact exec_loop_up (fun a => sS56 f 7 a) 7 (fun a ha => l56 ha (by omega)) (exec_seq (x := L56.a) (y := L56.b) l56a (exec_seq_x (x := L56.b.a) (y := L56.b.b) (l56x (by omega)) (by simp))) (by simp) 0 (by omega)
def spTold : Spec where
  run := fun args h base => match args with
    | [.pb [] 49 f] => some ⟨true, .av (.s (.sl base 0 2 (toldL f).length)), [], [⟨false, .ivec 38 .i64 2 (flat (toldL f))⟩], some []⟩
    | _ => none
theorem spTold_fp : SpecFp spTold := fun args h h' base e hr hf => hr
theorem ok56 : SpecOK PP (compC T) 56 spTold := by
  refine spec_gen tokP o56 fun ctx m h w args vals base e hH hargs hr hvc => ?_
  simp only [spTold] at hr
  split at hr
  case h_2 => cases hr
  rename_i f
  cases hr
  match vals, hargs with
  | [v1], ⟨ha1, _⟩ =>
    exact ⟨rfl, emV, [], [.pb [] 49 f], shown_new (tv := .av (.s (.sl 0 0 2 (toldL f).length))) (o := .ivec 38 .i64 2 (flat (toldL f))) ro0 ⟨pb0_any ha1, trivial⟩ (by kernel_rfl) body56 (fun _ => rfl) (by kernel_rfl) (by kernel_rfl) rfl rfl rfl (fun _ => rfl)⟩
theorem eqB_refl : ∀ (k : Nat) (f : Nat → Bool), eqB k f f = true
  | 0, _ => rfl
  | k + 1, f => by simp [eqB, eqB_refl k f]
end Go.Proofs.Yteekkjfjpoaihaa.Eng
namespace Go.Proofs.Yteekkjfjpoaihaa.Eng
open Go Go.Proofs
def XC.rfA : XC → XC | .rf _ _ a _ => a | c => c
def XC.rfB : XC → XC | .rf _ _ _ b => b | c => c
abbrev arV (u v : Int) : AV := .pb [.int .i64 u, .int .i64 v] 0 ff
abbrev id11 : List Nat := [0, 1, 2, 3, 4, 5, 6, 7, 8, 9, 10]
/-- whether a map has a key -/
def hasC (E : List (CV × CV)) (u v : Int) : Bool := (findC (.ints 2) (.is [u, v]) E).isSome
/-- what a round leaves of the map and of the queue -/
def pushE (q : List Int) (i : Nat) (E : List (CV × CV)) (u v : Int) : List (CV × CV) := bif hasC E u v then E else updC (.ints 2) (.is [u, v]) (.is [q.getD (0 + (0 + i) * 2 + 0) 0, q.getD (0 + (0 + i) * 2 + 0 + 1) 0]) E
def pushQ (E : List (CV × CV)) (q : List Int) (m : Nat) (u v : Int) : List Int := bif hasC E u v then q else List.take (m * 2) q ++ [u, v]
def pushM (E : List (CV × CV)) (m : Nat) (u v : Int) : Nat := bif hasC E u v then m else m + 1
theorem mkSt_set {ts : List (Nat × Slot)} {hs : List HO} {nx : Nat} {df : List Nat} {k : Nat} (hk : k < hs.length) (o : HO) (j : Nat) : ((mkSt ts hs nx df).hp.set k o).get j = (hs.set k o)[j]? := by
  rw [Sto.get_set, mkSt_hp, List.getElem?_set]
  by_cases h : j = k
  · subst h; simp [hk]
  · rw [if_neg h, if_neg (fun e => h e.symm)]
end Go.Proofs.Yteekkjfjpoaihaa.Eng
namespace Go.Proofs.Yteekkjfjpoaihaa.Eng
open Go Go.Proofs
/-- what a run of rounds has in hand: the map, the queue, its length -/
abbrev Sig := List (CV × CV) × List Int × Nat
def push1 (i : Nat) (s : Sig) (u v : Int) : Sig := (pushE s.2.1 i s.1 u v, pushQ s.1 s.2.1 s.2.2 u v, pushM s.1 s.2.2 u v)
def okSig (s : Sig) (i : Nat) (top : Nat) : Prop := s.2.1.length = s.2.2 * 2 ∧ i < s.2.2 ∧ s.2.2 ≤ top
theorem okSig.push {s : Sig} {i top : Nat} (h : okSig s i top) (u v : Int) : okSig (push1 i s u v) i (top + 1) := by
  obtain ⟨h1, h2, h3⟩ := h
  unfold push1 okSig pushQ pushM
  cases hasC s.1 u v with
  | true => exact ⟨h1, h2, by simp; omega⟩
  | false =>
    refine ⟨?_, by simp; omega, by simp; omega⟩
    simp [h1]
    omega
theorem okSig.le {s : Sig} {i top top' : Nat} (h : okSig s i top) (ht : top ≤ top') : okSig s i top' := ⟨h.1, h.2.1, by have := h.2.2; omega⟩
def cnd1 (f : Nat → Bool) (a b c : Nat) : Bool := !(Nat.beq c b) && (at7 f a c && !(at7 f b c))
def cnd2 (f : Nat → Bool) (a b c : Nat) : Bool := !(Nat.beq c a) && (at7 f c b && !(at7 f a c))
theorem at7_raw (f : Nat → Bool) (x y : Nat) : f (0 + (0 + x * 7 + y * 1)) = at7 f x y := by
  unfold at7
  congr 1
  omega
/-- what forced yields, told on what is in hand -/
def stepC (f : Nat → Bool) (i a b c : Nat) (s : Sig) : Sig :=
  let s1 := bif cnd1 f a b c then push1 i s (Int.ofNat a) (Int.ofNat c) else s
  bif cnd2 f a b c then push1 i s1 (Int.ofNat c) (Int.ofNat b) else s1
theorem okSig.step {f : Nat → Bool} {i a b c : Nat} {s : Sig} {top : Nat} (h : okSig s i top) : okSig (stepC f i a b c s) i (top + 2) := by
  unfold stepC
  cases cnd1 f a b c <;> cases cnd2 f a b c
  · exact h.le (by omega)
  · exact (h.push _ _).le (by omega)
  · exact (h.push _ _).le (by omega)
  · exact (h.push _ _).push _ _
end Go.Proofs.Yteekkjfjpoaihaa.Eng
namespace Go.Proofs.Yteekkjfjpoaihaa.Eng
open Go Go.Proofs
/-- a tree that keeps D where no small number leads -/
def tD (D : Tr HO) : Tr HO := .node none .nil (.node none .nil (.node none .nil (.node none .nil (.node none .nil D))))
/-- the numbers that lead there -/
def dN (x : Nat) : Nat := 62 + 32 * x
theorem tD_in (D : Tr HO) (x : Nat) : (tD D).get (dN x) = D.get x := by
  unfold tD dN
  simp only [Tr.get_node]
  rw [beqF (by omega), cond_false, beqF (by omega), cond_false, beqF (by omega), cond_false, beqF (by omega), cond_false, beqF (by omega), cond_false, beqF (by omega), cond_false, beqF (by omega), cond_false, beqF (by omega), cond_false, beqF (by omega), cond_false, beqF (by omega), cond_false]
  congr 1
  omega
theorem tD_out (D : Tr HO) (j : Nat) (h : ∀ x, j ≠ dN x) : (tD D).get j = none := by
  unfold tD
  simp only [Tr.get_node, Tr.get_nil]
  by_cases h0 : j = 0
  · rw [beqT h0]; rfl
  rw [beqF h0, cond_false]
  by_cases h1 : j % 2 = 1
  · rw [beqT h1]; rfl
  rw [beqF h1, cond_false]
  by_cases h2 : j / 2 - 1 = 0
  · rw [beqT h2]; rfl
  rw [beqF h2, cond_false]
  by_cases h3 : (j / 2 - 1) % 2 = 1
  · rw [beqT h3]; rfl
  rw [beqF h3, cond_false]
  by_cases h4 : (j / 2 - 1) / 2 - 1 = 0
  · rw [beqT h4]; rfl
  rw [beqF h4, cond_false]
  by_cases h5 : ((j / 2 - 1) / 2 - 1) % 2 = 1
  · rw [beqT h5]; rfl
  rw [beqF h5, cond_false]
  by_cases h6 : ((j / 2 - 1) / 2 - 1) / 2 - 1 = 0
  · rw [beqT h6]; rfl
  rw [beqF h6, cond_false]
  by_cases h7 : (((j / 2 - 1) / 2 - 1) / 2 - 1) % 2 = 1
  · rw [beqT h7]; rfl
  rw [beqF h7, cond_false]
  by_cases h8 : (((j / 2 - 1) / 2 - 1) / 2 - 1) / 2 - 1 = 0
  · rw [beqT h8]; rfl
  rw [beqF h8, cond_false]
  by_cases h9 : ((((j / 2 - 1) / 2 - 1) / 2 - 1) / 2 - 1) % 2 = 1
  · rw [beqT h9]; rfl
  exact absurd (show j = dN (((((j / 2 - 1) / 2 - 1) / 2 - 1) / 2 - 1) / 2 - 1) by unfold dN; omega) (h _)
noncomputable def setL (t : Tr HO) (l : List HO) : Tr HO := (List.rec (fun t _ => t) (fun h _ ih t i => ih (t.set i h) (Nat.succ i)) l : Tr HO → Nat → Tr HO) t 0
noncomputable def setLF (l : List HO) : Tr HO → Nat → Tr HO := List.rec (fun t _ => t) (fun h _ ih t i => ih (t.set i h) (Nat.succ i)) l
theorem setLF_get : ∀ (l : List HO) (t : Tr HO) (i j : Nat), (setLF l t i).get j = if i ≤ j ∧ j < i + l.length then l[j - i]? else t.get j
  | [], t, i, j => by
    show t.get j = _
    rw [if_neg (by rintro ⟨h1, h2⟩; simp only [List.length_nil] at h2; omega)]
  | h :: l, t, i, j => by
    show (setLF l (t.set i h) (i + 1)).get j = _
    rw [setLF_get l, Tr.get_set]
    by_cases e : j = i
    · subst e
      rw [if_neg (by omega), if_pos rfl, if_pos (by simp), Nat.sub_self]
      rfl
    · by_cases hb : i + 1 ≤ j ∧ j < i + 1 + l.length
      · rw [if_pos hb, if_pos (by simp; omega), show j - i = (j - (i + 1)) + 1 by omega]
        simp
      · rw [if_neg hb, if_neg e, if_neg (by simp; omega)]
theorem setL_get (t : Tr HO) (l : List HO) (j : Nat) : (setL t l).get j = if j < l.length then l[j]? else t.get j := by
  have := setLF_get l t 0 j
  simp only [Nat.zero_le, true_and, Nat.zero_add, Nat.sub_zero] at this
  exact this
/-- a state with D aside -/
noncomputable def stD (ts : List (Nat × Slot)) (hs : List HO) (nx : Nat) (D : Tr HO) (df : List Nat) : St := ⟨.al ts, .tr (setL (tD D) hs), nx, df⟩
theorem stD_lt {ts : List (Nat × Slot)} {hs : List HO} {nx : Nat} {D : Tr HO} {df : List Nat} {j : Nat} (h : j < hs.length) : (stD ts hs nx D df).hp.get j = hs[j]? := by
  show (setL (tD D) hs).get j = _
  rw [setL_get, if_pos h]
theorem stD_in {ts : List (Nat × Slot)} {hs : List HO} {nx : Nat} {D : Tr HO} {df : List Nat} {x : Nat} (h : hs.length ≤ 62) : (stD ts hs nx D df).hp.get (dN x) = D.get x := by
  show (setL (tD D) hs).get _ = _
  rw [setL_get, if_neg (by unfold dN; omega), tD_in]
theorem stD_out {ts : List (Nat × Slot)} {hs : List HO} {nx : Nat} {D : Tr HO} {df : List Nat} {j : Nat} (h : hs.length ≤ j) (h2 : ∀ x, j ≠ dN x) : (stD ts hs nx D df).hp.get j = none := by
  show (setL (tD D) hs).get _ = _
  rw [setL_get, if_neg (by omega), tD_out D j h2]
theorem all2_maps {α β : Type} {R1 R2 : α → β → Prop} {f g : Nat → α} : ∀ {xs : List Nat} {ds : List β}, All2 R1 (xs.map f) ds → (∀ x ∈ xs, ∀ d, R1 (f x) d → R2 (g x) d) → All2 R2 (xs.map g) ds
  | [], [], _, _ => trivial
  | [], _ :: _, h, _ => h.elim
  | _ :: _, [], h, _ => h.elim
  | x :: xs, d :: ds, ⟨h1, h2⟩, h => ⟨h x (by simp) d h1, all2_maps h2 fun y hy => h y (by simp [hy])⟩
section
variable {P : Program} {T : Tab} {r : Option Nat} {Γ : Cal → Option Spec} {nt kp : Nat}
/-- another view, the store aside told by where its blocks were -/
theorem weak_D {S : St} {ts : List (Nat × Slot)} {hs : List HO} {nx : Nat} {D : Tr HO} {df ids : List Nat} (dm : Nat → Nat) (hok : mkOkG ts hs ids 0 = true) (hl62 : hs.length ≤ 62)
    (hts : ∀ p ∈ ts, S.sl.get p.1 = some ⟨p.2.c, p.2.v.ren fun j => ids.getD j 0⟩) (hhs : ∀ j h, hs[j]? = some h → (h.live = true → S.hp.get (ids.getD j 0) = some (h.ren fun j => ids.getD j 0)) ∧ (h.live = false → (S.hp.get (ids.getD j 0)).isSome = true))
    (hD : ∀ x ho, D.get x = some ho → ho = ⟨false, .dfr⟩ ∧ S.hp.get (dm x) = some ho ∧ (∀ j h, hs[j]? = some h → h.live = true → ids.getD j 0 ≠ dm x)) (hDi : ∀ x y ho ho', D.get x = some ho → D.get y = some ho' → dm x = dm y → x = y)
    (hnl : ∀ (j : Nat) (h : HO), hs[j]? = some h → h.o.isLoop = false) (hdf : ∃ xs : List Nat, df = xs.map dN ∧ S.df = xs.map dm ∧ ∀ x ∈ xs, (D.get x).isSome = true) : Weak T 0 S (stD ts hs nx D df) := by
  intro ctx nt m a w hR
  simp only [mkOkG, Bool.and_eq_true] at hok
  obtain ⟨⟨⟨⟨h1, h2⟩, h3⟩, h4⟩, h5⟩ := hok
  have hlen := Nat.eq_of_beq_eq_true h4
  have hinj : ∀ x y, dN x = dN y → x = y := fun x y h => by unfold dN at h; omega
  have hdl : ∀ x j, j < hs.length → j ≠ dN x := fun x j h e => by unfold dN at e; omega
  let m2 : MM := fun j => if j < hs.length then m (ids.getD j 0) else if j ≥ 62 ∧ (j - 62) % 32 = 0 ∧ (D.get ((j - 62) / 32)).isSome = true then m (dm ((j - 62) / 32)) else none
  have hm2 : ∀ j, j < hs.length → m2 j = m (ids.getD j 0) := fun j hj => by simp only [m2, if_pos hj]
  have hmD : ∀ x, (D.get x).isSome = true → m2 (dN x) = m (dm x) := fun x hx => by
    have e : (dN x - 62) / 32 = x := by unfold dN; omega
    simp only [m2]
    rw [if_neg (by unfold dN; omega), if_pos (by rw [e]; exact ⟨by unfold dN; omega, by unfold dN; omega, hx⟩), e]
  have hdist : ∀ i j hi hj, hs[i]? = some hi → hs[j]? = some hj → hi.live = true → hj.live = true → i ≠ j → ids.getD i 0 ≠ ids.getD j 0 := by
    intro i j hi hj e1 e2 l1 l2 hne he
    have g1 := (List.getElem?_eq_some_iff.1 e1).1
    have g2 := (List.getElem?_eq_some_iff.1 e2).1
    have := List.all_eq_true.1 (List.all_eq_true.1 h3 i (List.mem_range.2 g1)) j (List.mem_range.2 g2)
    simp only [liveAt, e1, e2, l1, l2, Bool.not_true, Bool.false_or, Bool.or_eq_true, Bool.not_eq_true'] at this
    rcases this with h | h
    · exact hne (Nat.eq_of_beq_eq_true h)
    · rw [beqT he] at h; cases h
  -- each object of the new view, where it was
  have hwhere : ∀ id ho, (stD ts hs nx D df).hp.get id = some ho → (id < hs.length ∧ hs[id]? = some ho) ∨ ∃ x, id = dN x ∧ D.get x = some ho := by
    intro id ho hid
    by_cases hl : id < hs.length
    · rw [stD_lt hl] at hid; exact .inl ⟨hl, hid⟩
    · by_cases hx : ∃ x, id = dN x
      · obtain ⟨x, rfl⟩ := hx
        rw [stD_in hl62] at hid
        exact .inr ⟨x, rfl, hid⟩
      · rw [stD_out (by omega) fun x e => hx ⟨x, e⟩] at hid; cases hid
  let oid : Nat → Nat := fun id => if id < hs.length then ids.getD id 0 else dm ((id - 62) / 32)
  have oid1 : ∀ id, id < hs.length → oid id = ids.getD id 0 := fun id h => if_pos h
  have oid2 : ∀ x, oid (dN x) = dm x := fun x => by
    have e : (dN x - 62) / 32 = x := by unfold dN; omega
    show (if dN x < hs.length then _ else _) = _
    rw [if_neg (by unfold dN; omega), e]
  have hold : ∀ id ho, (stD ts hs nx D df).hp.get id = some ho → ho.live = true → ∃ ho', S.hp.get (oid id) = some ho' ∧ ho'.ro = ho.ro ∧ ho'.live = true ∧ m2 id = m (oid id) := by
    intro id ho hid hl
    rcases hwhere id ho hid with ⟨hlt, h⟩ | ⟨x, rfl, h⟩
    · rw [oid1 id hlt]
      exact ⟨_, (hhs id ho h).1 hl, rfl, by rw [HO.live_ren]; exact hl, hm2 id hlt⟩
    · rw [oid2 x]
      obtain ⟨_, g, _⟩ := hD x ho h
      exact ⟨_, g, rfl, hl, hmD x (by rw [h]; rfl)⟩
  refine ⟨m2, fun id mb hid hmb => absurd hid (by omega), fun t s hts' => ?_, hR.size, ?_, ?_⟩
  · have hm := alGet_mem hts'
    have := hts _ hm
    have hs1 := hR.slot t _ this
    refine ⟨fun c => TR.unren (hs1.1 c) fun j hj => hm2 j ?_, hs1.2⟩
    have := List.all_eq_true.1 (List.all_eq_true.1 h1 _ hm) j hj
    exact Nat.le_of_ble_eq_true this
  · refine ⟨fun id ho hid => ?_, fun id id' ho ho' mb mb' b hne hid hid' hro hl hl' hm hm' hb => ?_, fun id hid => ?_, hR.heap.os, hR.heap.tape, hR.heap.output, hR.heap.size, hR.heap.same0⟩
    · rcases hwhere id ho hid with ⟨hlt, h⟩ | ⟨x, rfl, h⟩
      · have hin := List.all_eq_true.1 h2 ho (List.mem_of_getElem? h)
        simp only [Bool.and_eq_true, Bool.or_eq_true, Bool.not_eq_true'] at hin
        cases hlv : ho.live with
        | true =>
          obtain ⟨mb, g1, g2, g3, g4⟩ := hR.heap.obj _ _ ((hhs id ho h).1 hlv)
          exact ⟨mb, by rw [hm2 id hlt]; exact g1, OR.unren g2 (fun j hj => hm2 j (Nat.le_of_ble_eq_true (List.all_eq_true.1 hin.1 j hj))) (hnl id ho h), fun _ => g3 (by rw [HO.live_ren]; exact hlv), fun hro _ => g4 hro (by rw [HO.live_ren]; exact hlv)⟩
        | false =>
          obtain ⟨h', hh'⟩ := Option.isSome_iff_exists.1 ((hhs id ho h).2 hlv)
          obtain ⟨mb, g1, _⟩ := hR.heap.obj _ _ hh'
          refine ⟨mb, by rw [hm2 id hlt]; exact g1, ?_, fun h => by simp at h, fun _ h => by simp at h⟩
          rw [live_gone hlv]
          trivial
      · obtain ⟨e, g, _⟩ := hD x ho h
        obtain ⟨mb, g1, g2, g3, g4⟩ := hR.heap.obj _ _ g
        subst e
        exact ⟨mb, by rw [hmD x (by rw [h]; rfl)]; exact g1, g2, g3, g4⟩
    · obtain ⟨k1, a1, b1, c1, d1⟩ := hold id ho hid hl
      obtain ⟨k2, a2, b2, c2, d2⟩ := hold id' ho' hid' hl'
      refine hR.heap.dist _ _ k1 k2 mb mb' b ?_ a1 a2 (by rw [b1]; exact hro) c1 c2 (by rw [← d1]; exact hm) (by rw [← d2]; exact hm') hb
      rcases hwhere id ho hid with ⟨hlt, h⟩ | ⟨x, rfl, h⟩ <;> rcases hwhere id' ho' hid' with ⟨hlt', h'⟩ | ⟨x', rfl, h'⟩
      · rw [oid1 id hlt, oid1 id' hlt']
        exact hdist id id' ho ho' h h' hl hl' hne
      · rw [oid1 id hlt, oid2]
        exact (hD x' ho' h').2.2 id ho h hl
      · rw [oid2, oid1 id' hlt']
        exact fun e => (hD x ho h).2.2 id' ho' h' hl' e.symm
      · rw [oid2, oid2]
        exact fun e => hne (by rw [hDi x x' ho ho' h h' e])
    · by_cases hl : id < hs.length
      · rw [stD_lt hl] at hid
        simp at hid
        omega
      · simp only [m2, if_neg hl]
        split
        · rename_i hc
          have e : id = dN ((id - 62) / 32) := by unfold dN; omega
          rw [e, stD_in hl62] at hid
          rw [hid] at hc
          simp at hc
        · rfl
  · obtain ⟨xs, rfl, e2, hxs⟩ := hdf
    have := hR.df
    rw [e2] at this
    exact all2_maps this fun x hx d ⟨mb, b, e1, e2⟩ => ⟨mb, b, by rw [hmD x (hxs x hx)]; exact e1, e2⟩
/-- what is aside, as a run leaves it -/
noncomputable def spine (S : Sto HO) : Option (Tr HO) := match S with
  | .tr (.node _ _ (.node _ _ (.node _ _ (.node _ _ (.node _ _ D))))) => some D
  | _ => none
theorem spine_get {S : Sto HO} {D : Tr HO} (h : spine S = some D) (x : Nat) : S.get (dN x) = D.get x := by
  unfold spine at h
  split at h
  case h_2 => cases h
  cases h
  unfold dN
  simp only [Sto.get, Tr.get_node]
  rw [beqF (by omega), cond_false, beqF (by omega), cond_false, beqF (by omega), cond_false, beqF (by omega), cond_false, beqF (by omega), cond_false, beqF (by omega), cond_false, beqF (by omega), cond_false, beqF (by omega), cond_false, beqF (by omega), cond_false, beqF (by omega), cond_false]
  congr 1
  omega
/-- k blocks aside -/
noncomputable def dT (k : Nat) : Tr HO := Nat.rec .nil (fun k ih => ih.set k ⟨false, .dfr⟩) k
theorem dT_succ (k : Nat) : dT (k + 1) = (dT k).set k ⟨false, .dfr⟩ := rfl
theorem dT_get : ∀ (k x : Nat), (dT k).get x = if x < k then some ⟨false, .dfr⟩ else none
  | 0, x => rfl
  | k + 1, x => by
    rw [dT_succ, Tr.get_set, dT_get k]
    by_cases h : x = k
    · subst h
      rw [if_pos rfl, if_pos (by omega)]
    · by_cases h2 : x < k
      · rw [if_neg h, if_pos h2, if_pos (by omega)]
      · rw [if_neg h, if_neg h2, if_neg (by omega)]
def dL (k : Nat) : List Nat := (List.range k).reverse.map dN
theorem dL_succ (k : Nat) : dL (k + 1) = dN k :: dL k := by simp [dL, List.range_succ]
noncomputable def vwD (ts ids : List Nat) (hs : List HO) (q : Option (Bool × XE × St × List Bool)) : Option (XE × (List (Option Slot) × List (Option HO) × List Nat) × Option (Tr HO)) :=
  q.map fun q => (q.2.1, viewG ts ids hs q.2.2.1, spine q.2.2.1.hp)
/-- a run that leaves what is aside alone -/
theorem exec_orunD (hE : EnvOK P T Γ) (inr : Bool) (k : Nat) (os : List Bool) (ids : List Nat) {K : Nat} (hr : inr = false → r = none) {c : XC} {S : St} {e : XE} {ts : List (Nat × Slot)} {hs : List HO} {nx : Nat}
    (hv : vwD (ts.map (·.1)) ids hs (orun Γ inr k c S os) = some (e, (ts.map (fun p => some ⟨p.2.c, p.2.v.ren fun j => ids.getD j 0⟩), hs.map (fun h => some (bif h.live then h.ren fun j => ids.getD j 0 else goneH)), dL K), some (dT K)))
    (hok : mkOkG ts hs ids 0 = true) (hl : Nat.ble hs.length 62 = true) (hid : ids.all (fun j => Nat.blt j 62) = true) (hnl : hs.all (fun h => !h.o.isLoop) = true) (hob : obOf (orun Γ inr k c S os) = true) : Exec P T r nt 0 c S e (stD ts hs nx (dT K) (dL K)) := by
  unfold vwD at hv
  cases ho : orun Γ inr k c S os with
  | none => rw [ho] at hv; cases hv
  | some q =>
    obtain ⟨v, e1, S1, os1⟩ := q
    rw [ho] at hv hob
    simp only [Option.map_some, Option.some.injEq, Prod.mk.injEq, viewG] at hv
    obtain ⟨rfl, ⟨h3, h4, h5⟩, h6⟩ := hv
    have hlen : ids.length = hs.length := by
      simp only [mkOkG, Bool.and_eq_true] at hok
      exact Nat.eq_of_beq_eq_true hok.1.2
    refine (orun_snd hE hr k c S S1 os os1 e1 v ho hob).1.post (weak_D (ids := ids) dN hok (Nat.le_of_ble_eq_true hl) (fun p hp => ?_) (fun j h hj => ?_) (fun x ho hx => ?_) (fun x y _ _ _ _ h => by unfold dN at h; omega) (fun j h hj => ?_) ⟨(List.range K).reverse, rfl, h5, fun x hx => ?_⟩)
    · rw [List.map_map] at h3
      exact List.map_inj_left.1 h3 p hp
    · have hlt : j < hs.length := (List.getElem?_eq_some_iff.1 hj).1
      have e : ids[j]? = some (ids.getD j 0) := by
        have : j < ids.length := by omega
        simp [this]
      have hz : (ids.zip hs)[j]? = some (ids.getD j 0, h) := by
        rw [List.getElem?_zip_eq_some]
        exact ⟨e, hj⟩
      have := congrArg (fun l => l[j]?) h4
      simp only [List.getElem?_map, hz, hj, Option.map_some, Option.some.injEq] at this
      unfold lookH at this
      refine ⟨fun hl => ?_, fun hl => ?_⟩
      · rw [hl, cond_true, cond_true] at this
        exact this
      · rw [hl, cond_false] at this
        cases hg : S1.hp.get (ids.getD j 0) with
        | none => rw [hg] at this; cases this
        | some x => rfl
    · rw [spine_get h6, hx]
      rw [dT_get] at hx
      split at hx
      case isFalse => cases hx
      cases hx
      refine ⟨rfl, rfl, fun j h hj _ he => ?_⟩
      have hlt : j < hs.length := (List.getElem?_eq_some_iff.1 hj).1
      have hm : ids.getD j 0 ∈ ids := by
        have : j < ids.length := by omega
        simp [this]
      have := Nat.le_of_ble_eq_true (List.all_eq_true.1 hid _ hm)
      unfold dN at he
      omega
    · simpa using List.all_eq_true.1 hnl h (List.mem_of_getElem? hj)
    · rw [dT_get, if_pos (by simpa using hx)]
      rfl
end
end Go.Proofs.Yteekkjfjpoaihaa.Eng
namespace Go.Proofs.Yteekkjfjpoaihaa.Eng
open Go Go.Proofs
def keyN (p : Nat × Nat) : CV := .is [Int.ofNat p.1, Int.ofNat p.2]
def flatN (l : List (Nat × Nat)) : List Int := l.flatMap fun p => [Int.ofNat p.1, Int.ofNat p.2]
theorem flatN_len (l : List (Nat × Nat)) : (flatN l).length = l.length * 2 := by
  unfold flatN
  induction l with
  | nil => rfl
  | cons a l ih => rw [List.flatMap_cons, List.length_append, ih]; simp; omega
structure Inv (s : Sig) (l : List (Nat × Nat)) : Prop where
  q : s.2.1 = flatN l
  m : s.2.2 = l.length
  keys : s.1.map (·.1) = l.map keyN
  nd : l.Nodup
  rng : ∀ p ∈ l, p.1 < 7 ∧ p.2 < 7
def pushL (l : List (Nat × Nat)) (p : Nat × Nat) : List (Nat × Nat) := bif l.contains p then l else l ++ [p]
theorem find_keys : ∀ (E : List (CV × CV)) (l : List (Nat × Nat)) (p : Nat × Nat), E.map (·.1) = l.map keyN → (findC (.ints 2) (keyN p) E).isSome = l.contains p
  | [], [], p, _ => rfl
  | [], _ :: _, _, h => by simp at h
  | _ :: _, [], _, h => by simp at h
  | (k, v) :: E, a :: l, p, h => by
    simp only [List.map_cons, List.cons.injEq] at h
    obtain ⟨rfl, h⟩ := h
    have e : eqC (.ints 2) (keyN p) (keyN a) = (p == a) := by
      show ([Int.ofNat p.1, Int.ofNat p.2] == [Int.ofNat a.1, Int.ofNat a.2]) = _
      rw [beq_two]
      rw [Bool.eq_iff_iff]
      obtain ⟨p1, p2⟩ := p
      obtain ⟨a1, a2⟩ := a
      simp
      omega
    unfold findC
    rw [e, List.contains_cons]
    cases p == a with
    | true => rfl
    | false => rw [cond_false, Bool.false_or]; exact find_keys E l p h
theorem upd_keys : ∀ (E : List (CV × CV)) (l : List (Nat × Nat)) (p : Nat × Nat) (v : CV), E.map (·.1) = l.map keyN → l.contains p = false → (updC (.ints 2) (keyN p) v E).map (·.1) = (l ++ [p]).map keyN
  | [], [], p, v, _, _ => rfl
  | [], _ :: _, _, _, h, _ => by simp at h
  | _ :: _, [], _, _, h, _ => by simp at h
  | (k, u) :: E, a :: l, p, v, h, hc => by
    simp only [List.map_cons, List.cons.injEq] at h
    obtain ⟨rfl, h⟩ := h
    rw [List.contains_cons, Bool.or_eq_false_iff] at hc
    have e : eqC (.ints 2) (keyN p) (keyN a) = (p == a) := by
      show ([Int.ofNat p.1, Int.ofNat p.2] == [Int.ofNat a.1, Int.ofNat a.2]) = _
      rw [beq_two]
      rw [Bool.eq_iff_iff]
      obtain ⟨p1, p2⟩ := p
      obtain ⟨a1, a2⟩ := a
      simp
      omega
    unfold updC
    rw [e, hc.1, cond_false, List.map_cons, upd_keys E l p v h hc.2]
    rfl
theorem Inv.push {s : Sig} {l : List (Nat × Nat)} (h : Inv s l) (i u v : Nat) (hu : u < 7) (hv : v < 7) : Inv (push1 i s (Int.ofNat u) (Int.ofNat v)) (pushL l (u, v)) := by
  have hh : hasC s.1 (Int.ofNat u) (Int.ofNat v) = l.contains (u, v) := find_keys s.1 l (u, v) h.keys
  unfold push1 pushL
  unfold pushE pushQ pushM
  rw [hh]
  cases hc : l.contains (u, v) with
  | true => exact ⟨h.q, h.m, h.keys, h.nd, h.rng⟩
  | false =>
    simp only [cond_false]
    have hn : (u, v) ∉ l := fun hm => by rw [List.contains_iff_mem.2 hm] at hc; cases hc
    refine ⟨?_, by simp [h.m], upd_keys _ _ _ _ h.keys hc, ?_, ?_⟩
    · simp only
      rw [h.q, h.m, ← flatN_len, List.take_length]
      simp [flatN, List.flatMap_append]
    · rw [List.nodup_append]
      refine ⟨h.nd, by simp, fun a ha b hb => ?_⟩
      simp at hb
      subst hb
      exact fun e => hn (e ▸ ha)
    · intro p hp
      rcases List.mem_append.1 hp with hp | hp
      · exact h.rng p hp
      · simp at hp; subst hp; exact ⟨hu, hv⟩
def stepL (f : Nat → Bool) (a b c : Nat) (l : List (Nat × Nat)) : List (Nat × Nat) :=
  let l1 := bif cnd1 f a b c then pushL l (a, c) else l
  bif cnd2 f a b c then pushL l1 (c, b) else l1
theorem Inv.step {s : Sig} {l : List (Nat × Nat)} (h : Inv s l) {f : Nat → Bool} {i a b c : Nat} (ha : a < 7) (hb : b < 7) (hc : c < 7) : Inv (stepC f i a b c s) (stepL f a b c l) := by
  unfold stepC stepL
  cases cnd1 f a b c <;> cases cnd2 f a b c
  · exact h
  · exact h.push i c b hc hb
  · exact h.push i a c ha hc
  · exact (h.push i a c ha hc).push i c b hc hb
end Go.Proofs.Yteekkjfjpoaihaa.Eng
namespace Go.Proofs.Yteekkjfjpoaihaa.Eng
open Go Go.Proofs
theorem leaveH_other : ∀ (l : List Nat) (h : Nat → Option HO) (id : Nat), id ∉ l → leaveH h l id = h id
  | [], _, _, _ => rfl
  | a :: l, h, id, hid => by
    show leaveH (fun j => if j = a then _ else h j) l id = _
    rw [leaveH_other l _ id fun hm => hid (by simp [hm])]
    rw [if_neg fun e => hid (by simp [e])]
theorem dfOk_all : ∀ (l : List Nat) (h : Nat → Option HO), l.Nodup → (∀ id ∈ l, h id = some ⟨false, .dfr⟩) → dfOk h l = true
  | [], _, _, _ => rfl
  | a :: l, h, hn, hd => by
    obtain ⟨h1, h2⟩ := List.nodup_cons.1 hn
    simp only [dfOk, hd a (by simp), Bool.true_and]
    exact dfOk_all l _ h2 fun id hid => by
      have hne : ¬ id = a := fun e => h1 (by rw [← e]; exact hid)
      rw [if_neg hne]
      exact hd id (by simp [hid])
theorem dL_mem {k id : Nat} : id ∈ dL k ↔ ∃ x, x < k ∧ id = dN x := by
  unfold dL
  simp only [List.mem_map, List.mem_reverse, List.mem_range]
  constructor
  · rintro ⟨x, h1, rfl⟩; exact ⟨x, h1, rfl⟩
  · rintro ⟨x, h1, rfl⟩; exact ⟨x, h1, rfl⟩
theorem dL_nodup (k : Nat) : (dL k).Nodup := by
  induction k with
  | zero => simp [dL]
  | succ k ih =>
    rw [dL_succ, List.nodup_cons]
    refine ⟨fun hm => ?_, ih⟩
    obtain ⟨x, h1, h2⟩ := dL_mem.1 hm
    unfold dN at h2
    omega
end Go.Proofs.Yteekkjfjpoaihaa.Eng
namespace Go.Proofs.Yteekkjfjpoaihaa.Eng
open Go Go.Proofs
def L61 : XC := x61.body.b.b.a.b.i.i
def M61 : XC := L61.b.b.a.i.b.b.i.i
abbrev G61 (f o : Nat → Bool) : List HO := [⟨false, .row 70 [] 49 f⟩, ⟨false, .row 70 [] 49 ff⟩, ⟨false, .row 70 [] 49 o⟩]
abbrev sl61 : List (Nat × Slot) := [(1, g1S 0), (2, g1S 1), (3, g1S 2)]
abbrev S61 (f o : Nat → Bool) (a : Nat) : St := mkSt (sl61 ++ [(6, ⟨true, I a⟩)]) (G61 f o) 3 []
abbrev P61 (f o : Nat → Bool) (a : Nat) : St := mkSt (sl61 ++ [(6, ⟨true, I a⟩), (7, ⟨true, B (decide (Int.ofNat a < 7))⟩)]) (G61 f o) 3 []
abbrev U61 (f o : Nat → Bool) (a b : Nat) : St := mkSt (sl61 ++ [(4, ⟨true, I a⟩), (6, ⟨true, I a⟩), (9, ⟨true, I b⟩)]) (G61 f o) 3 []
abbrev Q61 (f o : Nat → Bool) (a b : Nat) : St := mkSt (sl61 ++ [(4, ⟨true, I a⟩), (6, ⟨true, I a⟩), (9, ⟨true, I b⟩), (10, ⟨true, B (decide (Int.ofNat b < 7))⟩)]) (G61 f o) 3 []
def tS (f o : Nat → Bool) (a b : Nat) : Nat → Bool := fun j => bif j.beq (0 - ([] : List SV).length + (0 + b * 7 + a * 1)) then f (0 - ([] : List SV).length + (0 + a * 7 + b * 1)) else o j
def trow (f : Nat → Bool) (a : Nat) (o : Nat → Bool) : Nat → Nat → Bool
  | 0 => o
  | b + 1 => tS f (trow f a o b) a b
def tall (f : Nat → Bool) : Nat → Nat → Bool
  | 0 => ff
  | a + 1 => trow f a (tall f a) 7
def turnR (f : Nat → Bool) : Nat → Bool := tall f 7
theorem a61 {f : Nat → Bool} : Exec PP T none x61.nt 0 x61.body.a (startSt [.pb [] 49 f] []) .n (mkSt [(1, g1S 0), (2, g1S 1)] [⟨false, .row 70 [] 49 f⟩, ⟨false, .row 70 [] 49 ff⟩] 2 []) := by
  refine exec_orun env0 false 60 [] [0, 1] (fun _ => rfl) (by kernel_rfl) (by kernel_rfl) (by kernel_rfl) (by kernel_rfl)
theorem a61' {f : Nat → Bool} : Exec PP T none x61.nt 0 x61.body.b.a (mkSt [(1, g1S 0), (2, g1S 1)] [⟨false, .row 70 [] 49 f⟩, ⟨false, .row 70 [] 49 ff⟩] 2 []) .n (mkSt sl61 (G61 f ff) 3 []) := by
  refine exec_orun env0 false 60 [] [0, 1, 2] (fun _ => rfl) (by kernel_rfl) (by kernel_rfl) (by kernel_rfl) (by kernel_rfl)
theorem b61 {f : Nat → Bool} : Exec PP T none x61.nt 0 x61.body.b.b.a.a (mkSt sl61 (G61 f ff) 3 []) .n (S61 f ff 0) := by
  refine exec_orun env0 false 60 [] [0, 1, 2] (fun _ => rfl) (by kernel_rfl) (by kernel_rfl) (by kernel_rfl) (by kernel_rfl)
theorem l61a {f o : Nat → Bool} {a : Nat} : Exec PP T none x61.nt 0 L61.a (S61 f o a) .n (P61 f o a) := by
  refine exec_orun env0 false 60 [] [0, 1, 2] (fun _ => rfl) (by kernel_rfl) (by kernel_rfl) (by kernel_rfl) (by kernel_rfl)
theorem l61b {f o : Nat → Bool} {a : Nat} (h : a < 7) : Exec PP T none x61.nt 0 L61.b.a (P61 f o a) .n (S61 f o a) := by
  refine exec_orun env0 false 60 [true] [0, 1, 2] (fun _ => rfl) (by kernel_rfl) (by kernel_rfl) (by kernel_rfl) ?_
  rw [(show obOf (orun g0 false 60 L61.b.a (P61 f o a) [true]) = (decide (Int.ofNat a < 7) && true) from by kernel_rfl)]
  simp
  omega
theorem l61x {f o : Nat → Bool} : Exec PP T none x61.nt 0 L61.b.a (P61 f o 7) (.x 0) (S61 f o 7) := by
  refine exec_orun env0 false 60 [false] [0, 1, 2] (fun _ => rfl) (by kernel_rfl) (by kernel_rfl) (by kernel_rfl) (by kernel_rfl)
theorem l61c {f o : Nat → Bool} {a : Nat} : Exec PP T none x61.nt 0 L61.b.b.a.i.a (S61 f o a) .n (mkSt (sl61 ++ [(4, ⟨true, I a⟩), (6, ⟨true, I a⟩)]) (G61 f o) 3 []) := by
  refine exec_orun env0 false 60 [] [0, 1, 2] (fun _ => rfl) (by kernel_rfl) (by kernel_rfl) (by kernel_rfl) (by kernel_rfl)
theorem l61d {f o : Nat → Bool} {a : Nat} : Exec PP T none x61.nt 0 L61.b.b.a.i.b.a (mkSt (sl61 ++ [(4, ⟨true, I a⟩), (6, ⟨true, I a⟩)]) (G61 f o) 3 []) .n (U61 f o a 0) := by
  refine exec_orun env0 false 60 [] [0, 1, 2] (fun _ => rfl) (by kernel_rfl) (by kernel_rfl) (by kernel_rfl) (by kernel_rfl)
theorem l61e {f o : Nat → Bool} {a b : Nat} (h : a < 7) : Exec PP T none x61.nt 0 L61.b.b.b (U61 f o a b) .n (S61 f o (a + 1)) := by
  refine exec_orun env0 false 60 [] [0, 1, 2] (fun _ => rfl) (by kernel_rfl) (by kernel_rfl) (by kernel_rfl) ?_
  rw [(show obOf (orun g0 false 60 L61.b.b.b (U61 f o a b) []) = (rng64 (Int.ofNat a.succ) && true) from by kernel_rfl)]
  simp [rng64]
  omega
theorem m61a {f o : Nat → Bool} {a b : Nat} : Exec PP T none x61.nt 0 M61.a (U61 f o a b) .n (Q61 f o a b) := by
  refine exec_orun env0 false 60 [] [0, 1, 2] (fun _ => rfl) (by kernel_rfl) (by kernel_rfl) (by kernel_rfl) (by kernel_rfl)
theorem m61b {f o : Nat → Bool} {a b : Nat} (h : b < 7) : Exec PP T none x61.nt 0 M61.b.a (Q61 f o a b) .n (U61 f o a b) := by
  refine exec_orun env0 false 60 [true] [0, 1, 2] (fun _ => rfl) (by kernel_rfl) (by kernel_rfl) (by kernel_rfl) ?_
  rw [(show obOf (orun g0 false 60 M61.b.a (Q61 f o a b) [true]) = (decide (Int.ofNat b < 7) && true) from by kernel_rfl)]
  simp
  omega
theorem m61x {f o : Nat → Bool} {a : Nat} : Exec PP T none x61.nt 0 M61.b.a (Q61 f o a 7) (.x 2) (U61 f o a 7) := by
  refine exec_orun env0 false 60 [false] [0, 1, 2] (fun _ => rfl) (by kernel_rfl) (by kernel_rfl) (by kernel_rfl) (by kernel_rfl)
theorem m61y {f o : Nat → Bool} {a b : Nat} (ha : a < 7) (hb : b < 7) : Exec PP T none x61.nt 0 M61.b.b.a.i (U61 f o a b) .n (U61 f (tS f o a b) a b) := by
  refine exec_orun env0 false 60 [] [0, 1, 2] (fun _ => rfl) (by kernel_rfl) (by kernel_rfl) (by kernel_rfl) ?_
  rw [(show obOf (orun g0 false 60 M61.b.b.a.i (U61 f o a b) []) = (decide (0 ≤ Int.ofNat a) && decide (Int.ofNat a < 7) && (decide (0 ≤ Int.ofNat b) && decide (Int.ofNat b < 7) && (decide (0 + (0 + a * 7 + b * 1) < 49) && (decide (0 ≤ Int.ofNat b) && decide (Int.ofNat b < 7) && (decide (0 ≤ Int.ofNat a) && decide (Int.ofNat a < 7) && (decide (0 + (0 + b * 7 + a * 1) < 49) && true && true && true))))) && true) from by kernel_rfl)]
  simp
  omega
theorem m61e {f o : Nat → Bool} {a b : Nat} (h : b < 7) : Exec PP T none x61.nt 0 M61.b.b.b (U61 f o a b) .n (U61 f o a (b + 1)) := by
  refine exec_orun env0 false 60 [] [0, 1, 2] (fun _ => rfl) (by kernel_rfl) (by kernel_rfl) (by kernel_rfl) ?_
  rw [(show obOf (orun g0 false 60 M61.b.b.b (U61 f o a b) []) = (rng64 (Int.ofNat b.succ) && true) from by kernel_rfl)]
  simp [rng64]
  omega
theorem d61 {f o : Nat → Bool} : Exec PP T none x61.nt 0 x61.body.b.b.b (S61 f o 7) .r (mkSt [(2, g1S 0)] [⟨false, .row 70 [] 49 o⟩] 1 []) := by
  refine exec_orun env0 false 60 [] [1] (fun _ => rfl) (by kernel_rfl) (by kernel_rfl) (by kernel_rfl) (by kernel_rfl)
theorem l61 {f o : Nat → Bool} {a : Nat} (ha : a < 7) : Exec PP T none x61.nt 0 L61 (S61 f o a) .n (S61 f (trow f a o 7) (a + 1)) :=
  exec_seq (x := L61.a) (y := L61.b) l61a (exec_seq (x := L61.b.a) (y := L61.b.b) (l61b ha) (exec_seq (x := L61.b.b.a) (y := L61.b.b.b) (exec_block (id := 1) (x := L61.b.b.a.i) (e := .n) (exec_seq (x := L61.b.b.a.i.a) (y := L61.b.b.a.i.b) l61c (exec_seq (x := L61.b.b.a.i.b.a) (y := .block 2 (.loop M61)) l61d
    (exec_block (e := .x 2) (exec_loop_up (fun b => U61 f (trow f a o b) a b) 7 (fun b hb => exec_seq (x := M61.a) (y := M61.b) m61a (exec_seq (x := M61.b.a) (y := M61.b.b) (m61b hb) (exec_seq (x := M61.b.b.a) (y := M61.b.b.b) (exec_block (id := 3) (x := M61.b.b.a.i) (e := .n) (m61y ha hb)) (m61e hb)))) (exec_seq (x := M61.a) (y := M61.b) m61a (exec_seq_x (x := M61.b.a) (y := M61.b.b) m61x (by simp))) (by simp) 0 (by omega)))))) (l61e (b := 7) ha)))
theorem body61 {f : Nat → Bool} : Exec PP T none x61.nt 0 x61.body (startSt [.pb [] 49 f] []) .r (mkSt [(2, g1S 0)] [⟨false, .row 70 [] 49 (turnR f)⟩] 1 []) := by
  refine exec_seq (x := x61.body.a) (y := x61.body.b) a61 (exec_seq (x := x61.body.b.a) (y := x61.body.b.b) a61' (exec_seq (x := x61.body.b.b.a) (y := x61.body.b.b.b) (exec_seq (x := x61.body.b.b.a.a) (y := .block 0 (.loop L61)) b61 (exec_block (e := .x 0) ?_)) (d61 (f := f))))
  exact exec_loop_up (fun a => S61 f (tall f a) a) 7 (fun a ha => l61 ha) (exec_seq (x := L61.a) (y := L61.b) l61a (exec_seq_x (x := L61.b.a) (y := L61.b.b) l61x (by simp))) (by simp) 0 (by omega)
theorem ok61 : SpecOK PP (compC T) 61 (pureS (gRel fun f => .av (.pb [] 49 (turnR f)))) := by
  refine spec_pure tokP o61 fun ctx m h w args vals v rd base hH hargs hg => ?_
  unfold gRel at hg
  split at hg
  · rename_i fb
    simp only [Option.some.injEq, Prod.mk.injEq] at hg
    obtain ⟨_, rfl, rfl⟩ := hg
    match vals, hargs with
    | [v1], ⟨ha1, _⟩ =>
      exact ⟨emV, [], [.pb [] 49 fb], shown_valH (hs' := [⟨false, .row 70 [] 49 (turnR fb)⟩]) ro0 ⟨pb0_any ha1, trivial⟩ (by kernel_rfl) body61 (fun _ => rfl) (by kernel_rfl) (by kernel_rfl)⟩
  · cases hg
end Go.Proofs.Yteekkjfjpoaihaa.Eng
namespace Go.Proofs.Yteekkjfjpoaihaa.Eng
open Go Go.Proofs
theorem rng7 {x : Nat} (h : x < 7) : 0 ≤ Int.ofNat x ∧ Int.ofNat x < 7 := ⟨by simp, by simp; omega⟩
theorem take_succ {L : List (Nat × Nat)} {i : Nat} (hi : i < L.length) : L.take (i + 1) = L.take i ++ [L.getD i (0, 0)] := by
  rw [List.take_succ]
  simp [hi]
end Go.Proofs.Yteekkjfjpoaihaa.Eng
namespace Go.Proofs.Yteekkjfjpoaihaa.Eng
open Go Go.Proofs
theorem beq_pair {a b x y : Nat} : ((a, b) == (x, y)) = (Nat.beq a x && Nat.beq b y) := by
  rw [Bool.eq_iff_iff, Bool.and_eq_true, beq_iff_eq, Prod.mk.injEq]
  exact ⟨fun ⟨h1, h2⟩ => ⟨beqT h1, beqT h2⟩, fun ⟨h1, h2⟩ => ⟨Nat.eq_of_beq_eq_true h1, Nat.eq_of_beq_eq_true h2⟩⟩
theorem at7_relS7 {o : Nat → Bool} {a b x y : Nat} (ha : a < 7) (hb : b < 7) (hx : x < 7) (hy : y < 7) : at7 (relS o (Int.ofNat a) (Int.ofNat b)) x y = (at7 o x y || ((x, y) == (a, b))) := by
  rw [at7_relS (rng7 ha) (rng7 hb) hx hy]
  congr 1
  rw [beq_pair, Bool.eq_iff_iff]
  simp
  omega
end Go.Proofs.Yteekkjfjpoaihaa.Eng

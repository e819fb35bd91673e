/- Contracts by hand, part 10: order. -/
import Derived.Test.YteekkjfjpoaihaaGi
set_option linter.all false
namespace Go.Proofs.Yteekkjfjpoaihaa.Eng
open Go Go.Proofs

def L4 : List (Nat × Spec) := (51, pureS (gRel fun f => B (transB f))) :: L3
theorem L4_ok : SpecsL L4 := specsL_cons ok51 (pureS_fp (gRel_fp _)) o51 L3_ok
noncomputable abbrev g4 : Cal → Option Spec := specsΓ L4
theorem env4 : EnvOK PP T g4 := envL L4_ok

def L59 : XC := x59.body.b.b.b.a.b.i.i
abbrev G59 (q : List Int) (f : Nat → Bool) : List HO := [⟨true, .xvec .i64 2 q⟩, ⟨false, .row 70 [] 49 ff⟩, ⟨false, .row 70 [] 49 f⟩]
abbrev S59 (n : Int) (q : List Int) (m : Nat) (f : Nat → Bool) (i : Nat) : St := mkSt [(0, ⟨true, I n⟩), (1, sl0 m), (4, g1S 1), (5, ⟨true, I 0⟩), (6, g1S 2), (16, sl0 m), (17, ⟨true, I m⟩), (18, ⟨true, I i⟩)] (G59 q f) 3 []
abbrev P59 (n : Int) (q : List Int) (m : Nat) (f : Nat → Bool) (i : Nat) : St := mkSt [(0, ⟨true, I n⟩), (1, sl0 m), (4, g1S 1), (5, ⟨true, I 0⟩), (6, g1S 2), (16, sl0 m), (17, ⟨true, I m⟩), (18, ⟨true, I i⟩), (19, ⟨true, B (decide (Int.ofNat i < Int.ofNat m))⟩)] (G59 q f) 3 []
abbrev E59 (n : Int) (q : List Int) (m : Nat) (f : Nat → Bool) (i : Nat) (a b : Int) : St := mkSt [(0, ⟨true, I n⟩), (1, sl0 m), (4, g1S 1), (5, ⟨true, I 0⟩), (6, g1S 2), (7, ⟨true, I i⟩), (8, g1S 3), (16, sl0 m), (17, ⟨true, I m⟩), (18, ⟨true, I i⟩)] (G59 q f ++ [⟨false, .row 38 [.int .i64 a, .int .i64 b] 0 ff⟩]) 4 []

theorem e59a {n : Int} {q : List Int} {m i : Nat} {f : Nat → Bool} : Exec PP T none x59.nt 0 L59.a (S59 n q m f i) .n (P59 n q m f i) := by
  refine exec_orun env2 false 60 [] [0, 1, 2] (fun _ => rfl) (by kernel_rfl) (by kernel_rfl) (by kernel_rfl) (by kernel_rfl)
theorem e59b {n : Int} {q : List Int} {m i : Nat} {f : Nat → Bool} (hi : i < m) : Exec PP T none x59.nt 0 L59.b.a (P59 n q m f i) .n (S59 n q m f i) := by
  refine exec_orun env2 false 60 [true] [0, 1, 2] (fun _ => rfl) (by kernel_rfl) (by kernel_rfl) (by kernel_rfl) ?_
  rw [(show obOf (orun g2 false 60 L59.b.a (P59 n q m f i) [true]) = (decide (Int.ofNat i < Int.ofNat m) && true) from by kernel_rfl)]
  simp
  omega
theorem e59x {n : Int} {q : List Int} {m : Nat} {f : Nat → Bool} : Exec PP T none x59.nt 0 L59.b.a (P59 n q m f m) (.x 0) (S59 n q m f m) := by
  refine exec_orun env2 false 60 [false] [0, 1, 2] (fun _ => rfl) (by kernel_rfl) (by kernel_rfl) (by kernel_rfl) ?_
  rw [(show obOf (orun g2 false 60 L59.b.a (P59 n q m f m) [false]) = (!decide (Int.ofNat m < Int.ofNat m) && true) from by kernel_rfl)]
  simp
theorem e59d {n : Int} {q : List Int} {m i : Nat} {f : Nat → Bool} (hm : m ≤ 1000000000) (hi : i < m) : Exec PP T none x59.nt 0 L59.b.b.b (S59 n q m f i) .n (S59 n q m f (i + 1)) := by
  refine exec_orun env2 false 60 [] [0, 1, 2] (fun _ => rfl) (by kernel_rfl) (by kernel_rfl) (by kernel_rfl) ?_
  rw [(show obOf (orun g2 false 60 L59.b.b.b (S59 n q m f i) []) = (rng64 (Int.ofNat i.succ) && true) from by kernel_rfl)]
  simp [rng64]
  omega
theorem e59r {n : Int} {q : List Int} {m i : Nat} {f : Nat → Bool} (hq : q.length = m * 2) (hi : i < m) : Exec PP T none x59.nt 0 L59.b.b.a.i.a (S59 n q m f i) .n (E59 n q m f i (pa q i) (pb q i)) := by
  have e1 : pa q i = q.getD (0 + (0 + i) * 2 + 0) 0 := by unfold pa; congr 1; omega
  have e2 : pb q i = q.getD (0 + (0 + i) * 2 + 0 + 1) 0 := by unfold pb; congr 1; omega
  rw [e1, e2]
  refine exec_orun env2 false 60 [] [0, 1, 2, 3] (fun _ => rfl) (by kernel_rfl) (by kernel_rfl) (by kernel_rfl) ?_
  rw [(show obOf (orun g2 false 60 L59.b.b.a.i.a (S59 n q m f i) []) = (decide (0 ≤ Int.ofNat i) && decide (Int.ofNat i < Int.ofNat m) && (decide (((0 + (0 + i) * 2).add 0).succ.succ ≤ q.length) && (decide (0 = 0) && true && true && true))) from by kernel_rfl)]
  simp
  omega

def badD (n : Int) (q : List Int) (i : Nat) (a b : Int) : Bool := decide (min a b < 0) || decide (max a b ≥ n) || (a == b) || upB q i

theorem e59c {n : Int} {q : List Int} {m i : Nat} {f : Nat → Bool} {a b : Int} (hq : q.length = m * 2) (hi : i < m) (hm : m ≤ 1000000000) (ha : a = pa q i) (hbb : b = pb q i) (hb : badD n q i a b = false) : Exec PP T none x59.nt 0 L59.b.b.a.i.b.a (E59 n q m f i a b) .n (E59 n q m f i a b) := by
  refine exec_orun env3 false 60 [false] [0, 1, 2, 3] (fun _ => rfl) (by kernel_rfl) (by kernel_rfl) (by kernel_rfl) ?_
  rw [(show obOf (orun g3 false 60 L59.b.b.a.i.b.a (E59 n q m f i a b) [false]) = (decide (0 ≤ 0) && decide (0 < 2) && (decide (0 ≤ 1) && decide (1 < 2) && ((!decide (min a b < 0) == false || decide (0 ≤ 0) && decide (0 < 2)) && ((!decide (min a b < 0) == false || decide (min a b < 0) == false && true && true) && ((!decide (min a b < 0) == false || decide (0 ≤ 1) && decide (1 < 2)) && ((!decide (min a b < 0) == false || decide (min a b < 0) == false && true && true) && ((!decide (min a b < 0) == false || decide (min a b < 0) == false && (decide (min a b < 0) == false && true) && true) && ((!decide (min a b < 0) == false || true) && ((!decide (min a b < 0) == false || decide (min a b < 0) == false && (decide (min a b < 0) == false && true) && true) && ((bif decide (min a b < 0) then true else decide (min a b < 0) == false) && true && ((!(bif decide (min a b < 0) then true else decide (max a b ≥ n)) == false || decide (0 ≤ 0) && decide (0 < 2)) && ((!(bif decide (min a b < 0) then true else decide (max a b ≥ n)) == false || (bif decide (min a b < 0) then true else decide (max a b ≥ n)) == false && true && true) && ((!(bif decide (min a b < 0) then true else decide (max a b ≥ n)) == false || decide (0 ≤ 1) && decide (1 < 2)) && ((!(bif decide (min a b < 0) then true else decide (max a b ≥ n)) == false || (bif decide (min a b < 0) then true else decide (max a b ≥ n)) == false && true && true) && ((!(bif decide (min a b < 0) then true else decide (max a b ≥ n)) == false || (bif decide (min a b < 0) then true else decide (max a b ≥ n)) == false && ((bif decide (min a b < 0) then true else decide (max a b ≥ n)) == false && true) && true) && ((bif bif decide (min a b < 0) then true else decide (max a b ≥ n) then true else (bif decide (min a b < 0) then true else decide (max a b ≥ n)) == false) && true && ((!(bif bif decide (min a b < 0) then true else decide (max a b ≥ n) then true else a == b) == false || true) && ((!(bif bif decide (min a b < 0) then true else decide (max a b ≥ n) then true else a == b) == false || (bif bif decide (min a b < 0) then true else decide (max a b ≥ n) then true else a == b) == false && true && true) && ((!(bif bif decide (min a b < 0) then true else decide (max a b ≥ n) then true else a == b) == false || (bif bif decide (min a b < 0) then true else decide (max a b ≥ n) then true else a == b) == false && true && true) && ((!((bif bif decide (min a b < 0) then true else decide (max a b ≥ n) then true else a == b) == false && decide (Int.ofNat i > 0) == true) || true) && ((!((bif bif decide (min a b < 0) then true else decide (max a b ≥ n) then true else a == b) == false && decide (Int.ofNat i > 0) == true) || true) && ((!((bif bif decide (min a b < 0) then true else decide (max a b ≥ n) then true else a == b) == false && decide (Int.ofNat i > 0) == true) || (bif bif decide (min a b < 0) then true else decide (max a b ≥ n) then true else a == b) == false && decide (Int.ofNat i > 0) == true && true && rng64 (Int.ofNat i - 1)) && ((!((bif bif decide (min a b < 0) then true else decide (max a b ≥ n) then true else a == b) == false && decide (Int.ofNat i > 0) == true) || (bif bif decide (min a b < 0) then true else decide (max a b ≥ n) then true else a == b) == false && decide (Int.ofNat i > 0) == true && ((bif bif decide (min a b < 0) then true else decide (max a b ≥ n) then true else a == b) == false && decide (Int.ofNat i > 0) == true && true) && (decide (0 ≤ Int.ofNat i - 1) && decide (Int.ofNat i - 1 < Int.ofNat m))) && ((!((bif bif decide (min a b < 0) then true else decide (max a b ≥ n) then true else a == b) == false && decide (Int.ofNat i > 0) == true) || (bif bif decide (min a b < 0) then true else decide (max a b ≥ n) then true else a == b) == false && decide (Int.ofNat i > 0) == true && true && true) && ((!((bif bif decide (min a b < 0) then true else decide (max a b ≥ n) then true else a == b) == false && decide (Int.ofNat i > 0) == true) || true) && ((!((bif bif decide (min a b < 0) then true else decide (max a b ≥ n) then true else a == b) == false && decide (Int.ofNat i > 0) == true) || (bif bif decide (min a b < 0) then true else decide (max a b ≥ n) then true else a == b) == false && decide (Int.ofNat i > 0) == true && ((bif bif decide (min a b < 0) then true else decide (max a b ≥ n) then true else a == b) == false && decide (Int.ofNat i > 0) == true && true) && (decide (((0 + (0 + (Int.ofNat i - 1).toNat) * 2).add 0).succ.succ ≤ q.length) && decide (2 ≤ Nat.succ 1))) && ((!((bif bif decide (min a b < 0) then true else decide (max a b ≥ n) then true else a == b) == false && decide (Int.ofNat i > 0) == true) || (bif bif decide (min a b < 0) then true else decide (max a b ≥ n) then true else a == b) == false && decide (Int.ofNat i > 0) == true && true && true) && ((!(bif bif decide (min a b < 0) then true else decide (max a b ≥ n) then true else a == b) == false || ((bif bif decide (min a b < 0) then true else decide (max a b ≥ n) then true else a == b) == false && bif decide (Int.ofNat i > 0) then (bif bif decide (min a b < 0) then true else decide (max a b ≥ n) then true else a == b) == false && decide (Int.ofNat i > 0) == true else true) && true) && ((bif bif bif decide (min a b < 0) then true else decide (max a b ≥ n) then true else a == b then true else (bif bif decide (min a b < 0) then true else decide (max a b ≥ n) then true else a == b) == false) && true && true)))))))))))))))))))))))))))) && true && ((!bif bif bif decide (min a b < 0) then true else decide (max a b ≥ n) then true else a == b then true else bif decide (Int.ofNat i > 0) then decide (cmp2 ((List.take 2 (List.drop (0 + (0 + (Int.ofNat i - 1).toNat) * 2) q)).getD 0 0) ((List.take 2 (List.drop (0 + (0 + (Int.ofNat i - 1).toNat) * 2) q)).getD 1 0) a b ≥ 0) else false) && true)) from by kernel_rfl)]
  simp only [badD, Bool.or_eq_false_iff] at hb
  obtain ⟨⟨⟨h0, h1⟩, h2⟩, h3⟩ := hb
  simp only [h0, h1, h2]
  cases i with
  | zero => simp
  | succ j =>
    have e1 : (Int.ofNat (j + 1) - 1).toNat = j := by simp
    have e2 : Int.ofNat (j + 1) - 1 = (j : Int) := by simp
    have e3 : rng64 (j : Int) = true := by rw [rng64_eq]; simp; omega
    simp [upB, pa, pb, Nat.mul_comm 2] at h3
    simp [e1, e2, e3, cmp2_less]
    rw [ha, hbb]
    simp [pa, pb, Nat.mul_comm 2]
    exact ⟨by omega, h3⟩
abbrev Z59 (f : Nat → Bool) (e : Int) : St := mkSt [(4, g1S 0), (5, ⟨true, I e⟩)] [⟨false, .row 70 [] 49 f⟩] 1 []
theorem e59e {n : Int} {q : List Int} {m i : Nat} {f : Nat → Bool} {a b : Int} (hq : q.length = m * 2) (hi : i < m) (hm : m ≤ 1000000000) (ha : a = pa q i) (hbb : b = pb q i) (hb : badD n q i a b = true) : Exec PP T none x59.nt 0 L59.b.b.a.i.b.a (E59 n q m f i a b) .r (Z59 f 30) := by
  refine exec_orun env3 false 60 [true] [1] (fun _ => rfl) (by kernel_rfl) (by kernel_rfl) (by kernel_rfl) ?_
  rw [(show obOf (orun g3 false 60 L59.b.b.a.i.b.a (E59 n q m f i a b) [true]) = (decide (0 ≤ 0) && decide (0 < 2) && (decide (0 ≤ 1) && decide (1 < 2) && ((!decide (min a b < 0) == false || decide (0 ≤ 0) && decide (0 < 2)) && ((!decide (min a b < 0) == false || decide (min a b < 0) == false && true && true) && ((!decide (min a b < 0) == false || decide (0 ≤ 1) && decide (1 < 2)) && ((!decide (min a b < 0) == false || decide (min a b < 0) == false && true && true) && ((!decide (min a b < 0) == false || decide (min a b < 0) == false && (decide (min a b < 0) == false && true) && true) && ((!decide (min a b < 0) == false || true) && ((!decide (min a b < 0) == false || decide (min a b < 0) == false && (decide (min a b < 0) == false && true) && true) && ((bif decide (min a b < 0) then true else decide (min a b < 0) == false) && true && ((!(bif decide (min a b < 0) then true else decide (max a b ≥ n)) == false || decide (0 ≤ 0) && decide (0 < 2)) && ((!(bif decide (min a b < 0) then true else decide (max a b ≥ n)) == false || (bif decide (min a b < 0) then true else decide (max a b ≥ n)) == false && true && true) && ((!(bif decide (min a b < 0) then true else decide (max a b ≥ n)) == false || decide (0 ≤ 1) && decide (1 < 2)) && ((!(bif decide (min a b < 0) then true else decide (max a b ≥ n)) == false || (bif decide (min a b < 0) then true else decide (max a b ≥ n)) == false && true && true) && ((!(bif decide (min a b < 0) then true else decide (max a b ≥ n)) == false || (bif decide (min a b < 0) then true else decide (max a b ≥ n)) == false && ((bif decide (min a b < 0) then true else decide (max a b ≥ n)) == false && true) && true) && ((bif bif decide (min a b < 0) then true else decide (max a b ≥ n) then true else (bif decide (min a b < 0) then true else decide (max a b ≥ n)) == false) && true && ((!(bif bif decide (min a b < 0) then true else decide (max a b ≥ n) then true else a == b) == false || true) && ((!(bif bif decide (min a b < 0) then true else decide (max a b ≥ n) then true else a == b) == false || (bif bif decide (min a b < 0) then true else decide (max a b ≥ n) then true else a == b) == false && true && true) && ((!(bif bif decide (min a b < 0) then true else decide (max a b ≥ n) then true else a == b) == false || (bif bif decide (min a b < 0) then true else decide (max a b ≥ n) then true else a == b) == false && true && true) && ((!((bif bif decide (min a b < 0) then true else decide (max a b ≥ n) then true else a == b) == false && decide (Int.ofNat i > 0) == true) || true) && ((!((bif bif decide (min a b < 0) then true else decide (max a b ≥ n) then true else a == b) == false && decide (Int.ofNat i > 0) == true) || true) && ((!((bif bif decide (min a b < 0) then true else decide (max a b ≥ n) then true else a == b) == false && decide (Int.ofNat i > 0) == true) || (bif bif decide (min a b < 0) then true else decide (max a b ≥ n) then true else a == b) == false && decide (Int.ofNat i > 0) == true && true && rng64 (Int.ofNat i - 1)) && ((!((bif bif decide (min a b < 0) then true else decide (max a b ≥ n) then true else a == b) == false && decide (Int.ofNat i > 0) == true) || (bif bif decide (min a b < 0) then true else decide (max a b ≥ n) then true else a == b) == false && decide (Int.ofNat i > 0) == true && ((bif bif decide (min a b < 0) then true else decide (max a b ≥ n) then true else a == b) == false && decide (Int.ofNat i > 0) == true && true) && (decide (0 ≤ Int.ofNat i - 1) && decide (Int.ofNat i - 1 < Int.ofNat m))) && ((!((bif bif decide (min a b < 0) then true else decide (max a b ≥ n) then true else a == b) == false && decide (Int.ofNat i > 0) == true) || (bif bif decide (min a b < 0) then true else decide (max a b ≥ n) then true else a == b) == false && decide (Int.ofNat i > 0) == true && true && true) && ((!((bif bif decide (min a b < 0) then true else decide (max a b ≥ n) then true else a == b) == false && decide (Int.ofNat i > 0) == true) || true) && ((!((bif bif decide (min a b < 0) then true else decide (max a b ≥ n) then true else a == b) == false && decide (Int.ofNat i > 0) == true) || (bif bif decide (min a b < 0) then true else decide (max a b ≥ n) then true else a == b) == false && decide (Int.ofNat i > 0) == true && ((bif bif decide (min a b < 0) then true else decide (max a b ≥ n) then true else a == b) == false && decide (Int.ofNat i > 0) == true && true) && (decide (((0 + (0 + (Int.ofNat i - 1).toNat) * 2).add 0).succ.succ ≤ q.length) && decide (2 ≤ Nat.succ 1))) && ((!((bif bif decide (min a b < 0) then true else decide (max a b ≥ n) then true else a == b) == false && decide (Int.ofNat i > 0) == true) || (bif bif decide (min a b < 0) then true else decide (max a b ≥ n) then true else a == b) == false && decide (Int.ofNat i > 0) == true && true && true) && ((!(bif bif decide (min a b < 0) then true else decide (max a b ≥ n) then true else a == b) == false || ((bif bif decide (min a b < 0) then true else decide (max a b ≥ n) then true else a == b) == false && bif decide (Int.ofNat i > 0) then (bif bif decide (min a b < 0) then true else decide (max a b ≥ n) then true else a == b) == false && decide (Int.ofNat i > 0) == true else true) && true) && ((bif bif bif decide (min a b < 0) then true else decide (max a b ≥ n) then true else a == b then true else (bif bif decide (min a b < 0) then true else decide (max a b ≥ n) then true else a == b) == false) && true && true)))))))))))))))))))))))))))) && true && ((bif bif bif decide (min a b < 0) then true else decide (max a b ≥ n) then true else a == b then true else bif decide (Int.ofNat i > 0) then decide (cmp2 ((List.take 2 (List.drop (0 + (0 + (Int.ofNat i - 1).toNat) * 2) q)).getD 0 0) ((List.take 2 (List.drop (0 + (0 + (Int.ofNat i - 1).toNat) * 2) q)).getD 1 0) a b ≥ 0) else false) && (decide (0 = 0) && (decide (0 = 0) && true && true && true) && true))) from by kernel_rfl)]
  cases h0 : decide (min a b < 0) with
  | true => simp
  | false =>
  cases h1 : decide (max a b ≥ n) with
  | true => simp
  | false =>
  cases h2 : (a == b) with
  | true => simp
  | false =>
    simp only [badD, h0, h1, h2, Bool.false_or] at hb
    cases i with
    | zero => simp [upB] at hb
    | succ j =>
      have e1 : (Int.ofNat (j + 1) - 1).toNat = j := by simp
      have e2 : Int.ofNat (j + 1) - 1 = (j : Int) := by simp
      have e3 : rng64 (j : Int) = true := by rw [rng64_eq]; simp; omega
      simp [upB, pa, pb, Nat.mul_comm 2] at hb
      simp [e1, e2, e3, cmp2_less]
      rw [ha, hbb]
      simp [pa, pb, Nat.mul_comm 2]
      exact ⟨by omega, hb⟩

def relS (f : Nat → Bool) (a b : Int) : Nat → Bool := fun j => bif j.beq (0 - ([] : List SV).length + (0 + a.toNat * 7 + b.toNat * 1)) then true else f j

theorem e59s {n : Int} {q : List Int} {m i : Nat} {f : Nat → Bool} {a b : Int} (h0 : 0 ≤ a) (h1 : a < 7) (h2 : 0 ≤ b) (h3 : b < 7) : Exec PP T none x59.nt 0 L59.b.b.a.i.b.b (E59 n q m f i a b) .n (S59 n q m (relS f a b) i) := by
  refine exec_orun env2 false 60 [] [0, 1, 2] (fun _ => rfl) (by kernel_rfl) (by kernel_rfl) (by kernel_rfl) ?_
  rw [(show obOf (orun g2 false 60 L59.b.b.a.i.b.b (E59 n q m f i a b) []) = (decide (0 ≤ 0) && decide (0 < 2) && (decide (0 ≤ 1) && decide (1 < 2) && (decide (0 ≤ a) && decide (a < 7) && (decide (0 ≤ b) && decide (b < 7) && (decide (0 + (0 + a.toNat * 7 + b.toNat * 1) < 49) && true && true && true)))) && true) from by kernel_rfl)]
  simp
  omega

def relF (q : List Int) : Nat → Nat → Bool
  | 0 => ff
  | i + 1 => relS (relF q i) (pa q i) (pb q i)

def badO (n : Int) (q : List Int) (i : Nat) : Bool := badD n q i (pa q i) (pb q i)

theorem badO_rng {n : Int} {q : List Int} {i : Nat} (hn : (decide (n < 1) || decide (n > 7)) = false) (hb : badO n q i = false) : (0 ≤ pa q i ∧ pa q i < 7) ∧ 0 ≤ pb q i ∧ pb q i < 7 := by
  simp [badO, badD] at hb hn
  omega

theorem s59 {n : Int} {q : List Int} {m i : Nat} (hn : (decide (n < 1) || decide (n > 7)) = false) (hq : q.length = m * 2) (hi : i < m) (hm : m ≤ 1000000000) (hb : badO n q i = false) : Exec PP T none x59.nt 0 L59 (S59 n q m (relF q i) i) .n (S59 n q m (relF q (i + 1)) (i + 1)) := by
  obtain ⟨⟨h0, h1⟩, h2, h3⟩ := badO_rng hn hb
  exact exec_seq (x := L59.a) (y := L59.b) e59a (exec_seq (x := L59.b.a) (y := L59.b.b) (e59b hi) (exec_seq (x := L59.b.b.a) (y := L59.b.b.b) (exec_block (id := 1) (x := L59.b.b.a.i) (e := .n) (exec_seq (x := L59.b.b.a.i.a) (y := L59.b.b.a.i.b) (e59r hq hi) (exec_seq (x := L59.b.b.a.i.b.a) (y := L59.b.b.a.i.b.b) (e59c hq hi hm rfl rfl hb) (e59s h0 h1 h2 h3)))) (e59d hm hi)))

theorem s59r {n : Int} {q : List Int} {m i : Nat} {f : Nat → Bool} (hq : q.length = m * 2) (hi : i < m) (hm : m ≤ 1000000000) (hb : badO n q i = true) : Exec PP T none x59.nt 0 L59 (S59 n q m f i) .r (Z59 f 30) := by
  exact exec_seq (x := L59.a) (y := L59.b) e59a (exec_seq (x := L59.b.a) (y := L59.b.b) (e59b hi) (exec_seq_x (x := L59.b.b.a) (y := L59.b.b.b) (exec_block (id := 1) (x := L59.b.b.a.i) (e := .r) (exec_seq (x := L59.b.b.a.i.a) (y := L59.b.b.a.i.b) (e59r hq hi) (exec_seq_x (x := L59.b.b.a.i.b.a) (y := L59.b.b.a.i.b.b) (e59e hq hi hm rfl rfl hb) (by simp)))) (by simp)))

theorem s59x {n : Int} {q : List Int} {m : Nat} {f : Nat → Bool} : Exec PP T none x59.nt 0 L59 (S59 n q m f m) (.x 0) (S59 n q m f m) :=
  exec_seq (x := L59.a) (y := L59.b) e59a (exec_seq_x (x := L59.b.a) (y := L59.b.b) e59x (by simp))

abbrev M59 (n : Int) (q : List Int) (m : Nat) : St := mkSt [(0, ⟨true, I n⟩), (1, sl0 m), (4, g1S 1), (5, ⟨true, I 0⟩)] [⟨true, .xvec .i64 2 q⟩, ⟨false, .row 70 [] 49 ff⟩] 2 []
abbrev M59' (n : Int) (q : List Int) (m : Nat) : St := mkSt [(0, ⟨true, I n⟩), (1, sl0 m), (4, g1S 1), (5, ⟨true, I 0⟩), (6, g1S 2)] (G59 q ff) 3 []
theorem a59 {n : Int} {q : List Int} {m : Nat} : Exec PP T none x59.nt 0 x59.body.a (startSt (A40 n m) (H1 q)) .n (M59 n q m) := by
  refine exec_orun env2 false 60 [] [0, 1] (fun _ => rfl) (by kernel_rfl) (by kernel_rfl) (by kernel_rfl) (by kernel_rfl)
theorem a59' {n : Int} {q : List Int} {m : Nat} : Exec PP T none x59.nt 0 x59.body.b.a (M59 n q m) .n (M59' n q m) := by
  refine exec_orun env2 false 60 [] [0, 1, 2] (fun _ => rfl) (by kernel_rfl) (by kernel_rfl) (by kernel_rfl) (by kernel_rfl)
theorem b59r {n : Int} {q : List Int} {m : Nat} (h : (decide (n < 1) || decide (n > 7)) = true) : Exec PP T none x59.nt 0 x59.body.b.b.a (M59' n q m) .r (Z59 ff 1) := by
  refine exec_orun env2 false 60 [true] [1] (fun _ => rfl) (by kernel_rfl) (by kernel_rfl) (by kernel_rfl) ?_
  rw [(show obOf (orun g2 false 60 x59.body.b.b.a (M59' n q m) [true]) = ((!decide (n < 1) == false || true) && ((!decide (n < 1) == false || decide (n < 1) == false && true && true) && ((bif decide (n < 1) then true else decide (n < 1) == false) && true && true)) && ((bif decide (n < 1) then true else decide (n > 7)) && (decide (0 = 0) && (decide (0 = 0) && true && true && true) && true))) from by kernel_rfl)]
  cases h0 : decide (n < 1) with
  | true => simp
  | false => rw [h0, Bool.false_or] at h; simp [h]
theorem b59 {n : Int} {q : List Int} {m : Nat} (h : (decide (n < 1) || decide (n > 7)) = false) : Exec PP T none x59.nt 0 x59.body.b.b.a (M59' n q m) .n (M59' n q m) := by
  refine exec_orun env2 false 60 [false] [0, 1, 2] (fun _ => rfl) (by kernel_rfl) (by kernel_rfl) (by kernel_rfl) ?_
  rw [(show obOf (orun g2 false 60 x59.body.b.b.a (M59' n q m) [false]) = ((!decide (n < 1) == false || true) && ((!decide (n < 1) == false || decide (n < 1) == false && true && true) && ((bif decide (n < 1) then true else decide (n < 1) == false) && true && true)) && ((!bif decide (n < 1) then true else decide (n > 7)) && true)) from by kernel_rfl)]
  rw [Bool.or_eq_false_iff] at h
  simp [h.1, h.2]
theorem c59i {n : Int} {q : List Int} {m : Nat} : Exec PP T none x59.nt 0 x59.body.b.b.b.a.a (M59' n q m) .n (S59 n q m ff 0) := by
  refine exec_orun env2 false 60 [] [0, 1, 2] (fun _ => rfl) (by kernel_rfl) (by kernel_rfl) (by kernel_rfl) (by kernel_rfl)
theorem d59 {n : Int} {q : List Int} {m : Nat} {f : Nat → Bool} (h : transB f = true) : Exec PP T none x59.nt 0 x59.body.b.b.b.b (S59 n q m f m) .r (Z59 f 0) := by
  refine exec_orun env4 false 60 [false] [1] (fun _ => rfl) (by kernel_rfl) (by kernel_rfl) (by kernel_rfl) ?_
  rw [(show obOf (orun g4 false 60 x59.body.b.b.b.b (S59 n q m f m) [false]) = (decide (0 = 0) && true && (!!transB f && true) && (decide (0 = 0) && (decide (0 = 0) && true && true && true) && true)) from by kernel_rfl)]
  simp [h]
theorem d59r {n : Int} {q : List Int} {m : Nat} {f : Nat → Bool} (h : transB f = false) : Exec PP T none x59.nt 0 x59.body.b.b.b.b (S59 n q m f m) .r (Z59 f 30) := by
  refine exec_orun env4 false 60 [true] [1] (fun _ => rfl) (by kernel_rfl) (by kernel_rfl) (by kernel_rfl) ?_
  rw [(show obOf (orun g4 false 60 x59.body.b.b.b.b (S59 n q m f m) [true]) = (decide (0 = 0) && true && (!transB f && (decide (0 = 0) && (decide (0 = 0) && true && true && true) && true))) from by kernel_rfl)]
  simp [h]

/-- where the pairs stop being good -/
def stopO (n : Int) (q : List Int) (m : Nat) : Nat := ((List.range m).find? (badO n q)).getD m
theorem find_first {f : Nat → Bool} {m p : Nat} (h1 : p < m) (h2 : f p = true) (h3 : ∀ i, i < p → f i = false) : ((List.range m).find? f).getD m = p := by
  rw [List.find?_range_eq_some (i := p) |>.2 ⟨h2, by simpa using h1, fun j hj => by simp [h3 j hj]⟩]
  rfl
theorem find_none {f : Nat → Bool} {m : Nat} (h3 : ∀ i, i < m → f i = false) : ((List.range m).find? f).getD m = m := by
  rw [List.find?_range_eq_none.2 fun j hj => by simp [h3 j hj]]
  rfl
def orderE (n : Int) (q : List Int) (m : Nat) : Int := bif decide (n < 1) || decide (n > 7) then 1 else bif (List.range m).any (badO n q) then 30 else bif transB (relF q m) then 0 else 30
def orderF (n : Int) (q : List Int) (m : Nat) : Nat → Bool := bif decide (n < 1) || decide (n > 7) then ff else relF q (stopO n q m)

theorem body59 {n : Int} {q : List Int} {m : Nat} (hq : q.length = m * 2) (hm : m ≤ 1000000000) : Exec PP T none x59.nt 0 x59.body (startSt (A40 n m) (H1 q)) .r (Z59 (orderF n q m) (orderE n q m)) := by
  refine exec_seq (x := x59.body.a) (y := x59.body.b) a59 (exec_seq (x := x59.body.b.a) (y := x59.body.b.b) a59' ?_)
  unfold orderF orderE
  cases h : (decide (n < 1) || decide (n > 7)) with
  | true => exact exec_seq_x (x := x59.body.b.b.a) (y := x59.body.b.b.b) (b59r h) (by simp)
  | false =>
    refine exec_seq (x := x59.body.b.b.a) (y := x59.body.b.b.b) (b59 h) ?_
    simp only [cond_false]
    cases hh : (List.range m).any (badO n q) with
    | true =>
      obtain ⟨p, h1, h2, h3⟩ := any_first _ _ hh
      unfold stopO
      rw [find_first h1 h2 h3]
      exact exec_seq_x (x := x59.body.b.b.b.a) (y := x59.body.b.b.b.b) (exec_seq (x := x59.body.b.b.b.a.a) (y := .block 0 (.loop L59)) c59i (exec_block (e := .r) (exec_loop_up (fun i => S59 n q m (relF q i) i) p (fun i hi => s59 h hq (by omega) hm (h3 i hi)) (s59r hq h1 hm h2) (by simp) 0 (by omega)))) (by simp)
    | false =>
      have h3 := any_none _ _ hh
      unfold stopO
      rw [find_none h3, cond_false]
      refine exec_seq (x := x59.body.b.b.b.a) (y := x59.body.b.b.b.b) (exec_seq (x := x59.body.b.b.b.a.a) (y := .block 0 (.loop L59)) c59i (exec_block (e := .x 0) (exec_loop_up (fun i => S59 n q m (relF q i) i) m (fun i hi => s59 h hq hi hm (h3 i hi)) s59x (by simp) 0 (by omega)))) ?_
      cases ht : transB (relF q m) with
      | true => exact d59 ht
      | false => exact d59r ht

/-- values that are read from a cell of one's own at the end -/
theorem shown_valH {P : Program} {T : Tab} {x : XFn} {m0 : MM} {hs : List HO} {args0 : List AV} {vals : List Value} {w : World} {val : TV} {base : Nat} {ts : List (Nat × Slot)} {hs' : List HO} {nx : Nat} {ex : XE} (hview : RoView (compC T) m0 hs w) (hargs : All2 (AR m0) args0 vals) (hlen : Nat.ble args0.length x.nt = true)
    (hrun : Exec P T none x.nt 0 x.body (startSt args0 hs) ex (mkSt ts hs' nx [])) (hex : ex ≠ .n → ex = .r) (hres : resV (mkSt ts hs' nx []).sl.get (mkSt ts hs' nx []).hp.get x.res = some (true, val)) (hids : val.ids = []) : Shown P T x m0 hs args0 vals w val [] base where
  view := hview
  args := hargs
  len := Nat.le_of_ble_eq_true hlen
  run := ⟨mkSt ts hs' nx [], ex, val, [], hrun, by by_cases h : ex = .n; exact .inl h; exact .inr (hex h), rfl, hres, rfl, fun j hj => (by rw [hids] at hj; cases hj), (TV.ren_id fun j hj => (by rw [hids] at hj; cases hj)).symm, rfl, fun k id h => (by simp at h)⟩

theorem intPairsH_ok {f : FuncId} {x : XFn} (hx : FunOK PP T f x) (k : Nat) (c : Int → List Int → Nat → Bool) (t : Int → List Int → Nat → List (Nat × Slot)) (hs' : Int → List Int → Nat → List HO) (nx : Nat) (v : Int → List Int → Nat → TV) (hlen : Nat.ble (k + 2) x.nt = true) (hb : ∀ n q m, q.length = m * 2 → m ≤ 1000000000 → c n q m = true → Exec PP T none x.nt 0 x.body (startSt (A40 n m ++ List.replicate k (.s .any)) (H1 q)) .r (mkSt (t n q m) (hs' n q m) nx []))
    (hres : ∀ n q m, resV (mkSt (t n q m) (hs' n q m) nx []).sl.get (mkSt (t n q m) (hs' n q m) nx []).hp.get x.res = some (true, v n q m)) (hids : ∀ n q m, (v n q m).ids = []) : SpecOK PP (compC T) f (pureS (intPairsX k c v)) := by
  refine spec_pure tokP hx fun ctx m h w args vals u rd base hH hargs hg => ?_
  unfold intPairsX at hg
  split at hg
  · rename_i n s rest
    cases hk : Nat.beq rest.length k with
    | false => rw [hk] at hg; cases hg
    | true =>
      rw [hk, cond_true] at hg
      have hk := Nat.eq_of_beq_eq_true hk
      subst hk
      split at hg
      · rename_i vc q m' rd' hs
        simp only [Option.some.injEq, Prod.mk.injEq, Bool.and_eq_true] at hg
        obtain ⟨⟨rfl, hm, hc⟩, rfl, rfl⟩ := hg
        match vals, hargs with
        | v1 :: v2 :: vr, ⟨ha1, ha2, har⟩ =>
          obtain ⟨mb, k1, k2, k3, k4⟩ := view_slice hH ha2 hs
          have hall : All2 (AR (mm1 mb)) (.s (.int .i64 n) :: .s (.sl 0 0 2 m') :: List.replicate rest.length (.s .any)) (v1 :: v2 :: vr) := ⟨ha1, k3 (mm1 mb) 0 rfl, all2_any har⟩
          exact ⟨mm1 mb, H1 q, A40 n m' ++ List.replicate rest.length (.s .any), shown_valH (ro1 k1 k2) hall (by simpa using hlen) (hb n q m' k4 (by simpa [bndL] using hm) hc) (fun _ => rfl) (hres n q m') (hids n q m')⟩
      · cases hg
  · cases hg

abbrev orderR (n : Int) (q : List Int) (m : Nat) : TV := .tup [.pb [] 49 (orderF n q m), .s (.int .i64 (orderE n q m))]
def anyC (_ : Int) (_ : List Int) (_ : Nat) : Bool := true
theorem ok59 : SpecOK PP (compC T) 59 (pureS (intPairsX 0 anyC orderR)) :=
  intPairsH_ok o59 0 anyC (fun n q m => [(4, g1S 0), (5, ⟨true, I (orderE n q m)⟩)]) (fun n q m => [⟨false, .row 70 [] 49 (orderF n q m)⟩]) 1 _ (by kernel_rfl) (fun n q m hq hm _ => body59 hq hm) (fun n q m => by kernel_rfl) (fun n q m => by kernel_rfl)

end Go.Proofs.Yteekkjfjpoaihaa.Eng

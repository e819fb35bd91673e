/- Contracts by hand, part 8: open. -/
import Derived.Test.YteekkjfjpoaihaaGg
set_option linter.all false
namespace Go.Proofs.Yteekkjfjpoaihaa.Eng
open Go Go.Proofs

theorem cmp2_less (a b c d : Int) : decide (cmp2 a b c d ≥ 0) = !(lessP a b c d) := by
  unfold cmp2 lessP cmpI
  by_cases h1 : a < c
  · simp [h1]
  · by_cases h2 : a = c
    · subst h2
      by_cases h3 : b < d
      · simp [h3]
      · by_cases h4 : b = d
        · subst h4; simp
        · have : d < b := by omega
          simp [h3, this]
    · have : c < a := by omega
      simp [h1, h2, this]

def L3 : List (Nat × Spec) := (93, pureS gCompare) :: L2
theorem L3_ok : SpecsL L3 := specsL_cons ok93 (pureS_fp gCompare_fp) o93 L2_ok
noncomputable abbrev g3 : Cal → Option Spec := specsΓ L3
theorem env3 : EnvOK PP T g3 := envL L3_ok

def L48 : XC := x48.body.b.b.b.a.b.i.i
abbrev g1S (k : Nat) : Slot := ⟨true, .av (.s (.ptr k 0 0))⟩
abbrev G48 (n : Int) (q : List Int) (f : Nat → Bool) : List HO := [⟨true, .xvec .i64 2 q⟩, ⟨false, .row 115 [.int .i64 n] 49 f⟩]
abbrev S48 (n : Int) (q : List Int) (m : Nat) (f : Nat → Bool) (i : Nat) : St := mkSt [(0, ⟨true, I n⟩), (1, sl0 m), (6, g1S 1), (18, sl0 m), (19, ⟨true, I m⟩), (20, ⟨true, I i⟩)] (G48 n q f) 2 []
abbrev P48 (n : Int) (q : List Int) (m : Nat) (f : Nat → Bool) (i : Nat) : St := mkSt [(0, ⟨true, I n⟩), (1, sl0 m), (6, g1S 1), (18, sl0 m), (19, ⟨true, I m⟩), (20, ⟨true, I i⟩), (21, ⟨true, B (decide (Int.ofNat i < Int.ofNat m))⟩)] (G48 n q f) 2 []
abbrev E48 (n : Int) (q : List Int) (m : Nat) (f : Nat → Bool) (i : Nat) (a b : Int) : St := mkSt [(0, ⟨true, I n⟩), (1, sl0 m), (6, g1S 1), (7, ⟨true, I i⟩), (8, g1S 2), (18, sl0 m), (19, ⟨true, I m⟩), (20, ⟨true, I i⟩)] (G48 n q f ++ [⟨false, .row 38 [.int .i64 a, .int .i64 b] 0 ff⟩]) 3 []

theorem e48a {n : Int} {q : List Int} {m i : Nat} {f : Nat → Bool} : Exec PP T none x48.nt 0 L48.a (S48 n q m f i) .n (P48 n q m f i) := by
  refine exec_orun env2 false 60 [] [0, 1] (fun _ => rfl) (by kernel_rfl) (by kernel_rfl) (by kernel_rfl) (by kernel_rfl)
theorem e48b {n : Int} {q : List Int} {m i : Nat} {f : Nat → Bool} (hi : i < m) : Exec PP T none x48.nt 0 L48.b.a (P48 n q m f i) .n (S48 n q m f i) := by
  refine exec_orun env2 false 60 [true] [0, 1] (fun _ => rfl) (by kernel_rfl) (by kernel_rfl) (by kernel_rfl) ?_
  rw [(show obOf (orun g2 false 60 L48.b.a (P48 n q m f i) [true]) = (decide (Int.ofNat i < Int.ofNat m) && true) from by kernel_rfl)]
  simp
  omega
theorem e48x {n : Int} {q : List Int} {m : Nat} {f : Nat → Bool} : Exec PP T none x48.nt 0 L48.b.a (P48 n q m f m) (.x 0) (S48 n q m f m) := by
  refine exec_orun env2 false 60 [false] [0, 1] (fun _ => rfl) (by kernel_rfl) (by kernel_rfl) (by kernel_rfl) ?_
  rw [(show obOf (orun g2 false 60 L48.b.a (P48 n q m f m) [false]) = (!decide (Int.ofNat m < Int.ofNat m) && true) from by kernel_rfl)]
  simp
theorem e48d {n : Int} {q : List Int} {m i : Nat} {f : Nat → Bool} (hm : m ≤ 1000000000) (hi : i < m) : Exec PP T none x48.nt 0 L48.b.b.b (S48 n q m f i) .n (S48 n q m f (i + 1)) := by
  refine exec_orun env2 false 60 [] [0, 1] (fun _ => rfl) (by kernel_rfl) (by kernel_rfl) (by kernel_rfl) ?_
  rw [(show obOf (orun g2 false 60 L48.b.b.b (S48 n q m f i) []) = (rng64 (Int.ofNat i.succ) && true) from by kernel_rfl)]
  simp [rng64]
  omega
theorem e48r {n : Int} {q : List Int} {m i : Nat} {f : Nat → Bool} (hq : q.length = m * 2) (hi : i < m) : Exec PP T none x48.nt 0 L48.b.b.a.i.a (S48 n q m f i) .n (E48 n q m f i (pa q i) (pb q i)) := by
  have e1 : pa q i = q.getD (0 + (0 + i) * 2 + 0) 0 := by unfold pa; congr 1; omega
  have e2 : pb q i = q.getD (0 + (0 + i) * 2 + 0 + 1) 0 := by unfold pb; congr 1; omega
  rw [e1, e2]
  refine exec_orun env2 false 60 [] [0, 1, 2] (fun _ => rfl) (by kernel_rfl) (by kernel_rfl) (by kernel_rfl) ?_
  rw [(show obOf (orun g2 false 60 L48.b.b.a.i.a (S48 n q m f i) []) = (decide (0 ≤ Int.ofNat i) && decide (Int.ofNat i < Int.ofNat m) && (decide (((0 + (0 + i) * 2).add 0).succ.succ ≤ q.length) && (decide (0 = 0) && true && true && true))) from by kernel_rfl)]
  simp
  omega

theorem e48c {n : Int} {q : List Int} {m i : Nat} {f : Nat → Bool} {a b : Int} (hq : q.length = m * 2) (hi : i < m) (hm : m ≤ 1000000000) (ha : a = pa q i) (hbb : b = pb q i) (hb : badC n q i a b = false) : Exec PP T none x48.nt 0 L48.b.b.a.i.b.a (E48 n q m f i a b) .n (E48 n q m f i a b) := by
  refine exec_orun env3 false 60 [false] [0, 1, 2] (fun _ => rfl) (by kernel_rfl) (by kernel_rfl) (by kernel_rfl) ?_
  rw [(show obOf (orun g3 false 60 L48.b.b.a.i.b.a (E48 n q m f i a b) [false]) = (decide (0 ≤ 0) && decide (0 < 2) && ((!decide (a < 0) == false || decide (0 ≤ 0) && decide (0 < 2)) && ((!decide (a < 0) == false || decide (a < 0) == false && true && true) && ((!decide (a < 0) == false || decide (0 ≤ 1) && decide (1 < 2)) && ((!decide (a < 0) == false || decide (a < 0) == false && true && true) && ((!decide (a < 0) == false || decide (a < 0) == false && (decide (a < 0) == false && true) && true) && ((bif decide (a < 0) then true else decide (a < 0) == false) && true && ((!(bif decide (a < 0) then true else decide (a ≥ b)) == false || decide (0 ≤ 1) && decide (1 < 2)) && ((!(bif decide (a < 0) then true else decide (a ≥ b)) == false || (bif decide (a < 0) then true else decide (a ≥ b)) == false && true && true) && ((!(bif decide (a < 0) then true else decide (a ≥ b)) == false || true) && ((!(bif decide (a < 0) then true else decide (a ≥ b)) == false || (bif decide (a < 0) then true else decide (a ≥ b)) == false && ((bif decide (a < 0) then true else decide (a ≥ b)) == false && true) && true) && ((bif bif decide (a < 0) then true else decide (a ≥ b) then true else (bif decide (a < 0) then true else decide (a ≥ b)) == false) && true && ((!(bif bif decide (a < 0) then true else decide (a ≥ b) then true else decide (b ≥ n)) == false || true) && ((!(bif bif decide (a < 0) then true else decide (a ≥ b) then true else decide (b ≥ n)) == false || (bif bif decide (a < 0) then true else decide (a ≥ b) then true else decide (b ≥ n)) == false && true && true) && ((!(bif bif decide (a < 0) then true else decide (a ≥ b) then true else decide (b ≥ n)) == false || (bif bif decide (a < 0) then true else decide (a ≥ b) then true else decide (b ≥ n)) == false && true && true) && ((!((bif bif decide (a < 0) then true else decide (a ≥ b) then true else decide (b ≥ n)) == false && decide (Int.ofNat i > 0) == true) || true) && ((!((bif bif decide (a < 0) then true else decide (a ≥ b) then true else decide (b ≥ n)) == false && decide (Int.ofNat i > 0) == true) || true) && ((!((bif bif decide (a < 0) then true else decide (a ≥ b) then true else decide (b ≥ n)) == false && decide (Int.ofNat i > 0) == true) || (bif bif decide (a < 0) then true else decide (a ≥ b) then true else decide (b ≥ n)) == false && decide (Int.ofNat i > 0) == true && true && rng64 (Int.ofNat i - 1)) && ((!((bif bif decide (a < 0) then true else decide (a ≥ b) then true else decide (b ≥ n)) == false && decide (Int.ofNat i > 0) == true) || (bif bif decide (a < 0) then true else decide (a ≥ b) then true else decide (b ≥ n)) == false && decide (Int.ofNat i > 0) == true && ((bif bif decide (a < 0) then true else decide (a ≥ b) then true else decide (b ≥ n)) == false && decide (Int.ofNat i > 0) == true && true) && (decide (0 ≤ Int.ofNat i - 1) && decide (Int.ofNat i - 1 < Int.ofNat m))) && ((!((bif bif decide (a < 0) then true else decide (a ≥ b) then true else decide (b ≥ n)) == false && decide (Int.ofNat i > 0) == true) || (bif bif decide (a < 0) then true else decide (a ≥ b) then true else decide (b ≥ n)) == false && decide (Int.ofNat i > 0) == true && true && true) && ((!((bif bif decide (a < 0) then true else decide (a ≥ b) then true else decide (b ≥ n)) == false && decide (Int.ofNat i > 0) == true) || true) && ((!((bif bif decide (a < 0) then true else decide (a ≥ b) then true else decide (b ≥ n)) == false && decide (Int.ofNat i > 0) == true) || (bif bif decide (a < 0) then true else decide (a ≥ b) then true else decide (b ≥ n)) == false && decide (Int.ofNat i > 0) == true && ((bif bif decide (a < 0) then true else decide (a ≥ b) then true else decide (b ≥ n)) == false && decide (Int.ofNat i > 0) == true && true) && (decide (((0 + (0 + (Int.ofNat i - 1).toNat) * 2).add 0).succ.succ ≤ q.length) && decide (2 ≤ Nat.succ 1))) && ((!((bif bif decide (a < 0) then true else decide (a ≥ b) then true else decide (b ≥ n)) == false && decide (Int.ofNat i > 0) == true) || (bif bif decide (a < 0) then true else decide (a ≥ b) then true else decide (b ≥ n)) == false && decide (Int.ofNat i > 0) == true && true && true) && ((!(bif bif decide (a < 0) then true else decide (a ≥ b) then true else decide (b ≥ n)) == false || ((bif bif decide (a < 0) then true else decide (a ≥ b) then true else decide (b ≥ n)) == false && bif decide (Int.ofNat i > 0) then (bif bif decide (a < 0) then true else decide (a ≥ b) then true else decide (b ≥ n)) == false && decide (Int.ofNat i > 0) == true else true) && true) && ((bif bif bif decide (a < 0) then true else decide (a ≥ b) then true else decide (b ≥ n) then true else (bif bif decide (a < 0) then true else decide (a ≥ b) then true else decide (b ≥ n)) == false) && true && true)))))))))))))))))))))))) && true && ((!bif bif bif decide (a < 0) then true else decide (a ≥ b) then true else decide (b ≥ n) then true else bif decide (Int.ofNat i > 0) then decide (cmp2 ((List.take 2 (List.drop (0 + (0 + (Int.ofNat i - 1).toNat) * 2) q)).getD 0 0) ((List.take 2 (List.drop (0 + (0 + (Int.ofNat i - 1).toNat) * 2) q)).getD 1 0) a b ≥ 0) else false) && true)) from by kernel_rfl)]
  simp only [badC, Bool.or_eq_false_iff] at hb
  obtain ⟨⟨⟨h0, h1⟩, h2⟩, h3⟩ := hb
  simp only [h0, h1, h2]
  cases i with
  | zero => simp
  | succ j =>
    have e1 : (Int.ofNat (j + 1) - 1).toNat = j := by simp
    have e2 : Int.ofNat (j + 1) - 1 = (j : Int) := by simp
    have e3 : rng64 (j : Int) = true := by rw [rng64_eq]; simp; omega
    simp [upB, pa, pb, Nat.mul_comm 2] at h3
    simp [e1, e2, e3, cmp2_less]
    rw [ha, hbb]
    simp [pa, pb, Nat.mul_comm 2]
    exact ⟨by omega, h3⟩
theorem e48e {n : Int} {q : List Int} {m i : Nat} {f : Nat → Bool} {a b : Int} (hq : q.length = m * 2) (hi : i < m) (hm : m ≤ 1000000000) (ha : a = pa q i) (hbb : b = pb q i) (hb : badC n q i a b = true) : Exec PP T none x48.nt 0 L48.b.b.a.i.b.a (E48 n q m f i a b) .r (mkSt [(4, ⟨true, .av (.s .nilp)⟩), (5, ⟨true, I 20⟩)] [] 0 []) := by
  refine exec_orun env3 false 60 [true] [] (fun _ => rfl) (by kernel_rfl) (by kernel_rfl) (by kernel_rfl) ?_
  rw [(show obOf (orun g3 false 60 L48.b.b.a.i.b.a (E48 n q m f i a b) [true]) = (decide (0 ≤ 0) && decide (0 < 2) && ((!decide (a < 0) == false || decide (0 ≤ 0) && decide (0 < 2)) && ((!decide (a < 0) == false || decide (a < 0) == false && true && true) && ((!decide (a < 0) == false || decide (0 ≤ 1) && decide (1 < 2)) && ((!decide (a < 0) == false || decide (a < 0) == false && true && true) && ((!decide (a < 0) == false || decide (a < 0) == false && (decide (a < 0) == false && true) && true) && ((bif decide (a < 0) then true else decide (a < 0) == false) && true && ((!(bif decide (a < 0) then true else decide (a ≥ b)) == false || decide (0 ≤ 1) && decide (1 < 2)) && ((!(bif decide (a < 0) then true else decide (a ≥ b)) == false || (bif decide (a < 0) then true else decide (a ≥ b)) == false && true && true) && ((!(bif decide (a < 0) then true else decide (a ≥ b)) == false || true) && ((!(bif decide (a < 0) then true else decide (a ≥ b)) == false || (bif decide (a < 0) then true else decide (a ≥ b)) == false && ((bif decide (a < 0) then true else decide (a ≥ b)) == false && true) && true) && ((bif bif decide (a < 0) then true else decide (a ≥ b) then true else (bif decide (a < 0) then true else decide (a ≥ b)) == false) && true && ((!(bif bif decide (a < 0) then true else decide (a ≥ b) then true else decide (b ≥ n)) == false || true) && ((!(bif bif decide (a < 0) then true else decide (a ≥ b) then true else decide (b ≥ n)) == false || (bif bif decide (a < 0) then true else decide (a ≥ b) then true else decide (b ≥ n)) == false && true && true) && ((!(bif bif decide (a < 0) then true else decide (a ≥ b) then true else decide (b ≥ n)) == false || (bif bif decide (a < 0) then true else decide (a ≥ b) then true else decide (b ≥ n)) == false && true && true) && ((!((bif bif decide (a < 0) then true else decide (a ≥ b) then true else decide (b ≥ n)) == false && decide (Int.ofNat i > 0) == true) || true) && ((!((bif bif decide (a < 0) then true else decide (a ≥ b) then true else decide (b ≥ n)) == false && decide (Int.ofNat i > 0) == true) || true) && ((!((bif bif decide (a < 0) then true else decide (a ≥ b) then true else decide (b ≥ n)) == false && decide (Int.ofNat i > 0) == true) || (bif bif decide (a < 0) then true else decide (a ≥ b) then true else decide (b ≥ n)) == false && decide (Int.ofNat i > 0) == true && true && rng64 (Int.ofNat i - 1)) && ((!((bif bif decide (a < 0) then true else decide (a ≥ b) then true else decide (b ≥ n)) == false && decide (Int.ofNat i > 0) == true) || (bif bif decide (a < 0) then true else decide (a ≥ b) then true else decide (b ≥ n)) == false && decide (Int.ofNat i > 0) == true && ((bif bif decide (a < 0) then true else decide (a ≥ b) then true else decide (b ≥ n)) == false && decide (Int.ofNat i > 0) == true && true) && (decide (0 ≤ Int.ofNat i - 1) && decide (Int.ofNat i - 1 < Int.ofNat m))) && ((!((bif bif decide (a < 0) then true else decide (a ≥ b) then true else decide (b ≥ n)) == false && decide (Int.ofNat i > 0) == true) || (bif bif decide (a < 0) then true else decide (a ≥ b) then true else decide (b ≥ n)) == false && decide (Int.ofNat i > 0) == true && true && true) && ((!((bif bif decide (a < 0) then true else decide (a ≥ b) then true else decide (b ≥ n)) == false && decide (Int.ofNat i > 0) == true) || true) && ((!((bif bif decide (a < 0) then true else decide (a ≥ b) then true else decide (b ≥ n)) == false && decide (Int.ofNat i > 0) == true) || (bif bif decide (a < 0) then true else decide (a ≥ b) then true else decide (b ≥ n)) == false && decide (Int.ofNat i > 0) == true && ((bif bif decide (a < 0) then true else decide (a ≥ b) then true else decide (b ≥ n)) == false && decide (Int.ofNat i > 0) == true && true) && (decide (((0 + (0 + (Int.ofNat i - 1).toNat) * 2).add 0).succ.succ ≤ q.length) && decide (2 ≤ Nat.succ 1))) && ((!((bif bif decide (a < 0) then true else decide (a ≥ b) then true else decide (b ≥ n)) == false && decide (Int.ofNat i > 0) == true) || (bif bif decide (a < 0) then true else decide (a ≥ b) then true else decide (b ≥ n)) == false && decide (Int.ofNat i > 0) == true && true && true) && ((!(bif bif decide (a < 0) then true else decide (a ≥ b) then true else decide (b ≥ n)) == false || ((bif bif decide (a < 0) then true else decide (a ≥ b) then true else decide (b ≥ n)) == false && bif decide (Int.ofNat i > 0) then (bif bif decide (a < 0) then true else decide (a ≥ b) then true else decide (b ≥ n)) == false && decide (Int.ofNat i > 0) == true else true) && true) && ((bif bif bif decide (a < 0) then true else decide (a ≥ b) then true else decide (b ≥ n) then true else (bif bif decide (a < 0) then true else decide (a ≥ b) then true else decide (b ≥ n)) == false) && true && true)))))))))))))))))))))))) && true && ((bif bif bif decide (a < 0) then true else decide (a ≥ b) then true else decide (b ≥ n) then true else bif decide (Int.ofNat i > 0) then decide (cmp2 ((List.take 2 (List.drop (0 + (0 + (Int.ofNat i - 1).toNat) * 2) q)).getD 0 0) ((List.take 2 (List.drop (0 + (0 + (Int.ofNat i - 1).toNat) * 2) q)).getD 1 0) a b ≥ 0) else false) && true)) from by kernel_rfl)]
  cases h0 : decide (a < 0) with
  | true => simp
  | false =>
  cases h1 : decide (a ≥ b) with
  | true => simp
  | false =>
  cases h2 : decide (b ≥ n) with
  | true => simp
  | false =>
    simp only [badC, h0, h1, h2, Bool.false_or] at hb
    cases i with
    | zero => simp [upB] at hb
    | succ j =>
      have e1 : (Int.ofNat (j + 1) - 1).toNat = j := by simp
      have e2 : Int.ofNat (j + 1) - 1 = (j : Int) := by simp
      have e3 : rng64 (j : Int) = true := by rw [rng64_eq]; simp; omega
      simp [upB, pa, pb, Nat.mul_comm 2] at hb
      simp [e1, e2, e3, cmp2_less]
      rw [ha, hbb]
      simp [pa, pb, Nat.mul_comm 2]
      exact ⟨by omega, hb⟩

def nearS (f : Nat → Bool) (a b : Int) : Nat → Bool := fun j => bif j.beq (1 - [(SV.int .i64 0)].length + (0 + b.toNat * 7 + a.toNat * 1)) then true else bif j.beq (1 - [(SV.int .i64 0)].length + (0 + a.toNat * 7 + b.toNat * 1)) then true else f j

theorem e48s {n : Int} {q : List Int} {m i : Nat} {f : Nat → Bool} {a b : Int} (h0 : 0 ≤ a) (h1 : a < 7) (h2 : 0 ≤ b) (h3 : b < 7) : Exec PP T none x48.nt 0 L48.b.b.a.i.b.b (E48 n q m f i a b) .n (S48 n q m (nearS f a b) i) := by
  refine exec_orun env3 false 60 [] [0, 1] (fun _ => rfl) (by kernel_rfl) (by kernel_rfl) (by kernel_rfl) ?_
  rw [(show obOf (orun g3 false 60 L48.b.b.a.i.b.b (E48 n q m f i a b) []) = (decide (0 ≤ 0) && decide (0 < 2) && (decide (0 ≤ 1) && decide (1 < 2) && (decide (0 ≤ 1) && decide (1 < 2) && (decide (0 ≤ 0) && decide (0 < 2) && (decide (0 ≤ a) && decide (a < 7) && (decide (0 ≤ b) && decide (b < 7) && (decide (0 + (0 + a.toNat * 7 + b.toNat * 1) < 49) && true && true && (decide (0 ≤ b) && decide (b < 7) && (decide (0 ≤ a) && decide (a < 7) && (decide (0 + (0 + b.toNat * 7 + a.toNat * 1) < 49) && true && true && true))))))))) && true) from by kernel_rfl)]
  simp
  omega

def nearF (q : List Int) : Nat → Nat → Bool
  | 0 => ff
  | i + 1 => nearS (nearF q i) (pa q i) (pb q i)

theorem badAt_rng {n : Int} {q : List Int} {i : Nat} (hn : (decide (n < 1) || decide (n > 7)) = false) (hb : badAt n q i = false) : (0 ≤ pa q i ∧ pa q i < 7) ∧ 0 ≤ pb q i ∧ pb q i < 7 := by
  simp [badAt, badC] at hb hn
  omega

theorem s48 {n : Int} {q : List Int} {m i : Nat} (hn : (decide (n < 1) || decide (n > 7)) = false) (hq : q.length = m * 2) (hi : i < m) (hm : m ≤ 1000000000) (hb : badAt n q i = false) : Exec PP T none x48.nt 0 L48 (S48 n q m (nearF q i) i) .n (S48 n q m (nearF q (i + 1)) (i + 1)) := by
  obtain ⟨⟨h0, h1⟩, h2, h3⟩ := badAt_rng hn hb
  exact exec_seq (x := L48.a) (y := L48.b) e48a (exec_seq (x := L48.b.a) (y := L48.b.b) (e48b hi) (exec_seq (x := L48.b.b.a) (y := L48.b.b.b) (exec_block (id := 1) (x := L48.b.b.a.i) (e := .n) (exec_seq (x := L48.b.b.a.i.a) (y := L48.b.b.a.i.b) (e48r hq hi) (exec_seq (x := L48.b.b.a.i.b.a) (y := L48.b.b.a.i.b.b) (e48c hq hi hm rfl rfl hb) (e48s h0 h1 h2 h3)))) (e48d hm hi)))

abbrev Z48 (e : Int) : St := mkSt [(4, ⟨true, .av (.s .nilp)⟩), (5, ⟨true, I e⟩)] [] 0 []

theorem s48r {n : Int} {q : List Int} {m i : Nat} {f : Nat → Bool} (hq : q.length = m * 2) (hi : i < m) (hm : m ≤ 1000000000) (hb : badAt n q i = true) : Exec PP T none x48.nt 0 L48 (S48 n q m f i) .r (Z48 20) := by
  exact exec_seq (x := L48.a) (y := L48.b) e48a (exec_seq (x := L48.b.a) (y := L48.b.b) (e48b hi) (exec_seq_x (x := L48.b.b.a) (y := L48.b.b.b) (exec_block (id := 1) (x := L48.b.b.a.i) (e := .r) (exec_seq (x := L48.b.b.a.i.a) (y := L48.b.b.a.i.b) (e48r hq hi) (exec_seq_x (x := L48.b.b.a.i.b.a) (y := L48.b.b.a.i.b.b) (e48e hq hi hm rfl rfl hb) (by simp)))) (by simp)))

theorem s48x {n : Int} {q : List Int} {m : Nat} {f : Nat → Bool} : Exec PP T none x48.nt 0 L48 (S48 n q m f m) (.x 0) (S48 n q m f m) :=
  exec_seq (x := L48.a) (y := L48.b) e48a (exec_seq_x (x := L48.b.a) (y := L48.b.b) e48x (by simp))

theorem a48 {n : Int} {q : List Int} {m : Nat} : Exec PP T none x48.nt 0 x48.body.a (startSt (A40 n m) (H1 q)) .n (M40 n q m) := by
  refine exec_orun env2 false 60 [] [0] (fun _ => rfl) (by kernel_rfl) (by kernel_rfl) (by kernel_rfl) (by kernel_rfl)
theorem b48r {n : Int} {q : List Int} {m : Nat} (h : (decide (n < 1) || decide (n > 7)) = true) : Exec PP T none x48.nt 0 x48.body.b.a (M40 n q m) .r (Z48 1) := by
  refine exec_orun env2 false 60 [true] [] (fun _ => rfl) (by kernel_rfl) (by kernel_rfl) (by kernel_rfl) ?_
  rw [(show obOf (orun g2 false 60 x48.body.b.a (M40 n q m) [true]) = ((!decide (n < 1) == false || true) && ((!decide (n < 1) == false || decide (n < 1) == false && true && true) && ((bif decide (n < 1) then true else decide (n < 1) == false) && true && true)) && ((bif decide (n < 1) then true else decide (n > 7)) && true)) from by kernel_rfl)]
  cases h0 : decide (n < 1) with
  | true => simp
  | false => rw [h0, Bool.false_or] at h; simp [h]
theorem b48 {n : Int} {q : List Int} {m : Nat} (h : (decide (n < 1) || decide (n > 7)) = false) : Exec PP T none x48.nt 0 x48.body.b.a (M40 n q m) .n (M40 n q m) := by
  refine exec_orun env2 false 60 [false] [0] (fun _ => rfl) (by kernel_rfl) (by kernel_rfl) (by kernel_rfl) ?_
  rw [(show obOf (orun g2 false 60 x48.body.b.a (M40 n q m) [false]) = ((!decide (n < 1) == false || true) && ((!decide (n < 1) == false || decide (n < 1) == false && true && true) && ((bif decide (n < 1) then true else decide (n < 1) == false) && true && true)) && ((!bif decide (n < 1) then true else decide (n > 7)) && true)) from by kernel_rfl)]
  rw [Bool.or_eq_false_iff] at h
  simp [h.1, h.2]
abbrev M48 (n : Int) (q : List Int) (m : Nat) : St := mkSt [(0, ⟨true, I n⟩), (1, sl0 m), (6, g1S 1)] (G48 n q ff) 2 []
theorem cc48 {n : Int} {q : List Int} {m : Nat} : Exec PP T none x48.nt 0 x48.body.b.b.a (M40 n q m) .n (M48 n q m) := by
  refine exec_orun env2 false 60 [] [0, 1] (fun _ => rfl) (by kernel_rfl) (by kernel_rfl) (by kernel_rfl) (by kernel_rfl)
theorem c48i {n : Int} {q : List Int} {m : Nat} : Exec PP T none x48.nt 0 x48.body.b.b.b.a.a (M48 n q m) .n (S48 n q m ff 0) := by
  refine exec_orun env2 false 60 [] [0, 1] (fun _ => rfl) (by kernel_rfl) (by kernel_rfl) (by kernel_rfl) (by kernel_rfl)
abbrev Y48 (n : Int) (q : List Int) (m : Nat) : St := mkSt [(4, g1S 0), (5, ⟨true, I 0⟩)] [⟨false, .row 115 [.int .i64 n] 49 (nearF q m)⟩] 1 []
theorem d48 {n : Int} {q : List Int} {m : Nat} : Exec PP T none x48.nt 0 x48.body.b.b.b.b (S48 n q m (nearF q m) m) .r (Y48 n q m) := by
  refine exec_orun env2 false 60 [] [1] (fun _ => rfl) (by kernel_rfl) (by kernel_rfl) (by kernel_rfl) (by kernel_rfl)

theorem body48r {n : Int} {q : List Int} {m : Nat} (hq : q.length = m * 2) (hm : m ≤ 1000000000) (he : (checkP n q m == 0) = false) : Exec PP T none x48.nt 0 x48.body (startSt (A40 n m) (H1 q)) .r (Z48 (checkP n q m)) := by
  unfold checkP at he ⊢
  refine exec_seq (x := x48.body.a) (y := x48.body.b) a48 ?_
  cases h : (decide (n < 1) || decide (n > 7)) with
  | true => exact exec_seq_x (x := x48.body.b.a) (y := x48.body.b.b) (b48r h) (by simp)
  | false =>
    rw [h, cond_false] at he
    refine exec_seq (x := x48.body.b.a) (y := x48.body.b.b) (b48 h) (exec_seq (x := x48.body.b.b.a) (y := x48.body.b.b.b) cc48 ?_)
    cases hh : (List.range m).any (badAt n q) with
    | true =>
      obtain ⟨p, h1, h2, h3⟩ := any_first _ _ hh
      exact exec_seq_x (x := x48.body.b.b.b.a) (y := x48.body.b.b.b.b) (exec_seq (x := x48.body.b.b.b.a.a) (y := .block 0 (.loop L48)) c48i (exec_block (e := .r) (exec_loop_up (fun i => S48 n q m (nearF q i) i) p (fun i hi => s48 h hq (by omega) hm (h3 i hi)) (s48r hq h1 hm h2) (by simp) 0 (by omega)))) (by simp)
    | false => rw [hh] at he; simp at he

theorem body48 {n : Int} {q : List Int} {m : Nat} (hq : q.length = m * 2) (hm : m ≤ 1000000000) (he : (checkP n q m == 0) = true) : Exec PP T none x48.nt 0 x48.body (startSt (A40 n m) (H1 q)) .r (Y48 n q m) := by
  unfold checkP at he
  refine exec_seq (x := x48.body.a) (y := x48.body.b) a48 ?_
  cases h : (decide (n < 1) || decide (n > 7)) with
  | true => rw [h] at he; simp at he
  | false =>
    rw [h, cond_false] at he
    refine exec_seq (x := x48.body.b.a) (y := x48.body.b.b) (b48 h) (exec_seq (x := x48.body.b.b.a) (y := x48.body.b.b.b) cc48 ?_)
    cases hh : (List.range m).any (badAt n q) with
    | true => rw [hh] at he; simp at he
    | false =>
      have h3 := any_none _ _ hh
      exact exec_seq (x := x48.body.b.b.b.a) (y := x48.body.b.b.b.b) (exec_seq (x := x48.body.b.b.b.a.a) (y := .block 0 (.loop L48)) c48i (exec_block (e := .x 0) (exec_loop_up (fun i => S48 n q m (nearF q i) i) m (fun i hi => s48 h hq hi hm (h3 i hi)) s48x (by simp) 0 (by omega)))) d48

/-! an int, a slice of pairs, and more that is not looked at -/
def intPairsX (k : Nat) (c : Int → List Int → Nat → Bool) (f : Int → List Int → Nat → TV) (args : List AV) (h : Nat → Option HO) : Option (Bool × TV × List Nat) := match args with
  | .s (.int .i64 n) :: s :: rest => bif Nat.beq rest.length k then match srcOf (.av s) h .i64 2 with
    | some (vc, q, m, rd) => some (vc && (bndL m && c n q m), f n q m, rd)
    | none => none
    else none
  | _ => none
theorem intPairsX_fp (k : Nat) (c : Int → List Int → Nat → Bool) (f : Int → List Int → Nat → TV) : PureFp (intPairsX k c f) := by
  intro args h h' q hg hf
  unfold intPairsX at hg ⊢
  split at hg
  · rename_i n s rest
    cases hk : Nat.beq rest.length k with
    | false => rw [hk] at hg; cases hg
    | true =>
      simp only [hk, cond_true] at hg ⊢
      split at hg
      · rename_i hs
        cases hg
        rw [srcOf_fp hs hf]
      · cases hg
  · cases hg

theorem all2_any {m m' : MM} : ∀ {l : List AV} {r : List Value}, All2 (AR m) l r → All2 (AR m') (List.replicate l.length (.s .any)) r
  | [], [], _ => trivial
  | _ :: _, _ :: _, ⟨_, h2⟩ => ⟨trivial, all2_any h2⟩
  | [], _ :: _, h => h.elim
  | _ :: _, [], h => h.elim

theorem intPairsX_ok {f : FuncId} {x : XFn} (hx : FunOK PP T f x) (k : Nat) (c : Int → List Int → Nat → Bool) (t : Int → List Int → Nat → List (Nat × Slot)) (v : Int → List Int → Nat → TV) (hlen : Nat.ble (k + 2) x.nt = true) (hb : ∀ n q m, q.length = m * 2 → m ≤ 1000000000 → c n q m = true → Exec PP T none x.nt 0 x.body (startSt (A40 n m ++ List.replicate k (.s .any)) (H1 q)) .r (mkSt (t n q m) [] 0 []))
    (hres : ∀ n q m, resV (mkSt (t n q m) [] 0 []).sl.get (mkSt (t n q m) [] 0 []).hp.get x.res = some (true, v n q m)) (hids : ∀ n q m, (v n q m).ids = []) : SpecOK PP (compC T) f (pureS (intPairsX k c v)) := by
  refine spec_pure tokP hx fun ctx m h w args vals u rd base hH hargs hg => ?_
  unfold intPairsX at hg
  split at hg
  · rename_i n s rest
    cases hk : Nat.beq rest.length k with
    | false => rw [hk] at hg; cases hg
    | true =>
      rw [hk, cond_true] at hg
      have hk := Nat.eq_of_beq_eq_true hk
      subst hk
      split at hg
      · rename_i vc q m' rd' hs
        simp only [Option.some.injEq, Prod.mk.injEq, Bool.and_eq_true] at hg
        obtain ⟨⟨rfl, hm, hc⟩, rfl, rfl⟩ := hg
        match vals, hargs with
        | v1 :: v2 :: vr, ⟨ha1, ha2, har⟩ =>
          obtain ⟨mb, k1, k2, k3, k4⟩ := view_slice hH ha2 hs
          have hall : All2 (AR (mm1 mb)) (.s (.int .i64 n) :: .s (.sl 0 0 2 m') :: List.replicate rest.length (.s .any)) (v1 :: v2 :: vr) := ⟨ha1, k3 (mm1 mb) 0 rfl, all2_any har⟩
          exact ⟨mm1 mb, H1 q, A40 n m' ++ List.replicate rest.length (.s .any), shown_val (ro1 k1 k2) hall (by simpa using hlen) (hb n q m' k4 (by simpa [bndL] using hm) hc) (fun _ => rfl) (hres n q m') (hids n q m')⟩
      · cases hg
  · cases hg

def err0 (n : Int) (q : List Int) (m : Nat) : Bool := checkP n q m == 0
def err1 (n : Int) (q : List Int) (m : Nat) : Bool := !(checkP n q m == 0)
/-- open, where it refuses -/
abbrev openE := intPairsX 0 err1 fun n q m => .tup [.s .nilp, .s (.int .i64 (checkP n q m))]
theorem ok48e : SpecOK PP (compC T) 48 (pureS openE) :=
  intPairsX_ok o48 0 err1 (fun n q m => [(4, ⟨true, .av (.s .nilp)⟩), (5, ⟨true, I (checkP n q m)⟩)]) _ (by kernel_rfl) (fun n q m hq hm hc => body48r hq hm (by simpa [err1] using hc)) (fun n q m => by kernel_rfl) (fun n q m => by kernel_rfl)

/-- open, where it does not -/
def spOpen : Spec where
  run := fun args h base => match args with
    | [.s (.int .i64 n), s] => match srcOf (.av s) h .i64 2 with
      | some (vc, q, m, rd) => some ⟨vc && (bndL m && err0 n q m), .tup [.s (.ptr base 0 0), .s (.int .i64 0)], [], [⟨false, .row 115 [.int .i64 n] 49 (nearF q m)⟩], some rd⟩
      | none => none
    | _ => none
theorem spOpen_fp : SpecFp spOpen := by
  intro args h h' base e hr hf
  simp only [spOpen] at hr ⊢
  split at hr
  · split at hr
    · rename_i hs
      cases hr
      simp only [srcOf_fp hs hf]
    · cases hr
  · cases hr

theorem ok48 : SpecOK PP (compC T) 48 spOpen := by
  refine spec_gen tokP o48 fun ctx m h w args vals base e hH hargs hr hvc => ?_
  simp only [spOpen] at hr
  split at hr
  · rename_i n s
    split at hr
    · rename_i vc q m' rd hs
      cases hr
      simp only [Bool.and_eq_true] at hvc
      obtain ⟨rfl, hm, he⟩ := hvc
      match vals, hargs with
      | [v1, v2], ⟨ha1, ha2, _⟩ =>
        obtain ⟨mb, k1, k2, k3, k4⟩ := view_slice hH ha2 hs
        exact ⟨rfl, mm1 mb, H1 q, A40 n m', shown_new (tv := .tup [.s (.ptr 0 0 0), .s (.int .i64 0)]) (o := .row 115 [.int .i64 n] 49 (nearF q m')) (ro1 k1 k2) ⟨ha1, k3 (mm1 mb) 0 rfl, trivial⟩ (by kernel_rfl) (body48 k4 (by simpa [bndL] using hm) he) (fun _ => rfl) (by kernel_rfl) (by kernel_rfl) rfl rfl rfl (fun _ => rfl)⟩
    · cases hr
  · cases hr

end Go.Proofs.Yteekkjfjpoaihaa.Eng

/- A part of the proof of ordersEven_holds. -/
import Derived.Test.YteekkjfjpoaihaaOe18
set_option linter.all false
namespace Go.Proofs.Yteekkjfjpoaihaa.Eng
open Go Go.Proofs
def L9 : List (Nat × Spec) := [(53, sparrows), (54, spRch), (51, pureS (gRel fun f => B (transB f)))]
theorem L9_ok : SpecsL L9 := specsL_cons ok53 sparrows_fp o53 (specsL_cons ok54 spRch_fp o54 (specsL_cons ok51 (pureS_fp (gRel_fp _)) o51 (fun p hp => absurd hp (by simp))))
noncomputable abbrev g9 : Cal → Option Spec := specsΓ L9
theorem env9 : EnvOK PP T g9 := envL L9_ok
def X55 : XC := x55.body.b.b.b.a.i.i.i
def M55 : XC := X55.b.b.b.a.b.i.i
def N55 : XC := X55.b.b.b.b.b.i.i
abbrev GL (n : Nat) (l : Nat → Bool) : HO := ⟨false, .row 115 [.int .i64 (Int.ofNat n)] 49 l⟩
abbrev R70 (o : Nat → Bool) : HO := ⟨false, .row 70 [] 49 o⟩
abbrev IV (q : List Int) : HO := ⟨false, .ivec 77 .i64 2 q⟩
abbrev sl55 : List (Nat × Slot) := [(2, g1S 0), (3, ⟨true, B false⟩), (4, g1S 1), (5, g1S 2)]
abbrev S55 (n : Nat) (o l : Nat → Bool) : St := mkSt sl55 [R70 ff, R70 o, GL n l] 3 []
abbrev A55 (n : Nat) (o l : Nat → Bool) : St := mkSt (sl55 ++ [(6, lsS 3 (arrowsL n l).length)]) [R70 ff, R70 o, GL n l, IV (flat (arrowsL n l))] 4 []
theorem a55 {n : Nat} {f : Nat → Bool} : Exec PP T none x55.nt 0 x55.body.a (startSt [.s (.ptr 0 0 0)] [RG n f]) .n (mkSt [(0, g1S 0), (2, g1S 1), (3, ⟨true, B false⟩)] [RG n f, R70 ff] 2 []) := by
  refine exec_orun env0 false 60 [] [0, 1] (fun _ => rfl) (by kernel_rfl) (by kernel_rfl) (by kernel_rfl) (by kernel_rfl)
theorem b55 {n : Nat} {f : Nat → Bool} : Exec PP T none x55.nt 0 x55.body.b.a (mkSt [(0, g1S 0), (2, g1S 1), (3, ⟨true, B false⟩)] [RG n f, R70 ff] 2 []) .n (mkSt [(0, g1S 0), (2, g1S 1), (3, ⟨true, B false⟩), (4, g1S 2)] [RG n f, R70 ff, R70 ff] 3 []) := by
  refine exec_orun env0 false 60 [] [0, 1, 2] (fun _ => rfl) (by kernel_rfl) (by kernel_rfl) (by kernel_rfl) (by kernel_rfl)
theorem cc55 {n : Nat} {f : Nat → Bool} : Exec PP T none x55.nt 0 x55.body.b.b.a (mkSt [(0, g1S 0), (2, g1S 1), (3, ⟨true, B false⟩), (4, g1S 2)] [RG n f, R70 ff, R70 ff] 3 []) .n (S55 n ff f) := by
  refine exec_orun env0 false 60 [] [1, 2, 3] (fun _ => rfl) (by kernel_rfl) (by kernel_rfl) (by kernel_rfl) (by kernel_rfl)
theorem r55a {n : Nat} {o l : Nat → Bool} (hn : n ≤ 7) : Exec PP T none x55.nt 0 X55.a (S55 n o l) .n (A55 n o l) := by
  refine exec_orun env9 false 60 [] [0, 1, 2, 3] (fun _ => rfl) (by kernel_rfl) (by kernel_rfl) (by kernel_rfl) ?_
  rw [(show obOf (orun g9 false 60 X55.a (S55 n o l) []) = (decide (0 ≤ Int.ofNat n) && decide (Int.ofNat n ≤ 7) && true && true && true) from by kernel_rfl)]
  simp
  omega
theorem r55x {n : Nat} {o l : Nat → Bool} (h : (arrowsL n l).length = 0) : Exec PP T none x55.nt 0 X55.b.a (A55 n o l) (.x 0) (S55 n o l) := by
  refine exec_orun env9 false 60 [true] [0, 1, 2] (fun _ => rfl) (by kernel_rfl) (by kernel_rfl) (by kernel_rfl) ?_
  rw [(show obOf (orun g9 false 60 X55.b.a (A55 n o l) [true]) = (Int.ofNat (arrowsL n l).length == 0 && true) from by kernel_rfl)]
  simp [h]
theorem r55b {n : Nat} {o l : Nat → Bool} (h : ¬ (arrowsL n l).length = 0) : Exec PP T none x55.nt 0 X55.b.a (A55 n o l) .n (A55 n o l) := by
  refine exec_orun env9 false 60 [false] [0, 1, 2, 3] (fun _ => rfl) (by kernel_rfl) (by kernel_rfl) (by kernel_rfl) ?_
  rw [(show obOf (orun g9 false 60 X55.b.a (A55 n o l) [false]) = (!Int.ofNat (arrowsL n l).length == 0 && true) from by kernel_rfl)]
  simp at h ⊢
  exact h
/-- the first arrow -/
def fstX (n : Nat) (l : Nat → Bool) : Nat := ((flat (arrowsL n l)).getD (0 + (0 + 0) * 2 + 0) 0).toNat
def fstY (n : Nat) (l : Nat → Bool) : Nat := ((flat (arrowsL n l)).getD (0 + (0 + 0) * 2 + 0 + 1) 0).toNat
def clsO (n : Nat) (l : Nat → Bool) : List (Nat × Nat) := rchL n l (fstX n l) (fstY n l)
abbrev B55 (n : Nat) (o l : Nat → Bool) (q : List Int) (m : Nat) : St := mkSt (sl55 ++ [(7, lsS 3 m)]) [R70 ff, R70 o, GL n l, IV q] 4 []
theorem r55c {n : Nat} {o l : Nat → Bool} (hn : n ≤ 7) (h : ¬ (arrowsL n l).length = 0) (h0 : 0 ≤ (flat (arrowsL n l)).getD (0 + (0 + 0) * 2 + 0) 0 ∧ (flat (arrowsL n l)).getD (0 + (0 + 0) * 2 + 0) 0 < 7) (h1 : 0 ≤ (flat (arrowsL n l)).getD (0 + (0 + 0) * 2 + 0 + 1) 0 ∧ (flat (arrowsL n l)).getD (0 + (0 + 0) * 2 + 0 + 1) 0 < 7) : Exec PP T none x55.nt 0 X55.b.b.a (A55 n o l) .n (B55 n o l (flatN (clsO n l)) (clsO n l).length) := by
  refine exec_orun env9 false 60 [] [0, 1, 2, 4] (fun _ => rfl) (by kernel_rfl) (by kernel_rfl) (by kernel_rfl) ?_
  rw [(show obOf (orun g9 false 60 X55.b.b.a (A55 n o l) []) = (decide (0 < Int.ofNat (arrowsL n l).length) && (decide (2 ≤ (flat (arrowsL n l)).length) && (decide (0 ≤ (flat (arrowsL n l)).getD 0 0) && (decide ((flat (arrowsL n l)).getD 0 0 < 7) && (decide (0 ≤ (flat (arrowsL n l)).getD 1 0) && (decide ((flat (arrowsL n l)).getD 1 0 < 7) && (decide (0 ≤ Int.ofNat n) && decide (Int.ofNat n ≤ 7))))) && true && true && true))) from by kernel_rfl)]
  have := flat_len (arrowsL n l)
  simp at h0 h1
  simp [h0, h1]
  omega
abbrev C55 (n : Nat) (o l : Nat → Bool) (q : List Int) (m i : Nat) : St := mkSt (sl55 ++ [(7, lsS 3 m), (27, lsS 3 m), (28, ⟨true, I m⟩), (29, ⟨true, I i⟩)]) [R70 ff, R70 o, GL n l, IV q] 4 []
abbrev C55' (n : Nat) (o l : Nat → Bool) (q : List Int) (m i : Nat) : St := mkSt (sl55 ++ [(7, lsS 3 m), (27, lsS 3 m), (28, ⟨true, I m⟩), (29, ⟨true, I i⟩), (30, ⟨true, B (decide (Int.ofNat i < Int.ofNat m))⟩)]) [R70 ff, R70 o, GL n l, IV q] 4 []
theorem m55i {n : Nat} {o l : Nat → Bool} {q : List Int} {m : Nat} : Exec PP T none x55.nt 0 X55.b.b.b.a.a (B55 n o l q m) .n (C55 n o l q m 0) := by
  refine exec_orun env0 false 60 [] [0, 1, 2, 3] (fun _ => rfl) (by kernel_rfl) (by kernel_rfl) (by kernel_rfl) (by kernel_rfl)
theorem m55a {n : Nat} {o l : Nat → Bool} {q : List Int} {m i : Nat} : Exec PP T none x55.nt 0 M55.a (C55 n o l q m i) .n (C55' n o l q m i) := by
  refine exec_orun env0 false 60 [] [0, 1, 2, 3] (fun _ => rfl) (by kernel_rfl) (by kernel_rfl) (by kernel_rfl) (by kernel_rfl)
theorem m55b {n : Nat} {o l : Nat → Bool} {q : List Int} {m i : Nat} (hi : i < m) : Exec PP T none x55.nt 0 M55.b.a (C55' n o l q m i) .n (C55 n o l q m i) := by
  refine exec_orun env0 false 60 [true] [0, 1, 2, 3] (fun _ => rfl) (by kernel_rfl) (by kernel_rfl) (by kernel_rfl) ?_
  rw [(show obOf (orun g0 false 60 M55.b.a (C55' n o l q m i) [true]) = (decide (Int.ofNat i < Int.ofNat m) && true) from by kernel_rfl)]
  simp
  omega
theorem m55x {n : Nat} {o l : Nat → Bool} {q : List Int} {m : Nat} : Exec PP T none x55.nt 0 M55.b.a (C55' n o l q m m) (.x 2) (B55 n o l q m) := by
  refine exec_orun env0 false 60 [false] [0, 1, 2, 3] (fun _ => rfl) (by kernel_rfl) (by kernel_rfl) (by kernel_rfl) ?_
  rw [(show obOf (orun g0 false 60 M55.b.a (C55' n o l q m m) [false]) = (!decide (Int.ofNat m < Int.ofNat m) && true) from by kernel_rfl)]
  simp
theorem m55e {n : Nat} {o l : Nat → Bool} {q : List Int} {m i : Nat} (hi : i < 1000) : Exec PP T none x55.nt 0 M55.b.b.b (C55 n o l q m i) .n (C55 n o l q m (i + 1)) := by
  refine exec_orun env0 false 60 [] [0, 1, 2, 3] (fun _ => rfl) (by kernel_rfl) (by kernel_rfl) (by kernel_rfl) ?_
  rw [(show obOf (orun g0 false 60 M55.b.b.b (C55 n o l q m i) []) = (rng64 (Int.ofNat i.succ) && true) from by kernel_rfl)]
  simp [rng64]
  omega
abbrev qA (q : List Int) (i : Nat) : Int := q.getD (0 + (0 + i) * 2 + 0) 0
abbrev qB (q : List Int) (i : Nat) : Int := q.getD (0 + (0 + i) * 2 + 0 + 1) 0
theorem m55y {n : Nat} {o l : Nat → Bool} {q : List Int} {m i : Nat} (hq : q.length = m * 2) (hi : i < m) (ha : 0 ≤ qA q i ∧ qA q i < 7) (hb : 0 ≤ qB q i ∧ qB q i < 7) : Exec PP T none x55.nt 0 M55.b.b.a.i (C55 n o l q m i) .n (C55 n (relS o (qA q i) (qB q i)) l q m i) := by
  refine exec_orun env0 false 60 [] [0, 1, 2, 3] (fun _ => rfl) (by kernel_rfl) (by kernel_rfl) (by kernel_rfl) ?_
  rw [(show obOf (orun g0 false 60 M55.b.b.a.i (C55 n o l q m i) []) = (decide (0 ≤ Int.ofNat i) && decide (Int.ofNat i < Int.ofNat m) && (decide (((0 + (0 + i) * 2).add 0).succ.succ ≤ q.length) && true) && (decide (0 ≤ q.getD (0 + (0 + i) * 2 + 0) 0) && decide (q.getD (0 + (0 + i) * 2 + 0) 0 < 7) && (decide (0 ≤ q.getD ((0 + (0 + i) * 2).add 0).succ 0) && decide (q.getD ((0 + (0 + i) * 2).add 0).succ 0 < 7) && (decide (0 + (0 + (q.getD (0 + (0 + i) * 2 + 0) 0).toNat * 7 + (q.getD ((0 + (0 + i) * 2).add 0).succ 0).toNat * 1) < 49) && true && true && true)) && true)) from by kernel_rfl)]
  simp at ha hb
  simp [ha, hb]
  omega
abbrev D55 (n : Nat) (o l : Nat → Bool) (q : List Int) (m i : Nat) : St := mkSt (sl55 ++ [(40, lsS 3 m), (41, ⟨true, I m⟩), (42, ⟨true, I i⟩)]) [R70 ff, R70 o, GL n l, IV q] 4 []
abbrev D55' (n : Nat) (o l : Nat → Bool) (q : List Int) (m i : Nat) : St := mkSt (sl55 ++ [(40, lsS 3 m), (41, ⟨true, I m⟩), (42, ⟨true, I i⟩), (43, ⟨true, B (decide (Int.ofNat i < Int.ofNat m))⟩)]) [R70 ff, R70 o, GL n l, IV q] 4 []
theorem n55i {n : Nat} {o l : Nat → Bool} {q : List Int} {m : Nat} : Exec PP T none x55.nt 0 X55.b.b.b.b.a (B55 n o l q m) .n (D55 n o l q m 0) := by
  refine exec_orun env0 false 60 [] [0, 1, 2, 3] (fun _ => rfl) (by kernel_rfl) (by kernel_rfl) (by kernel_rfl) (by kernel_rfl)
theorem n55a {n : Nat} {o l : Nat → Bool} {q : List Int} {m i : Nat} : Exec PP T none x55.nt 0 N55.a (D55 n o l q m i) .n (D55' n o l q m i) := by
  refine exec_orun env0 false 60 [] [0, 1, 2, 3] (fun _ => rfl) (by kernel_rfl) (by kernel_rfl) (by kernel_rfl) (by kernel_rfl)
theorem n55b {n : Nat} {o l : Nat → Bool} {q : List Int} {m i : Nat} (hi : i < m) : Exec PP T none x55.nt 0 N55.b.a (D55' n o l q m i) .n (D55 n o l q m i) := by
  refine exec_orun env0 false 60 [true] [0, 1, 2, 3] (fun _ => rfl) (by kernel_rfl) (by kernel_rfl) (by kernel_rfl) ?_
  rw [(show obOf (orun g0 false 60 N55.b.a (D55' n o l q m i) [true]) = (decide (Int.ofNat i < Int.ofNat m) && true) from by kernel_rfl)]
  simp
  omega
theorem n55x {n : Nat} {o l : Nat → Bool} {q : List Int} {m : Nat} : Exec PP T none x55.nt 0 N55.b.a (D55' n o l q m m) (.x 4) (S55 n o l) := by
  refine exec_orun env0 false 60 [false] [0, 1, 2] (fun _ => rfl) (by kernel_rfl) (by kernel_rfl) (by kernel_rfl) ?_
  rw [(show obOf (orun g0 false 60 N55.b.a (D55' n o l q m m) [false]) = (!decide (Int.ofNat m < Int.ofNat m) && true) from by kernel_rfl)]
  simp
theorem n55e {n : Nat} {o l : Nat → Bool} {q : List Int} {m i : Nat} (hi : i < 1000) : Exec PP T none x55.nt 0 N55.b.b.b (D55 n o l q m i) .n (D55 n o l q m (i + 1)) := by
  refine exec_orun env0 false 60 [] [0, 1, 2, 3] (fun _ => rfl) (by kernel_rfl) (by kernel_rfl) (by kernel_rfl) ?_
  rw [(show obOf (orun g0 false 60 N55.b.b.b (D55 n o l q m i) []) = (rng64 (Int.ofNat i.succ) && true) from by kernel_rfl)]
  simp [rng64]
  omega
abbrev E55 (n : Nat) (o l : Nat → Bool) (q : List Int) (m i : Nat) (a b : Int) : St := mkSt (sl55 ++ [(12, g1S 4), (40, lsS 3 m), (41, ⟨true, I m⟩), (42, ⟨true, I i⟩)]) [R70 ff, R70 o, GL n l, IV q, ⟨false, .row 77 [.int .i64 a, .int .i64 b] 0 ff⟩] 5 []
theorem n55y {n : Nat} {o l : Nat → Bool} {q : List Int} {m i : Nat} (hq : q.length = m * 2) (hi : i < m) : Exec PP T none x55.nt 0 N55.b.b.a.i.a (D55 n o l q m i) .n (E55 n o l q m i (qA q i) (qB q i)) := by
  refine exec_orun env0 false 60 [] [0, 1, 2, 3, 4] (fun _ => rfl) (by kernel_rfl) (by kernel_rfl) (by kernel_rfl) ?_
  rw [(show obOf (orun g0 false 60 N55.b.b.a.i.a (D55 n o l q m i) []) = (decide (0 ≤ Int.ofNat i) && decide (Int.ofNat i < Int.ofNat m) && (decide (((0 + (0 + i) * 2).add 0).succ.succ ≤ q.length) && true)) from by kernel_rfl)]
  simp
  omega
def cutS (f : Nat → Bool) (a b : Int) : Nat → Bool := fun j => bif j.beq (1 - [(SV.int .i64 0)].length + (0 + b.toNat * 7 + a.toNat * 1)) then false else bif j.beq (1 - [(SV.int .i64 0)].length + (0 + a.toNat * 7 + b.toNat * 1)) then false else f j
theorem n55c {n : Nat} {o l : Nat → Bool} {q : List Int} {m i : Nat} {a b : Int} (ha : 0 ≤ a ∧ a < 7) (hb : 0 ≤ b ∧ b < 7) (h : at7 o b.toNat a.toNat = false) : Exec PP T none x55.nt 0 N55.b.b.a.i.b (E55 n o l q m i a b) .n (D55 n o (cutS l a b) q m i) := by
  refine exec_orun env0 false 60 [false] [0, 1, 2, 3] (fun _ => rfl) (by kernel_rfl) (by kernel_rfl) (by kernel_rfl) ?_
  rw [(show obOf (orun g0 false 60 N55.b.b.a.i.b (E55 n o l q m i a b) [false]) = (decide (0 ≤ b) && decide (b < 7) && (decide (0 ≤ a) && decide (a < 7) && (decide (0 + (0 + b.toNat * 7 + a.toNat * 1) < 49) && true)) && true && (!o (0 + (0 + b.toNat * 7 + a.toNat * 1)) && true) && (decide (0 ≤ a) && decide (a < 7) && (decide (0 ≤ b) && decide (b < 7) && (decide (0 + (0 + a.toNat * 7 + b.toNat * 1) < 49) && true && true && (decide (0 ≤ b) && decide (b < 7) && (decide (0 ≤ a) && decide (a < 7) && (decide (0 + (0 + b.toNat * 7 + a.toNat * 1) < 49) && true && true && true))))) && true)) from by kernel_rfl)]
  unfold at7 at h
  simp [h]
  omega
theorem n55r {n : Nat} {o l : Nat → Bool} {q : List Int} {m i : Nat} {a b : Int} (ha : 0 ≤ a ∧ a < 7) (hb : 0 ≤ b ∧ b < 7) (h : at7 o b.toNat a.toNat = true) : Exec PP T none x55.nt 0 N55.b.b.a.i.b (E55 n o l q m i a b) .r (mkSt [(2, g1S 0), (3, ⟨true, B false⟩)] [R70 ff] 1 []) := by
  refine exec_orun env0 false 60 [true] [0] (fun _ => rfl) (by kernel_rfl) (by kernel_rfl) (by kernel_rfl) ?_
  rw [(show obOf (orun g0 false 60 N55.b.b.a.i.b (E55 n o l q m i a b) [true]) = (decide (0 ≤ b) && decide (b < 7) && (decide (0 ≤ a) && decide (a < 7) && (decide (0 + (0 + b.toNat * 7 + a.toNat * 1) < 49) && true)) && true && (o (0 + (0 + b.toNat * 7 + a.toNat * 1)) && true)) from by kernel_rfl)]
  unfold at7 at h
  simp [h]
  omega
theorem d55 {n : Nat} {o l : Nat → Bool} : Exec PP T none x55.nt 0 x55.body.b.b.b.b (S55 n o l) .r (mkSt [(2, g1S 0), (3, ⟨true, B (transB o)⟩)] [R70 o] 1 []) := by
  refine exec_orun env9 false 60 [] [0] (fun _ => rfl) (by kernel_rfl) (by kernel_rfl) (by kernel_rfl) ?_
  rw [(show obOf (orun g9 false 60 x55.body.b.b.b.b (S55 n o l) []) = (true && true && true) from by kernel_rfl)]
  simp
theorem rng7 {x : Nat} (h : x < 7) : 0 ≤ Int.ofNat x ∧ Int.ofNat x < 7 := ⟨by simp, by simp; omega⟩
def orS (o : Nat → Bool) (L : List (Nat × Nat)) : Nat → Bool := L.foldl (fun o p => relS o (Int.ofNat p.1) (Int.ofNat p.2)) o
def cutL (l : Nat → Bool) (L : List (Nat × Nat)) : Nat → Bool := L.foldl (fun l p => cutS l (Int.ofNat p.1) (Int.ofNat p.2)) l
theorem take_succ {L : List (Nat × Nat)} {i : Nat} (hi : i < L.length) : L.take (i + 1) = L.take i ++ [L.getD i (0, 0)] := by
  rw [List.take_succ]
  simp [hi]
theorem orS_succ {o : Nat → Bool} {L : List (Nat × Nat)} {i : Nat} (hi : i < L.length) : orS o (L.take (i + 1)) = relS (orS o (L.take i)) (Int.ofNat (L.getD i (0, 0)).1) (Int.ofNat (L.getD i (0, 0)).2) := by
  unfold orS
  rw [take_succ hi, List.foldl_append]
  rfl
theorem cutL_succ {o : Nat → Bool} {L : List (Nat × Nat)} {i : Nat} (hi : i < L.length) : cutL o (L.take (i + 1)) = cutS (cutL o (L.take i)) (Int.ofNat (L.getD i (0, 0)).1) (Int.ofNat (L.getD i (0, 0)).2) := by
  unfold cutL
  rw [take_succ hi, List.foldl_append]
  rfl
theorem flatN_at {L : List (Nat × Nat)} {i : Nat} (hi : i < L.length) : qA (flatN L) i = Int.ofNat (L.getD i (0, 0)).1 ∧ qB (flatN L) i = Int.ofNat (L.getD i (0, 0)).2 := by
  have hp : L[i]? = some (L.getD i (0, 0)) := by simp [hi]
  have := flatN_get hp
  show (flatN L).getD (0 + (0 + i) * 2 + 0) 0 = _ ∧ (flatN L).getD (0 + (0 + i) * 2 + 0 + 1) 0 = _
  rw [show 0 + (0 + i) * 2 + 0 = i * 2 by omega]
  exact this
/-- an arrow of a class whose turned one is there -/
def clashA (o : Nat → Bool) (L : List (Nat × Nat)) (i : Nat) : Bool := at7 o (L.getD i (0, 0)).2 (L.getD i (0, 0)).1
theorem loopM {n : Nat} {o l : Nat → Bool} {L : List (Nat × Nat)} (hL : ∀ p ∈ L, p.1 < 7 ∧ p.2 < 7) (hl : L.length ≤ 49) : Exec PP T none x55.nt 0 X55.b.b.b.a (B55 n o l (flatN L) L.length) .n (B55 n (orS o L) l (flatN L) L.length) := by
  have e0 : orS o L = orS o (L.take L.length) := by rw [List.take_length]
  rw [e0]
  refine exec_seq (x := X55.b.b.b.a.a) (y := .block 2 (.loop M55)) m55i (exec_block (e := .x 2) ?_)
  refine exec_loop_up (fun i => C55 n (orS o (L.take i)) l (flatN L) L.length i) L.length (fun i hi => ?_) (exec_seq (x := M55.a) (y := M55.b) m55a (exec_seq_x (x := M55.b.a) (y := M55.b.b) m55x (by simp))) (by simp) 0 (by omega)
  obtain ⟨e1, e2⟩ := flatN_at hi
  have hr := hL (L.getD i (0, 0)) (by simp [hi])
  have key := m55y (n := n) (o := orS o (L.take i)) (l := l) (q := flatN L) (m := L.length) (i := i) (flatN_len L) hi (by rw [e1]; exact rng7 hr.1) (by rw [e2]; exact rng7 hr.2)
  rw [e1, e2, ← orS_succ hi] at key
  exact exec_seq (x := M55.a) (y := M55.b) m55a (exec_seq (x := M55.b.a) (y := M55.b.b) (m55b hi) (exec_seq (x := M55.b.b.a) (y := M55.b.b.b) (exec_block (id := 3) (x := M55.b.b.a.i) (e := .n) key) (m55e (by omega))))
theorem stepN {n : Nat} {o l : Nat → Bool} {L : List (Nat × Nat)} (hL : ∀ p ∈ L, p.1 < 7 ∧ p.2 < 7) (hl : L.length ≤ 49) {i : Nat} (hi : i < L.length) (h : clashA o L i = false) : Exec PP T none x55.nt 0 N55 (D55 n o (cutL l (L.take i)) (flatN L) L.length i) .n (D55 n o (cutL l (L.take (i + 1))) (flatN L) L.length (i + 1)) := by
  obtain ⟨e1, e2⟩ := flatN_at hi
  have hr := hL (L.getD i (0, 0)) (by simp [hi])
  have k1 := n55y (n := n) (o := o) (l := cutL l (L.take i)) (q := flatN L) (m := L.length) (i := i) (flatN_len L) hi
  rw [e1, e2] at k1
  have k2 := n55c (n := n) (o := o) (l := cutL l (L.take i)) (q := flatN L) (m := L.length) (i := i) (a := Int.ofNat (L.getD i (0, 0)).1) (b := Int.ofNat (L.getD i (0, 0)).2) (rng7 hr.1) (rng7 hr.2) h
  rw [← cutL_succ hi] at k2
  exact exec_seq (x := N55.a) (y := N55.b) n55a (exec_seq (x := N55.b.a) (y := N55.b.b) (n55b hi) (exec_seq (x := N55.b.b.a) (y := N55.b.b.b) (exec_block (id := 5) (x := N55.b.b.a.i) (e := .n) (exec_seq (x := N55.b.b.a.i.a) (y := N55.b.b.a.i.b) k1 k2)) (n55e (by omega))))
theorem loopN {n : Nat} {o l : Nat → Bool} {L : List (Nat × Nat)} (hL : ∀ p ∈ L, p.1 < 7 ∧ p.2 < 7) (hl : L.length ≤ 49) (h : (List.range L.length).any (clashA o L) = false) : Exec PP T none x55.nt 0 X55.b.b.b.b (B55 n o l (flatN L) L.length) .n (S55 n o (cutL l L)) := by
  have h3 := any_none _ _ h
  have e0 : cutL l L = cutL l (L.take L.length) := by rw [List.take_length]
  rw [e0]
  refine exec_seq (x := X55.b.b.b.b.a) (y := .block 4 (.loop N55)) n55i (exec_block (e := .x 4) ?_)
  exact exec_loop_up (fun i => D55 n o (cutL l (L.take i)) (flatN L) L.length i) L.length (fun i hi => stepN hL hl hi (h3 i hi)) (exec_seq (x := N55.a) (y := N55.b) n55a (exec_seq_x (x := N55.b.a) (y := N55.b.b) n55x (by simp))) (by simp) 0 (by omega)
theorem loopNr {n : Nat} {o l : Nat → Bool} {L : List (Nat × Nat)} (hL : ∀ p ∈ L, p.1 < 7 ∧ p.2 < 7) (hl : L.length ≤ 49) (h : (List.range L.length).any (clashA o L) = true) : Exec PP T none x55.nt 0 X55.b.b.b.b (B55 n o l (flatN L) L.length) .r (mkSt [(2, g1S 0), (3, ⟨true, B false⟩)] [R70 ff] 1 []) := by
  obtain ⟨p, h1, h2, h3⟩ := any_first _ _ h
  refine exec_seq (x := X55.b.b.b.b.a) (y := .block 4 (.loop N55)) n55i (exec_block (e := .r) ?_)
  refine exec_loop_up (fun i => D55 n o (cutL l (L.take i)) (flatN L) L.length i) p (fun i hi => stepN hL hl (by omega) (h3 i hi)) ?_ (by simp [XE.unblock]) 0 (by omega)
  obtain ⟨e1, e2⟩ := flatN_at h1
  have hr := hL (L.getD p (0, 0)) (by simp [h1])
  have k1 := n55y (n := n) (o := o) (l := cutL l (L.take p)) (q := flatN L) (m := L.length) (i := p) (flatN_len L) h1
  rw [e1, e2] at k1
  exact exec_seq (x := N55.a) (y := N55.b) n55a (exec_seq (x := N55.b.a) (y := N55.b.b) (n55b h1) (exec_seq_x (x := N55.b.b.a) (y := N55.b.b.b) (exec_block (id := 5) (x := N55.b.b.a.i) (e := .r) (exec_seq (x := N55.b.b.a.i.a) (y := N55.b.b.a.i.b) k1 (n55r (rng7 hr.1) (rng7 hr.2) h2))) (by simp [XE.unblock])))
end Go.Proofs.Yteekkjfjpoaihaa.Eng
namespace Go.Proofs.Yteekkjfjpoaihaa.Eng
open Go Go.Proofs
theorem mem_rowL {g : Nat → Nat → Bool} {a b : Nat} {p : Int × Int} : p ∈ rowL g a b ↔ ∃ y, y < b ∧ g a y = true ∧ p = (Int.ofNat a, Int.ofNat y) := by
  unfold rowL
  simp only [List.mem_map, List.mem_filter, List.mem_range]
  constructor
  · rintro ⟨y, ⟨h1, h2⟩, rfl⟩; exact ⟨y, h1, h2, rfl⟩
  · rintro ⟨y, h1, h2, rfl⟩; exact ⟨y, ⟨h1, h2⟩, rfl⟩
theorem mem_listL {g : Nat → Nat → Bool} {n a : Nat} {p : Int × Int} : p ∈ listL g n a ↔ ∃ x y, x < a ∧ y < n ∧ g x y = true ∧ p = (Int.ofNat x, Int.ofNat y) := by
  unfold listL
  simp only [List.mem_flatMap, List.mem_range, mem_rowL]
  constructor
  · rintro ⟨x, h0, y, h1, h2, h3⟩; exact ⟨x, y, h0, h1, h2, h3⟩
  · rintro ⟨x, y, h0, h1, h2, h3⟩; exact ⟨x, h0, y, h1, h2, h3⟩
theorem rowL_le {g g' : Nat → Nat → Bool} {a : Nat} : ∀ {b : Nat}, (∀ y, y < b → g' a y = true → g a y = true) → (rowL g' a b).length ≤ (rowL g a b).length
  | 0, _ => by simp [rowL]
  | b + 1, h => by
    have ih := rowL_le (b := b) fun y hy => h y (by omega)
    cases h1 : g' a b with
    | true =>
      rw [rowL_t h1, rowL_t (h b (by omega) h1)]
      simp
      exact ih
    | false =>
      rw [rowL_f h1]
      cases h2 : g a b with
      | true => rw [rowL_t h2]; simp; omega
      | false => rw [rowL_f h2]; exact ih
theorem rowL_lt {g g' : Nat → Nat → Bool} {a y : Nat} (hg : g a y = true) (hg' : g' a y = false) : ∀ {b : Nat}, (∀ y, y < b → g' a y = true → g a y = true) → y < b → (rowL g' a b).length < (rowL g a b).length
  | 0, _, hy => by omega
  | b + 1, h, hy => by
    by_cases e : y = b
    · subst e
      rw [rowL_f hg', rowL_t hg]
      have := rowL_le (b := y) fun z hz => h z (by omega)
      simp
      omega
    · have ih := rowL_lt hg hg' (b := b) (fun z hz => h z (by omega)) (by omega)
      cases h1 : g' a b with
      | true =>
        rw [rowL_t h1, rowL_t (h b (by omega) h1)]
        simp
        exact ih
      | false =>
        rw [rowL_f h1]
        cases h2 : g a b with
        | true => rw [rowL_t h2]; simp; omega
        | false => rw [rowL_f h2]; exact ih
theorem listL_le {g g' : Nat → Nat → Bool} {n : Nat} : ∀ {a : Nat}, (∀ x y, x < a → y < n → g' x y = true → g x y = true) → (listL g' n a).length ≤ (listL g n a).length
  | 0, _ => by simp [listL]
  | a + 1, h => by
    rw [listL_succ, listL_succ, List.length_append, List.length_append]
    have := listL_le (a := a) fun x y hx => h x y (by omega)
    have := rowL_le (a := a) (b := n) fun y hy => h a y (by omega) hy
    omega
theorem listL_lt {g g' : Nat → Nat → Bool} {n x y : Nat} (hy : y < n) (hg : g x y = true) (hg' : g' x y = false) : ∀ {a : Nat}, (∀ x y, x < a → y < n → g' x y = true → g x y = true) → x < a → (listL g' n a).length < (listL g n a).length
  | 0, _, hx => by omega
  | a + 1, h, hx => by
    rw [listL_succ, listL_succ, List.length_append, List.length_append]
    have h1 := listL_le (a := a) fun x y hx => h x y (by omega)
    have h2 := rowL_le (a := a) (b := n) fun y hy => h a y (by omega) hy
    by_cases e : x = a
    · subst e
      have := rowL_lt hg hg' (b := n) (fun y hy => h x y (by omega) hy) hy
      omega
    · have := listL_lt hy hg hg' (a := a) (fun x y hx => h x y (by omega)) (by omega)
      omega
theorem beq_pair {a b x y : Nat} : ((a, b) == (x, y)) = (Nat.beq a x && Nat.beq b y) := by
  rw [Bool.eq_iff_iff, Bool.and_eq_true, beq_iff_eq, Prod.mk.injEq]
  exact ⟨fun ⟨h1, h2⟩ => ⟨beqT h1, beqT h2⟩, fun ⟨h1, h2⟩ => ⟨Nat.eq_of_beq_eq_true h1, Nat.eq_of_beq_eq_true h2⟩⟩
theorem at7_cutS {l : Nat → Bool} {a b x y : Nat} (ha : a < 7) (hb : b < 7) (hx : x < 7) (hy : y < 7) : at7 (cutS l (Int.ofNat a) (Int.ofNat b)) x y = (at7 l x y && (!((x, y) == (a, b)) && !((y, x) == (a, b)))) := by
  unfold at7 cutS
  simp only [List.length_cons, List.length_nil, beq_pair]
  by_cases h1 : x = b ∧ y = a
  · obtain ⟨rfl, rfl⟩ := h1
    rw [beqT (by simp), cond_true, beqT (show y = y from rfl), beqT (show x = x from rfl)]
    simp
  · rw [beqF (by simp; omega), cond_false]
    by_cases h2 : x = a ∧ y = b
    · obtain ⟨rfl, rfl⟩ := h2
      rw [beqT (by simp), cond_true, beqT (show x = x from rfl), beqT (show y = y from rfl)]
      simp
    · rw [beqF (by simp; omega), cond_false]
      have e1 : (Nat.beq x a && Nat.beq y b) = false := by
        cases hh : (Nat.beq x a && Nat.beq y b) with
        | false => rfl
        | true =>
          rw [Bool.and_eq_true] at hh
          exact absurd ⟨Nat.eq_of_beq_eq_true hh.1, Nat.eq_of_beq_eq_true hh.2⟩ h2
      have e2 : (Nat.beq y a && Nat.beq x b) = false := by
        cases hh : (Nat.beq y a && Nat.beq x b) with
        | false => rfl
        | true =>
          rw [Bool.and_eq_true] at hh
          exact absurd ⟨Nat.eq_of_beq_eq_true hh.2, Nat.eq_of_beq_eq_true hh.1⟩ h1
      rw [e1, e2]
      simp
theorem at7_cutL : ∀ {L : List (Nat × Nat)} {l : Nat → Bool}, (∀ p ∈ L, p.1 < 7 ∧ p.2 < 7) → ∀ {x y : Nat}, x < 7 → y < 7 → at7 (cutL l L) x y = (at7 l x y && (!(L.contains (x, y)) && !(L.contains (y, x))))
  | [], l, _, x, y, hx, hy => by simp [cutL]
  | (a, b) :: L, l, h, x, y, hx, hy => by
    have hp := h (a, b) (by simp)
    show at7 (cutL (cutS l (Int.ofNat a) (Int.ofNat b)) L) x y = _
    rw [at7_cutL (fun p hp => h p (by simp [hp])) hx hy, at7_cutS hp.1 hp.2 hx hy, List.contains_cons, List.contains_cons]
    cases at7 l x y <;> cases (x, y) == (a, b) <;> cases (y, x) == (a, b) <;> cases L.contains (x, y) <;> cases L.contains (y, x) <;> rfl
theorem at7_relS7 {o : Nat → Bool} {a b x y : Nat} (ha : a < 7) (hb : b < 7) (hx : x < 7) (hy : y < 7) : at7 (relS o (Int.ofNat a) (Int.ofNat b)) x y = (at7 o x y || ((x, y) == (a, b))) := by
  rw [at7_relS (rng7 ha) (rng7 hb) hx hy]
  congr 1
  rw [beq_pair, Bool.eq_iff_iff]
  simp
  omega
theorem at7_orS : ∀ {L : List (Nat × Nat)} {o : Nat → Bool}, (∀ p ∈ L, p.1 < 7 ∧ p.2 < 7) → ∀ {x y : Nat}, x < 7 → y < 7 → at7 (orS o L) x y = (at7 o x y || L.contains (x, y))
  | [], o, _, x, y, hx, hy => by simp [orS]
  | (a, b) :: L, o, h, x, y, hx, hy => by
    have hp := h (a, b) (by simp)
    show at7 (orS (relS o (Int.ofNat a) (Int.ofNat b)) L) x y = _
    rw [at7_orS (fun p hp => h p (by simp [hp])) hx hy, at7_relS7 hp.1 hp.2 hx hy, List.contains_cons]
    cases at7 o x y <;> cases (x, y) == (a, b) <;> cases L.contains (x, y) <;> rfl
/-- the class holds its arrow -/
theorem pushL_mem {l : List (Nat × Nat)} {p q : Nat × Nat} (h : q ∈ l) : q ∈ pushL l p := by
  unfold pushL
  cases l.contains p with
  | true => exact h
  | false => exact List.mem_append.2 (.inl h)
theorem stepL_mem {f : Nat → Bool} {a b c : Nat} {l : List (Nat × Nat)} {q : Nat × Nat} (h : q ∈ l) : q ∈ stepL f a b c l := by
  unfold stepL
  cases cnd1 f a b c <;> cases cnd2 f a b c
  · exact h
  · exact pushL_mem h
  · exact pushL_mem h
  · exact pushL_mem (pushL_mem h)
theorem forcedL_mem {f : Nat → Bool} {a b : Nat} {l : List (Nat × Nat)} {q : Nat × Nat} (h : q ∈ l) : ∀ c, q ∈ forcedL f a b l c
  | 0 => pushL_mem h
  | c + 1 => stepL_mem (forcedL_mem h c)
theorem lstI_mem {n : Nat} {f : Nat → Bool} {a b : Nat} : ∀ i, (a, b) ∈ lstI n f a b i
  | 0 => by simp [lstI]
  | i + 1 => forcedL_mem (lstI_mem i) n
theorem rchL_mem {n : Nat} {f : Nat → Bool} {a b : Nat} : (a, b) ∈ rchL n f a b := lstI_mem _
/-- the first arrow -/
theorem fst_spec {n : Nat} {l : Nat → Bool} (h : ¬ (arrowsL n l).length = 0) : (flat (arrowsL n l)).getD (0 + (0 + 0) * 2 + 0) 0 = Int.ofNat (fstX n l) ∧ (flat (arrowsL n l)).getD (0 + (0 + 0) * 2 + 0 + 1) 0 = Int.ofNat (fstY n l) ∧ fstX n l < n ∧ fstY n l < n ∧ at7 l (fstX n l) (fstY n l) = true := by
  cases hl : arrowsL n l with
  | nil => rw [hl] at h; exact absurd rfl h
  | cons p r =>
    have hm : p ∈ arrowsL n l := by rw [hl]; simp
    obtain ⟨x, y, hx, hy, hg, rfl⟩ := mem_listL.1 hm
    have e1 : (flat (arrowsL n l)).getD (0 + (0 + 0) * 2 + 0) 0 = Int.ofNat x := by rw [hl]; rfl
    have e2 : (flat (arrowsL n l)).getD (0 + (0 + 0) * 2 + 0 + 1) 0 = Int.ofNat y := by rw [hl]; rfl
    have f1 : fstX n l = x := by unfold fstX; rw [e1]; rfl
    have f2 : fstY n l = y := by unfold fstY; rw [e2]; rfl
    rw [← hl, e1, e2, f1, f2]
    exact ⟨rfl, rfl, hx, hy, hg⟩
theorem cls_ok {n : Nat} {l : Nat → Bool} (hn : n ≤ 7) (h : ¬ (arrowsL n l).length = 0) : Inv (rchS n l (fstX n l) (fstY n l)) (clsO n l) := by
  obtain ⟨_, _, h1, h2, _⟩ := fst_spec h
  exact rch_inv (by omega) (by omega) hn
theorem cls_len {n : Nat} {l : Nat → Bool} (hn : n ≤ 7) (h : ¬ (arrowsL n l).length = 0) : (clsO n l).length ≤ 49 := by
  have := (cls_ok hn h).short
  rw [(cls_ok hn h).m] at this
  exact this
theorem less_arrows {n : Nat} {l : Nat → Bool} (hn : n ≤ 7) (h : ¬ (arrowsL n l).length = 0) : (arrowsL n (cutL l (clsO n l))).length < (arrowsL n l).length := by
  obtain ⟨_, _, h1, h2, h3⟩ := fst_spec h
  have hr := (cls_ok hn h).rng
  refine listL_lt (x := fstX n l) (y := fstY n l) h2 h3 ?_ (fun x y hx hy hg => ?_) h1
  · show at7 (cutL l (clsO n l)) (fstX n l) (fstY n l) = false
    have hm : (clsO n l).contains (fstX n l, fstY n l) = true := List.contains_iff_mem.2 rchL_mem
    rw [at7_cutL hr (by omega) (by omega), hm]
    simp
  · have hg : at7 (cutL l (clsO n l)) x y = true := hg
    rw [at7_cutL hr (by omega) (by omega), Bool.and_eq_true] at hg
    exact hg.1
def og (n : Nat) (f : Nat → Bool) : Nat → (Nat → Bool) × (Nat → Bool)
  | 0 => (ff, f)
  | i + 1 => (orS (og n f i).1 (clsO n (og n f i).2), cutL (og n f i).2 (clsO n (og n f i).2))
def emptyAt (n : Nat) (f : Nat → Bool) (i : Nat) : Bool := Nat.beq (arrowsL n (og n f i).2).length 0
def failAt (n : Nat) (f : Nat → Bool) (i : Nat) : Bool := (List.range (clsO n (og n f i).2).length).any (clashA (orS (og n f i).1 (clsO n (og n f i).2)) (clsO n (og n f i).2))
def endAt (n : Nat) (f : Nat → Bool) (i : Nat) : Bool := emptyAt n f i || failAt n f i
def stopG (n : Nat) (f : Nat → Bool) : Nat := ((List.range 50).find? (endAt n f)).getD 50
theorem og_len {n : Nat} {f : Nat → Bool} (hn : n ≤ 7) : ∀ i, (∀ j, j < i → emptyAt n f j = false) → (arrowsL n (og n f i).2).length + i ≤ 49
  | 0, _ => by
    have := listL_len (gg53 n (og n f 0).2) n n
    have : n * n ≤ 7 * 7 := Nat.mul_le_mul hn hn
    show (listL _ n n).length + 0 ≤ 49
    omega
  | i + 1, h => by
    have ih := og_len hn i fun j hj => h j (by omega)
    have he : ¬ (arrowsL n (og n f i).2).length = 0 := fun e => by
      have := h i (by omega)
      unfold emptyAt at this
      rw [beqT e] at this; cases this
    have := less_arrows hn he
    show (arrowsL n (cutL _ _)).length + (i + 1) ≤ 49
    omega
theorem stopG_spec {n : Nat} {f : Nat → Bool} (hn : n ≤ 7) : endAt n f (stopG n f) = true ∧ ∀ j, j < stopG n f → endAt n f j = false := by
  unfold stopG
  cases hf : (List.range 50).find? (endAt n f) with
  | none =>
    have h := List.find?_range_eq_none.1 hf
    have h2 : ∀ j, j < 50 → emptyAt n f j = false := fun j hj => by
      have := h j hj
      simp [endAt] at this
      exact this.1
    have := og_len (f := f) hn 50 h2
    omega
  | some i =>
    obtain ⟨h1, h2, h3⟩ := List.find?_range_eq_some.1 hf
    exact ⟨h1, fun j hj => by simpa using h3 j hj⟩
theorem step55 {n : Nat} {o l : Nat → Bool} (hn : n ≤ 7) (h : ¬ (arrowsL n l).length = 0) (hc : (List.range (clsO n l).length).any (clashA (orS o (clsO n l)) (clsO n l)) = false) : Exec PP T none x55.nt 0 (.block 1 X55) (S55 n o l) .n (S55 n (orS o (clsO n l)) (cutL l (clsO n l))) := by
  obtain ⟨e1, e2, h1, h2, _⟩ := fst_spec h
  have hr := (cls_ok hn h).rng
  have hl := cls_len hn h
  refine exec_block (id := 1) (x := X55) (e := .n) (exec_seq (x := X55.a) (y := X55.b) (r55a hn) (exec_seq (x := X55.b.a) (y := X55.b.b) (r55b h) (exec_seq (x := X55.b.b.a) (y := X55.b.b.b) (r55c hn h (by rw [e1]; exact rng7 (by omega)) (by rw [e2]; exact rng7 (by omega))) (exec_seq (x := X55.b.b.b.a) (y := X55.b.b.b.b) (loopM hr hl) (loopN hr hl hc)))))
theorem step55r {n : Nat} {o l : Nat → Bool} (hn : n ≤ 7) (h : ¬ (arrowsL n l).length = 0) (hc : (List.range (clsO n l).length).any (clashA (orS o (clsO n l)) (clsO n l)) = true) : Exec PP T none x55.nt 0 (.block 1 X55) (S55 n o l) .r (mkSt [(2, g1S 0), (3, ⟨true, B false⟩)] [R70 ff] 1 []) := by
  obtain ⟨e1, e2, h1, h2, _⟩ := fst_spec h
  have hr := (cls_ok hn h).rng
  have hl := cls_len hn h
  refine exec_block (id := 1) (x := X55) (e := .r) (exec_seq (x := X55.a) (y := X55.b) (r55a hn) (exec_seq (x := X55.b.a) (y := X55.b.b) (r55b h) (exec_seq (x := X55.b.b.a) (y := X55.b.b.b) (r55c hn h (by rw [e1]; exact rng7 (by omega)) (by rw [e2]; exact rng7 (by omega))) (exec_seq (x := X55.b.b.b.a) (y := X55.b.b.b.b) (loopM hr hl) (loopNr hr hl hc)))))
theorem step55x {n : Nat} {o l : Nat → Bool} (hn : n ≤ 7) (h : (arrowsL n l).length = 0) : Exec PP T none x55.nt 0 (.block 1 X55) (S55 n o l) (.x 0) (S55 n o l) :=
  exec_block (id := 1) (x := X55) (e := .x 0) (exec_seq (x := X55.a) (y := X55.b) (r55a hn) (exec_seq_x (x := X55.b.a) (y := X55.b.b) (r55x h) (by simp)))
/-- what orient answers -/
def oriOk (n : Nat) (f : Nat → Bool) : Bool := emptyAt n f (stopG n f) && transB (og n f (stopG n f)).1
def oriR (n : Nat) (f : Nat → Bool) : Nat → Bool := bif emptyAt n f (stopG n f) then (og n f (stopG n f)).1 else ff
theorem body55 {n : Nat} {f : Nat → Bool} (hn : n ≤ 7) : Exec PP T none x55.nt 0 x55.body (startSt [.s (.ptr 0 0 0)] [RG n f]) .r (mkSt [(2, g1S 0), (3, ⟨true, B (oriOk n f)⟩)] [R70 (oriR n f)] 1 []) := by
  obtain ⟨h1, h2⟩ := stopG_spec (f := f) hn
  have hloop : ∀ {e : XE} {S' : St}, Exec PP T none x55.nt 0 (.block 1 X55) (S55 n (og n f (stopG n f)).1 (og n f (stopG n f)).2) e S' → e ≠ .n → Exec PP T none x55.nt 0 (.loop (.block 1 X55)) (S55 n ff f) e S' := fun hx he =>
    exec_loop_up (fun i => S55 n (og n f i).1 (og n f i).2) (stopG n f) (fun i hi => by
      have := h2 i hi
      unfold endAt at this
      rw [Bool.or_eq_false_iff] at this
      refine step55 hn (fun e => ?_) this.2
      have h := this.1
      unfold emptyAt at h
      rw [beqT e] at h; cases h) hx he 0 (by omega)
  refine exec_seq (x := x55.body.a) (y := x55.body.b) a55 (exec_seq (x := x55.body.b.a) (y := x55.body.b.b) b55 (exec_seq (x := x55.body.b.b.a) (y := x55.body.b.b.b) cc55 ?_))
  unfold oriOk oriR
  cases he : emptyAt n f (stopG n f) with
  | true =>
    rw [Bool.true_and, cond_true]
    have h0 : (arrowsL n (og n f (stopG n f)).2).length = 0 := Nat.eq_of_beq_eq_true he
    exact exec_seq (x := x55.body.b.b.b.a) (y := x55.body.b.b.b.b) (exec_block (id := 0) (x := .loop (.block 1 X55)) (e := .x 0) (hloop (step55x hn h0) (by simp))) (d55 (n := n) (l := (og n f (stopG n f)).2))
  | false =>
    rw [Bool.false_and, cond_false]
    have hf : failAt n f (stopG n f) = true := by
      unfold endAt at h1
      rw [he, Bool.false_or] at h1
      exact h1
    have h0 : ¬ (arrowsL n (og n f (stopG n f)).2).length = 0 := fun e => by
      unfold emptyAt at he
      rw [beqT e] at he; cases he
    exact exec_seq_x (x := x55.body.b.b.b.a) (y := x55.body.b.b.b.b) (exec_block (id := 0) (x := .loop (.block 1 X55)) (e := .r) (hloop (step55r hn h0 hf) (by simp))) (by simp [XE.unblock])
def gOrient (args : List AV) (h : Nat → Option HO) : Option (Bool × TV × List Nat) := match args with
  | [.s (.ptr g 0 0)] => match h g with
    | some ⟨_, .row 115 [.int .i64 n] 49 f⟩ => some (decide (0 ≤ n) && decide (n ≤ 7), .tup [.pb [] 49 (oriR n.toNat f), .s (.bool (oriOk n.toNat f))], [g])
    | _ => none
  | _ => none
theorem gOrient_fp : PureFp gOrient := by
  intro args h h' q hg hf
  unfold gOrient at hg ⊢
  split at hg
  case h_2 => cases hg
  split at hg
  case h_2 => cases hg
  rename_i hgg
  cases hg
  simp only [hf _ (List.mem_singleton.2 rfl), hgg]
theorem ok55 : SpecOK PP (compC T) 55 (pureS gOrient) := by
  refine spec_pure tokP o55 fun ctx m h w args vals u rd base hH hargs hg => ?_
  unfold gOrient at hg
  split at hg
  case h_2 => cases hg
  rename_i g
  split at hg
  case h_2 => cases hg
  rename_i ro n f hgg
  simp only [Option.some.injEq, Prod.mk.injEq, Bool.and_eq_true, decide_eq_true_eq] at hg
  obtain ⟨⟨h4, h5⟩, rfl, rfl⟩ := hg
  obtain ⟨n, rfl⟩ : ∃ k : Nat, n = Int.ofNat k := ⟨n.toNat, by simp; omega⟩
  match vals, hargs with
  | [v1], ⟨ha1, _⟩ =>
    obtain ⟨mb, k1, k2, k3⟩ := view_row hH ha1 hgg (eqB_refl 49 f)
    exact ⟨mm1 mb, [RG n f], [.s (.ptr 0 0 0)], shown_valH (hs' := [R70 (oriR n f)]) (ro1 k1 k2) ⟨k3 (mm1 mb) 0 rfl, trivial⟩ (by kernel_rfl) (body55 (by simp at h5; omega)) (fun _ => rfl) (by kernel_rfl) (by kernel_rfl)⟩
end Go.Proofs.Yteekkjfjpoaihaa.Eng
namespace Go.Proofs.Yteekkjfjpoaihaa.Eng
open Go Go.Proofs
/-- a function of an int and a slice of pairs that makes one list of ints, two a pair -/
def intPairsL (c : Int → List Int → Nat → Bool) (v : Int → List Int → Nat → TV) (ty : TypeId) (o : Int → List Int → Nat → List Int) : Spec where
  run := fun args h base => match args with
    | [.s (.int .i64 n), s] => match srcOf (.av s) h .i64 2 with
      | some (vc, q, m, rd) => some ⟨vc && (bndL m && c n q m), (v n q m).ren (renN [0] base), [], [⟨false, .ivec ty .i64 2 (o n q m)⟩], some rd⟩
      | none => none
    | _ => none
theorem intPairsL_fp {c : Int → List Int → Nat → Bool} {v : Int → List Int → Nat → TV} {ty : TypeId} {o : Int → List Int → Nat → List Int} : SpecFp (intPairsL c v ty o) := by
  intro args h h' base e hr hf
  simp only [intPairsL] at hr ⊢
  split at hr
  · split at hr
    · rename_i hs
      cases hr
      simp only [srcOf_fp hs hf]
    · cases hr
  · cases hr
theorem intPairsL_ok {f : FuncId} {x : XFn} (hx : FunOK PP T f x) {c : Int → List Int → Nat → Bool} {v : Int → List Int → Nat → TV} {ty : TypeId} {o : Int → List Int → Nat → List Int} (t : Int → List Int → Nat → List (Nat × Slot)) (hlen : Nat.ble 2 x.nt = true)
    (hb : ∀ n q m, q.length = m * 2 → m ≤ 1000000000 → c n q m = true → Exec PP T none x.nt 0 x.body (startSt (A40 n m) (H1 q)) .r (mkSt (t n q m) [⟨false, .ivec ty .i64 2 (o n q m)⟩] 1 []))
    (hres : ∀ n q m, resV (mkSt (t n q m) [⟨false, .ivec ty .i64 2 (o n q m)⟩] 1 []).sl.get (mkSt (t n q m) [⟨false, .ivec ty .i64 2 (o n q m)⟩] 1 []).hp.get x.res = some (true, v n q m)) (hids : ∀ n q m, (v n q m).ids.all (Nat.beq 0) = true) : SpecOK PP (compC T) f (intPairsL c v ty o) := by
  refine spec_gen tokP hx fun ctx m h w args vals base e hH hargs hr hvc => ?_
  simp only [intPairsL] at hr
  split at hr
  · rename_i n s
    split at hr
    · rename_i vc q m' rd hs
      cases hr
      simp only [Bool.and_eq_true] at hvc
      obtain ⟨rfl, hm, he⟩ := hvc
      match vals, hargs with
      | [v1, v2], ⟨ha1, ha2, _⟩ =>
        obtain ⟨mb, k1, k2, k3, k4⟩ := view_slice hH ha2 hs
        exact ⟨rfl, mm1 mb, H1 q, A40 n m', shown_new (tv := v n q m') (o := .ivec ty .i64 2 (o n q m')) (ro1 k1 k2) ⟨ha1, k3 (mm1 mb) 0 rfl, trivial⟩ hlen (hb n q m' k4 (by simpa [bndL] using hm) he) (fun _ => rfl) (hres n q m') (hids n q m') rfl rfl rfl (fun _ => rfl)⟩
    · cases hr
  · cases hr
theorem err0_rng {n : Int} {q : List Int} {m : Nat} (h : err0 n q m = true) : 0 ≤ n ∧ n ≤ 7 := by
  unfold err0 checkP at h
  cases h1 : (decide (n < 1) || decide (n > 7)) with
  | true => rw [h1] at h; cases h
  | false => simp at h1; omega
def L10 : List (Nat × Spec) := [(48, spOpen), (55, pureS gOrient), (56, spTold)]
theorem L10_ok : SpecsL L10 := specsL_cons ok48 spOpen_fp o48 (specsL_cons ok55 (pureS_fp gOrient_fp) o55 (specsL_cons ok56 spTold_fp o56 (fun p hp => absurd hp (by simp))))
noncomputable abbrev g10 : Cal → Option Spec := specsΓ L10
theorem env10 : EnvOK PP T g10 := envL L10_ok
def oriY (n : Int) (q : List Int) (m : Nat) : Bool := err0 n q m && oriOk n.toNat (nearF q m)
def oriN (n : Int) (q : List Int) (m : Nat) : Bool := err0 n q m && !(oriOk n.toNat (nearF q m))
def oriL (n : Int) (q : List Int) (m : Nat) : List (Int × Int) := toldL (oriR n.toNat (nearF q m))
theorem y10 {n : Int} {q : List Int} {m : Nat} (hq : q.length = m * 2) (hm : m ≤ 1000000000) (hc : oriY n q m = true) : Exec PP T none x10.nt 0 x10.body (startSt (A40 n m) (H1 q)) .r (mkSt [(4, lsS 0 (oriL n q m).length), (5, ⟨true, B true⟩), (6, ⟨true, I 0⟩)] [⟨false, .ivec 38 .i64 2 (flat (oriL n q m))⟩] 1 []) := by
  unfold oriY at hc
  rw [Bool.and_eq_true] at hc
  obtain ⟨h0, h7⟩ := err0_rng hc.1
  have key : Exec PP T none x10.nt 0 x10.body (startSt (A40 n m) (H1 q)) .r (mkSt [(4, lsS 0 (oriL n (List.take (m * 2) (List.drop 0 q)) m).length), (5, ⟨true, B true⟩), (6, ⟨true, I 0⟩)] [⟨false, .ivec 38 .i64 2 (flat (oriL n (List.take (m * 2) (List.drop 0 q)) m))⟩] 1 []) := by
    refine exec_orun env10 false 90 [false, false] [18] (fun _ => rfl) (by kernel_rfl) (by kernel_rfl) (by kernel_rfl) ?_
    rw [(show obOf (orun g10 false 90 x10.body (startSt (A40 n m) (H1 q)) [false, false]) = (decide ((0 + m) * 2 ≤ q.length) && (decide (m ≤ 1000000000) && checkP n (List.take (m * 2) q) m == 0) && true && true && true && (decide (0 ≤ n) && decide (n ≤ 7) && true && (!!oriOk n.toNat (nearF (List.take (m * 2) q) m) && true && true))) from by kernel_rfl)]
    try rw [tk0 hq]
    have h1 := hc.1
    simp only [err0] at h1
    simp at h1
    simp [hq, hm, h1, h0, h7, hc.2]
  rw [tk hq] at key
  exact key
theorem n10 {n : Int} {q : List Int} {m : Nat} (hq : q.length = m * 2) (hm : m ≤ 1000000000) (hc : oriN n q m = true) : Exec PP T none x10.nt 0 x10.body (startSt (A40 n m) (H1 q)) .r (mkSt [(4, ⟨true, .av (.s .nils)⟩), (5, ⟨true, B false⟩), (6, ⟨true, I 0⟩)] [] 0 []) := by
  unfold oriN at hc
  rw [Bool.and_eq_true] at hc
  obtain ⟨h0, h7⟩ := err0_rng hc.1
  refine exec_orun env10 false 90 [false, true] [] (fun _ => rfl) (by kernel_rfl) (by kernel_rfl) (by kernel_rfl) ?_
  rw [(show obOf (orun g10 false 90 x10.body (startSt (A40 n m) (H1 q)) [false, true]) = (decide ((0 + m) * 2 ≤ q.length) && (decide (m ≤ 1000000000) && checkP n (List.take (m * 2) q) m == 0) && true && true && true && (decide (0 ≤ n) && decide (n ≤ 7) && true && (!oriOk n.toNat (nearF (List.take (m * 2) q) m) && true))) from by kernel_rfl)]
  try rw [tk0 hq]
  have h1 := hc.1
  simp only [err0] at h1
  simp at h1
  have h2 := hc.2
  simp at h2
  simp [hq, hm, h1, h0, h7, h2]
noncomputable abbrev sp10Y : Spec := intPairsL oriY (fun n q m => .tup [.s (.sl 0 0 2 (oriL n q m).length), .s (.bool true), .s (.int .i64 0)]) 38 fun n q m => flat (oriL n q m)
theorem ok10Y : SpecOK PP (compC T) 10 sp10Y := intPairsL_ok o10 (fun n q m => [(4, lsS 0 (oriL n q m).length), (5, ⟨true, B true⟩), (6, ⟨true, I 0⟩)]) (by kernel_rfl) (fun n q m hq hm hc => y10 hq hm hc) (fun n q m => by kernel_rfl) (fun n q m => by kernel_rfl)
theorem ok10N : SpecOK PP (compC T) 10 (pureS (intPairsX 0 oriN fun _ _ _ => .tup [.s .nils, .s (.bool false), .s (.int .i64 0)])) :=
  intPairsX_ok o10 0 oriN (fun n q m => [(4, ⟨true, .av (.s .nils)⟩), (5, ⟨true, B false⟩), (6, ⟨true, I 0⟩)]) _ (by kernel_rfl) (fun n q m hq hm hc => n10 hq hm hc) (fun n q m => by kernel_rfl) (fun n q m => by kernel_rfl)
def L12 : List (Nat × Spec) := [(60, pureS gNone), (61, pureS (gRel fun f => .av (.pb [] 49 (turnR f)))), (56, spTold)]
theorem L12_ok : SpecsL L12 := specsL_cons ok60 (pureS_fp gNone_fp) o60 (specsL_cons ok61 (pureS_fp (gRel_fp _)) o61 (specsL_cons ok56 spTold_fp o56 (fun p hp => absurd hp (by simp))))
noncomputable abbrev g12 : Cal → Option Spec := specsΓ L12
theorem env12 : EnvOK PP T g12 := envL L12_ok
theorem y12 {n : Int} {q : List Int} {m : Nat} {f : Nat → Bool} (h : eqB 49 f ff = false) : Exec PP T none x12.nt 0 x12.body.b.b (M12 n q m f 0) .r (mkSt [(4, lsS 0 (toldL (turnR f)).length), (5, ⟨true, I 0⟩)] [⟨false, .ivec 38 .i64 2 (flat (toldL (turnR f)))⟩] 1 []) := by
  refine exec_orun env12 false 90 [false] [18] (fun _ => rfl) (by kernel_rfl) (by kernel_rfl) (by kernel_rfl) ?_
  rw [(show obOf (orun g12 false 90 x12.body.b.b (M12 n q m f 0) [false]) = (true && true && ((!false != eqB 49 f fun x => false) && true) && true) from by kernel_rfl)]
  have h' : (eqB 49 f fun _ => false) = false := h
  simp [h']
theorem n12 {n : Int} {q : List Int} {m : Nat} {f : Nat → Bool} (h : eqB 49 f ff = true) : Exec PP T none x12.nt 0 x12.body.b.b (M12 n q m f 0) .r (mkSt [(4, ⟨true, .av (.s .nils)⟩), (5, ⟨true, I 0⟩)] [] 0 []) := by
  refine exec_orun env12 false 90 [true] [] (fun _ => rfl) (by kernel_rfl) (by kernel_rfl) (by kernel_rfl) ?_
  rw [(show obOf (orun g12 false 90 x12.body.b.b (M12 n q m f 0) [true]) = (true && true && ((false != eqB 49 f fun x => false) && true)) from by kernel_rfl)]
  have h' : (eqB 49 f fun _ => false) = true := h
  simp [h']
def turY (n : Int) (q : List Int) (m : Nat) : Bool := orderE n q m == 0 && !(eqB 49 (orderF n q m) ff)
def turN (n : Int) (q : List Int) (m : Nat) : Bool := orderE n q m == 0 && eqB 49 (orderF n q m) ff
def turL (n : Int) (q : List Int) (m : Nat) : List (Int × Int) := toldL (turnR (orderF n q m))
noncomputable abbrev sp12Y : Spec := intPairsL turY (fun n q m => .tup [.s (.sl 0 0 2 (turL n q m).length), .s (.int .i64 0)]) 38 fun n q m => flat (turL n q m)
theorem ok12Y : SpecOK PP (compC T) 12 sp12Y := intPairsL_ok o12 (fun n q m => [(4, lsS 0 (turL n q m).length), (5, ⟨true, I 0⟩)]) (by kernel_rfl) (fun n q m hq hm hc => (by
    unfold turY at hc
    simp only [Bool.and_eq_true, beq_iff_eq, Bool.not_eq_true'] at hc
    have hb := b12 (n := n) hq hm
    rw [hc.1] at hb
    exact exec_seq (x := x12.body.a) (y := x12.body.b) a12 (exec_seq (x := x12.body.b.a) (y := x12.body.b.b) hb (y12 hc.2)))) (fun n q m => by kernel_rfl) (fun n q m => by kernel_rfl)
theorem ok12N : SpecOK PP (compC T) 12 (pureS (intPairsX 0 turN fun _ _ _ => .tup [.s .nils, .s (.int .i64 0)])) :=
  intPairsX_ok o12 0 turN (fun n q m => [(4, ⟨true, .av (.s .nils)⟩), (5, ⟨true, I 0⟩)]) _ (by kernel_rfl) (fun n q m hq hm hc => (by
    unfold turN at hc
    simp only [Bool.and_eq_true, beq_iff_eq] at hc
    have hb := b12 (n := n) hq hm
    rw [hc.1] at hb
    exact exec_seq (x := x12.body.a) (y := x12.body.b) a12 (exec_seq (x := x12.body.b.a) (y := x12.body.b.b) hb (n12 hc.2)))) (fun n q m => by kernel_rfl) (fun n q m => by kernel_rfl)
end Go.Proofs.Yteekkjfjpoaihaa.Eng
namespace Go.Proofs.Yteekkjfjpoaihaa.Eng
open Go Go.Proofs
def L7 : XC := x7.body.b.b.b.a.b.i.i
def M7 : XC := L7.b.a.i.b.i.i
def K7 : XC := M7.b.a.i.b.i.i
abbrev sl7 (n m k : Nat) : List (Nat × Slot) := [(0, ⟨true, I n⟩), (1, sl0 m), (8, lsS 1 k)]
abbrev G7 (q l : List Int) : List HO := [⟨true, .xvec .i64 2 q⟩, ⟨false, .ivec 38 .i64 2 l⟩]
abbrev S7 (n : Nat) (q : List Int) (m : Nat) (l : List Int) (k a : Nat) : St := mkSt (sl7 n m k ++ [(9, ⟨true, I a⟩)]) (G7 q l) 2 []
abbrev U7 (n : Nat) (q : List Int) (m : Nat) (l : List Int) (k a b : Nat) : St := mkSt (sl7 n m k ++ [(9, ⟨true, I a⟩), (10, ⟨true, I b⟩)]) (G7 q l) 2 []
abbrev V7 (n : Nat) (q : List Int) (m : Nat) (l : List Int) (k a b i : Nat) : St := mkSt (sl7 n m k ++ [(9, ⟨true, I a⟩), (10, ⟨true, I b⟩), (11, ⟨true, I i⟩)]) (G7 q l) 2 []
abbrev W7 (n : Nat) (q : List Int) (m : Nat) (l : List Int) (k a b i : Nat) (c d : Int) : St := mkSt (sl7 n m k ++ [(9, ⟨true, I a⟩), (10, ⟨true, I b⟩), (11, ⟨true, I i⟩), (12, ⟨true, I c⟩), (13, ⟨true, I d⟩)]) (G7 q l) 2 []
/-- a remainder as the program takes it -/
def umod (x k : Int) : Int := IntKind.i64.wrap ((IntKind.u64.wrap x).tmod (IntKind.u64.wrap k))
theorem umod_rng (x : Int) {k : Nat} (h : 0 < k) (h7 : k ≤ 7) : 0 ≤ umod x (Int.ofNat k) ∧ umod x (Int.ofNat k) < Int.ofNat k := by
  have e1 : IntKind.u64.wrap (Int.ofNat k) = Int.ofNat k := by
    simp only [IntKind.wrap, IntKind.signed, IntKind.bits, Bool.false_and, Bool.false_eq_true, if_false, Int.ofNat_eq_natCast]
    omega
  have e2 : 0 ≤ IntKind.u64.wrap x := by
    simp only [IntKind.wrap, IntKind.signed, IntKind.bits, Bool.false_and, Bool.false_eq_true, if_false]
    omega
  have e3 : 0 ≤ (IntKind.u64.wrap x).tmod (Int.ofNat k) := Int.tmod_nonneg _ e2
  have e4 : (IntKind.u64.wrap x).tmod (Int.ofNat k) < Int.ofNat k := Int.tmod_lt_of_pos _ (by simp; omega)
  have e5 : umod x (Int.ofNat k) = (IntKind.u64.wrap x).tmod (Int.ofNat k) := by
    unfold umod
    rw [e1]
    generalize (IntKind.u64.wrap x).tmod (Int.ofNat k) = y at e3 e4
    have : y < 7 := by
      have : Int.ofNat k ≤ 7 := by simp; omega
      omega
    have hy : y % 2 ^ 64 = y := by omega
    simp only [IntKind.wrap, IntKind.signed, IntKind.bits, hy]
    rw [if_neg (by simp; omega)]
  rw [e5]
  exact ⟨e3, e4⟩
/-- how many nodes tame leaves -/
def tamN (n : Int) (k : Nat) : Nat := (1 + umod n (Int.ofNat k)).toNat
theorem tamN_eq (n : Int) {k : Nat} (h : 0 < k) (h7 : k ≤ 7) : 1 + umod n (Int.ofNat k) = Int.ofNat (tamN n k) ∧ 1 ≤ tamN n k ∧ tamN n k ≤ k := by
  have := umod_rng n h h7
  unfold tamN
  simp only [Int.ofNat_eq_natCast] at this ⊢
  omega
theorem a7 {n : Int} {q : List Int} {m k : Nat} : Exec PP T none x7.nt 0 x7.body.a (startSt [.s (.int .i64 n), .s (.sl 0 0 2 m), .s (.int .i64 (Int.ofNat k))] (H1 q)) .n (mkSt [(0, ⟨true, I n⟩), (1, sl0 m), (2, ⟨true, I (Int.ofNat k)⟩)] (H1 q) 1 []) := by
  refine exec_orun env0 false 60 [] [0] (fun _ => rfl) (by kernel_rfl) (by kernel_rfl) (by kernel_rfl) (by kernel_rfl)
theorem u7 {n : Int} {q : List Int} {m k : Nat} (h : 0 < k) (h7 : k ≤ 7) : Exec PP T none x7.nt 0 x7.body.b.a (mkSt [(0, ⟨true, I n⟩), (1, sl0 m), (2, ⟨true, I (Int.ofNat k)⟩)] (H1 q) 1 []) .n (mkSt [(0, ⟨true, I (tamN n k)⟩), (1, sl0 m)] (H1 q) 1 []) := by
  obtain ⟨e, h1, h2⟩ := tamN_eq n h h7
  have key : Exec PP T none x7.nt 0 x7.body.b.a (mkSt [(0, ⟨true, I n⟩), (1, sl0 m), (2, ⟨true, I (Int.ofNat k)⟩)] (H1 q) 1 []) .n (mkSt [(0, ⟨true, I (1 + umod n (Int.ofNat k))⟩), (1, sl0 m)] (H1 q) 1 []) := by
    refine exec_orun env0 false 60 [] [0] (fun _ => rfl) (by kernel_rfl) (by kernel_rfl) (by kernel_rfl) ?_
    rw [(show obOf (orun g0 false 60 x7.body.b.a (mkSt [(0, ⟨true, I n⟩), (1, sl0 m), (2, ⟨true, I (Int.ofNat k)⟩)] (H1 q) 1 []) []) = (decide (IntKind.u64.wrap (Int.ofNat k) ≠ 0) && (rng64 (1 + umod n (Int.ofNat k)) && true)) from by kernel_rfl)]
    have e1 : IntKind.u64.wrap (Int.ofNat k) = Int.ofNat k := by
      simp only [IntKind.wrap, IntKind.signed, IntKind.bits, Bool.false_and, Bool.false_eq_true, if_false, Int.ofNat_eq_natCast]
      omega
    rw [e, e1, rng64_eq]
    simp
    omega
  rw [e] at key
  exact key
theorem v7 {n : Nat} {q : List Int} {m : Nat} : Exec PP T none x7.nt 0 x7.body.b.b.a (mkSt [(0, ⟨true, I n⟩), (1, sl0 m)] (H1 q) 1 []) .n (mkSt [(8, lsS 1 0), (0, ⟨true, I n⟩), (1, sl0 m)] (G7 q []) 2 []) := by
  have key : Exec PP T none x7.nt 0 x7.body.b.b.a (mkSt [(0, ⟨true, I n⟩), (1, sl0 m)] (H1 q) 1 []) .n (mkSt [(0, ⟨true, I n⟩), (1, sl0 m), (8, ⟨true, .av (.s .nils)⟩)] (H1 q) 1 []) := by
    refine exec_orun env0 false 60 [] [0] (fun _ => rfl) (by kernel_rfl) (by kernel_rfl) (by kernel_rfl) (by kernel_rfl)
  exact key.post (weak_nil 8 38 .i64 2 rfl rfl rfl)
theorem w7 {n : Nat} {q : List Int} {m : Nat} : Exec PP T none x7.nt 0 x7.body.b.b.b.a.a (mkSt [(8, lsS 1 0), (0, ⟨true, I n⟩), (1, sl0 m)] (G7 q []) 2 []) .n (S7 n q m [] 0 0) := by
  refine exec_orun env0 false 60 [] [0, 1] (fun _ => rfl) (by kernel_rfl) (by kernel_rfl) (by kernel_rfl) (by kernel_rfl)
theorem l7a {n : Nat} {q : List Int} {m : Nat} {l : List Int} {k a : Nat} (h : a < n) : Exec PP T none x7.nt 0 L7.a (S7 n q m l k a) .n (S7 n q m l k a) := by
  refine exec_orun env0 false 60 [true] [0, 1] (fun _ => rfl) (by kernel_rfl) (by kernel_rfl) (by kernel_rfl) ?_
  rw [(show obOf (orun g0 false 60 L7.a (S7 n q m l k a) [true]) = (decide (Int.ofNat a < Int.ofNat n) && true) from by kernel_rfl)]
  simp
  omega
theorem l7x {n : Nat} {q : List Int} {m : Nat} {l : List Int} {k : Nat} : Exec PP T none x7.nt 0 L7.a (S7 n q m l k n) (.x 0) (S7 n q m l k n) := by
  refine exec_orun env0 false 60 [false] [0, 1] (fun _ => rfl) (by kernel_rfl) (by kernel_rfl) (by kernel_rfl) ?_
  rw [(show obOf (orun g0 false 60 L7.a (S7 n q m l k n) [false]) = (!decide (Int.ofNat n < Int.ofNat n) && true) from by kernel_rfl)]
  simp
theorem l7b {n : Nat} {q : List Int} {m : Nat} {l : List Int} {k a : Nat} (h : a < 7) : Exec PP T none x7.nt 0 L7.b.a.i.a (S7 n q m l k a) .n (U7 n q m l k a (a + 1)) := by
  refine exec_orun env0 false 60 [] [0, 1] (fun _ => rfl) (by kernel_rfl) (by kernel_rfl) (by kernel_rfl) ?_
  rw [(show obOf (orun g0 false 60 L7.b.a.i.a (S7 n q m l k a) []) = (rng64 (Int.ofNat a.succ) && true) from by kernel_rfl)]
  simp [rng64]
  omega
theorem l7e {n : Nat} {q : List Int} {m : Nat} {l : List Int} {k a b : Nat} (h : a < 7) : Exec PP T none x7.nt 0 L7.b.b (U7 n q m l k a b) .n (S7 n q m l k (a + 1)) := by
  refine exec_orun env0 false 60 [] [0, 1] (fun _ => rfl) (by kernel_rfl) (by kernel_rfl) (by kernel_rfl) ?_
  rw [(show obOf (orun g0 false 60 L7.b.b (U7 n q m l k a b) []) = (rng64 (Int.ofNat a.succ) && true) from by kernel_rfl)]
  simp [rng64]
  omega
theorem m7a {n : Nat} {q : List Int} {m : Nat} {l : List Int} {k a b : Nat} (h : b < n) : Exec PP T none x7.nt 0 M7.a (U7 n q m l k a b) .n (U7 n q m l k a b) := by
  refine exec_orun env0 false 60 [true] [0, 1] (fun _ => rfl) (by kernel_rfl) (by kernel_rfl) (by kernel_rfl) ?_
  rw [(show obOf (orun g0 false 60 M7.a (U7 n q m l k a b) [true]) = (decide (Int.ofNat b < Int.ofNat n) && true) from by kernel_rfl)]
  simp
  omega
theorem m7x {n : Nat} {q : List Int} {m : Nat} {l : List Int} {k a : Nat} : Exec PP T none x7.nt 0 M7.a (U7 n q m l k a n) (.x 2) (U7 n q m l k a n) := by
  refine exec_orun env0 false 60 [false] [0, 1] (fun _ => rfl) (by kernel_rfl) (by kernel_rfl) (by kernel_rfl) ?_
  rw [(show obOf (orun g0 false 60 M7.a (U7 n q m l k a n) [false]) = (!decide (Int.ofNat n < Int.ofNat n) && true) from by kernel_rfl)]
  simp
theorem m7b {n : Nat} {q : List Int} {m : Nat} {l : List Int} {k a b : Nat} : Exec PP T none x7.nt 0 M7.b.a.i.a (U7 n q m l k a b) .n (V7 n q m l k a b 0) := by
  refine exec_orun env0 false 60 [] [0, 1] (fun _ => rfl) (by kernel_rfl) (by kernel_rfl) (by kernel_rfl) (by kernel_rfl)
theorem m7e {n : Nat} {q : List Int} {m : Nat} {l : List Int} {k a b : Nat} (h : b < 7) : Exec PP T none x7.nt 0 M7.b.b (U7 n q m l k a b) .n (U7 n q m l k a (b + 1)) := by
  refine exec_orun env0 false 60 [] [0, 1] (fun _ => rfl) (by kernel_rfl) (by kernel_rfl) (by kernel_rfl) ?_
  rw [(show obOf (orun g0 false 60 M7.b.b (U7 n q m l k a b) []) = (rng64 (Int.ofNat b.succ) && true) from by kernel_rfl)]
  simp [rng64]
  omega
theorem k7a {n : Nat} {q : List Int} {m : Nat} {l : List Int} {k a b i : Nat} (h : i < m) (h2 : i < 25) : Exec PP T none x7.nt 0 K7.a (V7 n q m l k a b i) .n (V7 n q m l k a b i) := by
  refine exec_orun env0 false 60 [true] [0, 1] (fun _ => rfl) (by kernel_rfl) (by kernel_rfl) (by kernel_rfl) ?_
  rw [(show obOf (orun g0 false 60 K7.a (V7 n q m l k a b i) [true]) = ((!decide (Int.ofNat i < Int.ofNat m) == true || true) && ((!decide (Int.ofNat i < Int.ofNat m) == true || decide (Int.ofNat i < Int.ofNat m) == true && true && true) && ((bif decide (Int.ofNat i < Int.ofNat m) then decide (Int.ofNat i < Int.ofNat m) == true else true) && true && true)) && ((bif decide (Int.ofNat i < Int.ofNat m) then decide (Int.ofNat i < 25) else false) && true)) from by kernel_rfl)]
  simp [h]
  omega
theorem k7x {n : Nat} {q : List Int} {m : Nat} {l : List Int} {k a b i : Nat} (h : ¬ (i < m ∧ i < 25)) : Exec PP T none x7.nt 0 K7.a (V7 n q m l k a b i) (.x 4) (U7 n q m l k a b) := by
  refine exec_orun env0 false 60 [false] [0, 1] (fun _ => rfl) (by kernel_rfl) (by kernel_rfl) (by kernel_rfl) ?_
  rw [(show obOf (orun g0 false 60 K7.a (V7 n q m l k a b i) [false]) = ((!decide (Int.ofNat i < Int.ofNat m) == true || true) && ((!decide (Int.ofNat i < Int.ofNat m) == true || decide (Int.ofNat i < Int.ofNat m) == true && true && true) && ((bif decide (Int.ofNat i < Int.ofNat m) then decide (Int.ofNat i < Int.ofNat m) == true else true) && true && true)) && ((!bif decide (Int.ofNat i < Int.ofNat m) then decide (Int.ofNat i < 25) else false) && true)) from by kernel_rfl)]
  by_cases h1 : i < m
  · simp [h1]; omega
  · simp [h1]
theorem k7b {n : Nat} {q : List Int} {m : Nat} {l : List Int} {k a b i : Nat} (hq : q.length = m * 2) (hn : 0 < n) (hn7 : n ≤ 7) (h : i < m) : Exec PP T none x7.nt 0 K7.b.a.i.a (V7 n q m l k a b i) .n (W7 n q m l k a b i (umod (q.getD (0 + ((0 + i) * 2 + 0)) 0) (Int.ofNat n)) (umod (q.getD (0 + ((0 + i) * 2 + 1)) 0) (Int.ofNat n))) := by
  refine exec_orun env0 false 60 [] [0, 1] (fun _ => rfl) (by kernel_rfl) (by kernel_rfl) (by kernel_rfl) ?_
  rw [(show obOf (orun g0 false 60 K7.b.a.i.a (V7 n q m l k a b i) []) = (decide (0 ≤ Int.ofNat i) && decide (Int.ofNat i < Int.ofNat m) && (decide (0 + ((0 + i) * 2 + 0) < q.length) && (decide (IntKind.u64.wrap (Int.ofNat n) ≠ 0) && (decide (0 ≤ Int.ofNat i) && decide (Int.ofNat i < Int.ofNat m) && (decide (0 + ((0 + i) * 2 + 1) < q.length) && (decide (IntKind.u64.wrap (Int.ofNat n) ≠ 0) && true))))) && true) from by kernel_rfl)]
  have e1 : IntKind.u64.wrap (Int.ofNat n) = Int.ofNat n := by
    simp only [IntKind.wrap, IntKind.signed, IntKind.bits, Bool.false_and, Bool.false_eq_true, if_false, Int.ofNat_eq_natCast]
    omega
  try rw [e1]
  simp
  omega
def hitC (a b : Nat) (c d : Int) : Bool := min c d == Int.ofNat a && max c d == Int.ofNat b
theorem k7n {n : Nat} {q : List Int} {m : Nat} {l : List Int} {k a b i : Nat} {c d : Int} (h : hitC a b c d = false) : Exec PP T none x7.nt 0 K7.b.a.i.b (W7 n q m l k a b i c d) .n (V7 n q m l k a b i) := by
  refine exec_orun env0 false 60 [false] [0, 1] (fun _ => rfl) (by kernel_rfl) (by kernel_rfl) (by kernel_rfl) ?_
  rw [(show obOf (orun g0 false 60 K7.b.a.i.b (W7 n q m l k a b i c d) [false]) = ((!(min c d == Int.ofNat a) == true || true) && ((!(min c d == Int.ofNat a) == true || true) && ((!(min c d == Int.ofNat a) == true || (min c d == Int.ofNat a) == true && ((min c d == Int.ofNat a) == true && true) && true) && ((!(min c d == Int.ofNat a) == true || true) && ((!(min c d == Int.ofNat a) == true || (min c d == Int.ofNat a) == true && ((min c d == Int.ofNat a) == true && true) && true) && ((bif min c d == Int.ofNat a then (min c d == Int.ofNat a) == true else true) && true && true))))) && ((!bif min c d == Int.ofNat a then max c d == Int.ofNat b else false) && true)) from by kernel_rfl)]
  unfold hitC at h
  revert h
  cases min c d == Int.ofNat a <;> cases max c d == Int.ofNat b <;> simp
theorem k7t {n : Nat} {q : List Int} {m : Nat} {l : List Int} {k a b i : Nat} {c d : Int} (hl : l.length = k * 2) (hk : k ≤ 100) (h : hitC a b c d = true) : Exec PP T none x7.nt 0 K7.b.a.i.b (W7 n q m l k a b i c d) (.x 4) (U7 n q m (List.take (k * 2) l ++ [Int.ofNat a, Int.ofNat b]) (k + 1) a b) := by
  refine exec_orun env0 false 60 [true] [0, 3] (fun _ => rfl) (by kernel_rfl) (by kernel_rfl) (by kernel_rfl) ?_
  rw [(show obOf (orun g0 false 60 K7.b.a.i.b (W7 n q m l k a b i c d) [true]) = ((!(min c d == Int.ofNat a) == true || true) && ((!(min c d == Int.ofNat a) == true || true) && ((!(min c d == Int.ofNat a) == true || (min c d == Int.ofNat a) == true && ((min c d == Int.ofNat a) == true && true) && true) && ((!(min c d == Int.ofNat a) == true || true) && ((!(min c d == Int.ofNat a) == true || (min c d == Int.ofNat a) == true && ((min c d == Int.ofNat a) == true && true) && true) && ((bif min c d == Int.ofNat a then (min c d == Int.ofNat a) == true else true) && true && true))))) && ((bif min c d == Int.ofNat a then max c d == Int.ofNat b else false) && (decide (2 ≤ Nat.succ 1) && decide (k * 2 ≤ l.length) && decide (k.succ ≤ 1000000000) && true && true && true && true))) from by kernel_rfl)]
  unfold hitC at h
  rw [Bool.and_eq_true] at h
  simp only [h.1, h.2]
  simp [hl]
  omega
theorem k7e {n : Nat} {q : List Int} {m : Nat} {l : List Int} {k a b i : Nat} (h : i < 25) : Exec PP T none x7.nt 0 K7.b.b (V7 n q m l k a b i) .n (V7 n q m l k a b (i + 1)) := by
  refine exec_orun env0 false 60 [] [0, 1] (fun _ => rfl) (by kernel_rfl) (by kernel_rfl) (by kernel_rfl) ?_
  rw [(show obOf (orun g0 false 60 K7.b.b (V7 n q m l k a b i) []) = (rng64 (Int.ofNat i.succ) && true) from by kernel_rfl)]
  simp [rng64]
  omega
theorem d7 {n : Nat} {q : List Int} {m : Nat} {l : List Int} {k : Nat} : Exec PP T none x7.nt 0 x7.body.b.b.b.b (S7 n q m l k n) .r (mkSt [(6, ⟨true, I n⟩), (7, lsS 0 k)] [⟨false, .ivec 38 .i64 2 l⟩] 1 []) := by
  refine exec_orun env0 false 60 [] [1] (fun _ => rfl) (by kernel_rfl) (by kernel_rfl) (by kernel_rfl) (by kernel_rfl)
end Go.Proofs.Yteekkjfjpoaihaa.Eng
namespace Go.Proofs.Yteekkjfjpoaihaa.Eng
open Go Go.Proofs
def hitA (n : Nat) (q : List Int) (a b i : Nat) : Bool := hitC a b (umod (q.getD (0 + ((0 + i) * 2 + 0)) 0) (Int.ofNat n)) (umod (q.getD (0 + ((0 + i) * 2 + 1)) 0) (Int.ofNat n))
def hitF (n : Nat) (q : List Int) (m a b : Nat) : Bool := (List.range (min m 25)).any (hitA n q a b)
def tamG (n : Nat) (q : List Int) (m a b : Nat) : Bool := decide (a < b) && hitF n q m a b
theorem first_hit (p : Nat → Bool) : ∀ (n : Nat), (List.range n).any p = true → ∃ j, j < n ∧ p j = true ∧ ∀ i, i < j → p i = false := by
  intro n
  induction n with
  | zero => simp
  | succ n ih =>
    intro h
    by_cases h1 : (List.range n).any p = true
    · obtain ⟨j, h2, h3, h4⟩ := ih h1
      exact ⟨j, by omega, h3, h4⟩
    · rw [List.range_succ, List.any_append] at h
      simp only [Bool.not_eq_true] at h1
      rw [h1] at h
      simp at h
      refine ⟨n, by omega, h, fun i hi => ?_⟩
      rw [List.any_eq_false] at h1
      simpa using h1 i (by simpa using hi)
/-- one step of the search -/
theorem k7 {n : Nat} {q : List Int} {m : Nat} {l : List Int} {k a b i : Nat} (hq : q.length = m * 2) (hn : 0 < n) (hn7 : n ≤ 7) (h : i < m) (h2 : i < 25) (hf : hitA n q a b i = false) : Exec PP T none x7.nt 0 K7 (V7 n q m l k a b i) .n (V7 n q m l k a b (i + 1)) :=
  exec_seq (x := K7.a) (y := K7.b) (k7a h h2) (exec_seq (x := K7.b.a) (y := K7.b.b) (exec_block (id := 5) (x := K7.b.a.i) (e := .n) (exec_seq (x := K7.b.a.i.a) (y := K7.b.a.i.b) (k7b hq hn hn7 h) (k7n hf))) (k7e h2))
theorem k7h {n : Nat} {q : List Int} {m : Nat} {l : List Int} {k a b i : Nat} (hq : q.length = m * 2) (hl : l.length = k * 2) (hk : k ≤ 100) (hn : 0 < n) (hn7 : n ≤ 7) (h : i < m) (h2 : i < 25) (hf : hitA n q a b i = true) : Exec PP T none x7.nt 0 K7 (V7 n q m l k a b i) (.x 4) (U7 n q m (List.take (k * 2) l ++ [Int.ofNat a, Int.ofNat b]) (k + 1) a b) :=
  exec_seq (x := K7.a) (y := K7.b) (k7a h h2) (exec_seq_x (x := K7.b.a) (y := K7.b.b) (exec_block (id := 5) (x := K7.b.a.i) (e := .x 4) (exec_seq (x := K7.b.a.i.a) (y := K7.b.a.i.b) (k7b hq hn hn7 h) (k7t hl hk hf))) (by simp))
theorem k7L {n : Nat} {q : List Int} {m : Nat} {l : List Int} {k a b : Nat} (hq : q.length = m * 2) (hn : 0 < n) (hn7 : n ≤ 7) (hf : hitF n q m a b = false) : Exec PP T none x7.nt 0 (.loop K7) (V7 n q m l k a b 0) (.x 4) (U7 n q m l k a b) := by
  unfold hitF at hf
  rw [List.any_eq_false] at hf
  exact exec_loop_up (fun i => V7 n q m l k a b i) (min m 25) (fun i hi => k7 hq hn hn7 (by omega) (by omega) (by simpa using hf i (by simpa using hi))) (exec_seq_x (x := K7.a) (y := K7.b) (k7x (by omega)) (by simp)) (by simp) 0 (by omega)
theorem k7H {n : Nat} {q : List Int} {m : Nat} {l : List Int} {k a b : Nat} (hq : q.length = m * 2) (hl : l.length = k * 2) (hk : k ≤ 100) (hn : 0 < n) (hn7 : n ≤ 7) (hf : hitF n q m a b = true) : Exec PP T none x7.nt 0 (.loop K7) (V7 n q m l k a b 0) (.x 4) (U7 n q m (List.take (k * 2) l ++ [Int.ofNat a, Int.ofNat b]) (k + 1) a b) := by
  obtain ⟨j, h1, h2, h3⟩ := first_hit _ _ hf
  exact exec_loop_up (fun i => V7 n q m l k a b i) j (fun i hi => k7 hq hn hn7 (by omega) (by omega) (h3 i hi)) (k7h hq hl hk hn hn7 (by omega) (by omega) h2) (by simp) 0 (by omega)
abbrev sU7 (n : Nat) (q : List Int) (m a b : Nat) : St := U7 n q m (flat (midL (tamG n q m) n a b)) (midL (tamG n q m) n a b).length a b
abbrev sS7 (n : Nat) (q : List Int) (m a : Nat) : St := S7 n q m (flat (listL (tamG n q m) n a)) (listL (tamG n q m) n a).length a
theorem m7 {n : Nat} {q : List Int} {m a b : Nat} (hq : q.length = m * 2) (hn : 0 < n) (hn7 : n ≤ 7) (ha : a < 7) (hb : b < n) (hlo : a < b) : Exec PP T none x7.nt 0 M7 (sU7 n q m a b) .n (sU7 n q m a (b + 1)) := by
  have hl := midL_len (g := tamG n q m) (n := n) (a := a) (b := b) (by omega) hn7 (by omega)
  have hf := flat_len (midL (tamG n q m) n a b)
  show Exec PP T none x7.nt 0 M7 _ .n (U7 n q m (flat (midL (tamG n q m) n a (b + 1))) (midL (tamG n q m) n a (b + 1)).length a (b + 1))
  cases h : hitF n q m a b with
  | false =>
    have hg : tamG n q m a b = false := by unfold tamG; rw [h]; simp
    rw [midL_f hg]
    exact exec_seq (x := M7.a) (y := M7.b) (m7a hb) (exec_seq (x := M7.b.a) (y := M7.b.b) (exec_block (id := 3) (x := M7.b.a.i) (e := .n) (exec_seq (x := M7.b.a.i.a) (y := .block 4 (.loop K7)) m7b (exec_block (e := .x 4) (k7L hq hn hn7 h)))) (m7e (by omega)))
  | true =>
    have hg : tamG n q m a b = true := by unfold tamG; rw [h]; simp [hlo]
    rw [midL_tl hg, midL_tf hg]
    exact exec_seq (x := M7.a) (y := M7.b) (m7a hb) (exec_seq (x := M7.b.a) (y := M7.b.b) (exec_block (id := 3) (x := M7.b.a.i) (e := .n) (exec_seq (x := M7.b.a.i.a) (y := .block 4 (.loop K7)) m7b (exec_block (e := .x 4) (k7H hq hf hl hn hn7 h)))) (m7e (by omega)))
theorem l7 {n : Nat} {q : List Int} {m a : Nat} (hq : q.length = m * 2) (hn : 0 < n) (hn7 : n ≤ 7) (ha : a < n) : Exec PP T none x7.nt 0 L7 (sS7 n q m a) .n (sS7 n q m (a + 1)) := by
  show Exec PP T none x7.nt 0 L7 _ .n (S7 n q m (flat (listL (tamG n q m) n (a + 1))) (listL (tamG n q m) n (a + 1)).length (a + 1))
  rw [← midL_end]
  refine exec_seq (x := L7.a) (y := L7.b) (l7a ha) (exec_seq (x := L7.b.a) (y := L7.b.b) (exec_block (id := 1) (x := L7.b.a.i) (e := .n) (exec_seq (x := L7.b.a.i.a) (y := .block 2 (.loop M7)) (l7b (by omega)) (exec_block (e := .x 2) ?_))) (l7e (b := n) (by omega)))
  have h0 : midL (tamG n q m) n a (a + 1) = listL (tamG n q m) n a := midL_lo fun j hj => (by unfold tamG; simp; omega)
  rw [← h0]
  exact exec_loop_from (fun b => sU7 n q m a b) (a + 1) n (fun b hlo hb => m7 hq hn hn7 (by omega) hb (by omega)) (exec_seq_x (x := M7.a) (y := M7.b) m7x (by simp)) (by simp) (by omega)
def tamL (n : Int) (q : List Int) (m k : Nat) : List (Int × Int) := listL (tamG (tamN n k) q m) (tamN n k) (tamN n k)
theorem body7 {n : Int} {q : List Int} {m k : Nat} (hq : q.length = m * 2) (hk : 0 < k) (hk7 : k ≤ 7) : Exec PP T none x7.nt 0 x7.body (startSt [.s (.int .i64 n), .s (.sl 0 0 2 m), .s (.int .i64 (Int.ofNat k))] (H1 q)) .r (mkSt [(6, ⟨true, I (tamN n k)⟩), (7, lsS 0 (tamL n q m k).length)] [⟨false, .ivec 38 .i64 2 (flat (tamL n q m k))⟩] 1 []) := by
  obtain ⟨_, h1, h2⟩ := tamN_eq n hk hk7
  refine exec_seq (x := x7.body.a) (y := x7.body.b) a7 (exec_seq (x := x7.body.b.a) (y := x7.body.b.b) (u7 hk hk7) (exec_seq (x := x7.body.b.b.a) (y := x7.body.b.b.b) v7 (exec_seq (x := x7.body.b.b.b.a) (y := x7.body.b.b.b.b) (exec_seq (x := x7.body.b.b.b.a.a) (y := .block 0 (.loop L7)) w7 (exec_block (e := .x 0) ?_)) (d7 (q := q) (m := m)))))
  exact exec_loop_up (fun a => sS7 (tamN n k) q m a) (tamN n k) (fun a ha => l7 hq (by omega) (by omega) ha) (exec_seq_x (x := L7.a) (y := L7.b) l7x (by simp)) (by simp) 0 (by omega)
/-- tame, where at most seven nodes are asked for -/
def spTame : Spec where
  run := fun args h base => match args with
    | [.s (.int .i64 n), s, .s (.int .i64 k)] => match srcOf (.av s) h .i64 2 with
      | some (vc, q, m, rd) => some ⟨vc && (decide (0 < k) && decide (k ≤ 7)), .tup [.s (.int .i64 (Int.ofNat (tamN n k.toNat))), .s (.sl base 0 2 (tamL n q m k.toNat).length)], [], [⟨false, .ivec 38 .i64 2 (flat (tamL n q m k.toNat))⟩], some rd⟩
      | none => none
    | _ => none
theorem spTame_fp : SpecFp spTame := by
  intro args h h' base e hr hf
  simp only [spTame] at hr ⊢
  split at hr
  · split at hr
    · rename_i hs
      cases hr
      simp only [srcOf_fp hs hf]
    · cases hr
  · cases hr
theorem ok7 : SpecOK PP (compC T) 7 spTame := by
  refine spec_gen tokP o7 fun ctx m h w args vals base e hH hargs hr hvc => ?_
  simp only [spTame] at hr
  split at hr
  · rename_i n s k
    split at hr
    · rename_i vc q m' rd hs
      cases hr
      simp only [Bool.and_eq_true, decide_eq_true_eq] at hvc
      obtain ⟨rfl, hk1, hk2⟩ := hvc
      obtain ⟨k, rfl⟩ : ∃ j : Nat, k = Int.ofNat j := ⟨k.toNat, by simp; omega⟩
      match vals, hargs with
      | [v1, v2, v3], ⟨ha1, ha2, ha3, _⟩ =>
        obtain ⟨mb, k1, k2, k3, k4⟩ := view_slice hH ha2 hs
        exact ⟨rfl, mm1 mb, H1 q, [.s (.int .i64 n), .s (.sl 0 0 2 m'), .s (.int .i64 (Int.ofNat k))], shown_new (tv := .tup [.s (.int .i64 (Int.ofNat (tamN n k))), .s (.sl 0 0 2 (tamL n q m' k).length)]) (o := .ivec 38 .i64 2 (flat (tamL n q m' k))) (ro1 k1 k2) ⟨ha1, k3 (mm1 mb) 0 rfl, ha3, trivial⟩ (by kernel_rfl) (body7 k4 (by simpa using hk1) (by simp at hk2; omega)) (fun _ => rfl) (by kernel_rfl) (by kernel_rfl) rfl rfl rfl (fun _ => rfl)⟩
    · cases hr
  · cases hr
end Go.Proofs.Yteekkjfjpoaihaa.Eng
namespace Go.Proofs.Yteekkjfjpoaihaa.Eng
open Go Go.Proofs
def mapT (L : List (Nat × Nat)) : List (CV × CV) := L.map fun p => (keyN p, .bl true)
theorem eqC_key (p a : Nat × Nat) : eqC (.ints 2) (keyN p) (keyN a) = (p == a) := by
  show ([Int.ofNat p.1, Int.ofNat p.2] == [Int.ofNat a.1, Int.ofNat a.2]) = _
  rw [beq_two]
  rw [Bool.eq_iff_iff]
  obtain ⟨p1, p2⟩ := p
  obtain ⟨a1, a2⟩ := a
  simp
  omega
theorem findT (p : Nat × Nat) : ∀ L, findC (.ints 2) (keyN p) (mapT L) = bif L.contains p then some (.bl true) else none
  | [] => rfl
  | a :: L => by
    show (bif eqC (.ints 2) (keyN p) (keyN a) then some (.bl true) else findC (.ints 2) (keyN p) (mapT L)) = _
    rw [eqC_key, findT p L, List.contains_cons]
    cases p == a <;> rfl
theorem updT (p : Nat × Nat) : ∀ L, updC (.ints 2) (keyN p) (.bl true) (mapT L) = mapT (pushL L p)
  | [] => rfl
  | a :: L => by
    show (bif eqC (.ints 2) (keyN p) (keyN a) then (keyN p, .bl true) :: mapT L else (keyN a, .bl true) :: updC (.ints 2) (keyN p) (.bl true) (mapT L)) = _
    rw [eqC_key, updT p L]
    unfold pushL
    rw [List.contains_cons]
    cases h : p == a with
    | true =>
      have : p = a := by simpa using h
      subst this
      rfl
    | false =>
      cases hc : L.contains p <;> simp [mapT]
def X9 : XC := x9.body.b.b.b.b.b.a.b.i.i
def Y9 : XC := X9.b.b.a.i
def Z9 : XC := Y9.b.b.b.b.b.i.i
abbrev GF (n : Nat) (f : Nat → Bool) : HO := ⟨false, .row 115 [.int .i64 (Int.ofNat n)] 49 f⟩
abbrev MpB (E : List (CV × CV)) : HO := ⟨false, .map (.ints 2) .bool1 E⟩
abbrev mpS (k : Nat) : Slot := ⟨true, .av (.s (.mp k))⟩
abbrev sl9 (c m i : Nat) : List (Nat × Slot) := [(6, g1S 0), (8, mpS 1), (9, ⟨true, I c⟩), (27, lsS 2 m), (28, ⟨true, I m⟩), (29, ⟨true, I i⟩)]
abbrev S9 (n : Nat) (f : Nat → Bool) (E : List (CV × CV)) (q : List Int) (m c i : Nat) : St := mkSt (sl9 c m i) [GF n f, MpB E, IV q] 3 []
abbrev S9' (n : Nat) (f : Nat → Bool) (E : List (CV × CV)) (q : List Int) (m c i : Nat) : St := mkSt (sl9 c m i ++ [(30, ⟨true, B (decide (Int.ofNat i < Int.ofNat m))⟩)]) [GF n f, MpB E, IV q] 3 []
abbrev T9 (n : Nat) (f : Nat → Bool) (E : List (CV × CV)) (q : List Int) (m c i : Nat) (a b : Int) : St := mkSt (sl9 c m i ++ [(11, g1S 3)]) [GF n f, MpB E, IV q, ⟨false, .row 77 [.int .i64 a, .int .i64 b] 0 ff⟩] 4 []
abbrev U9 (n : Nat) (f : Nat → Bool) (E : List (CV × CV)) (q : List Int) (m c i : Nat) (p : List Int) (k : Nat) : St := mkSt (sl9 c m i ++ [(12, lsS 3 k)]) [GF n f, MpB E, IV q, IV p] 4 []
abbrev V9 (n : Nat) (f : Nat → Bool) (E : List (CV × CV)) (q : List Int) (m c i : Nat) (p : List Int) (k j : Nat) : St := mkSt (sl9 c m i ++ [(44, lsS 3 k), (45, ⟨true, I k⟩), (46, ⟨true, I j⟩)]) [GF n f, MpB E, IV q, IV p] 4 []
abbrev V9' (n : Nat) (f : Nat → Bool) (E : List (CV × CV)) (q : List Int) (m c i : Nat) (p : List Int) (k j : Nat) : St := mkSt (sl9 c m i ++ [(44, lsS 3 k), (45, ⟨true, I k⟩), (46, ⟨true, I j⟩), (47, ⟨true, B (decide (Int.ofNat j < Int.ofNat k))⟩)]) [GF n f, MpB E, IV q, IV p] 4 []
theorem x9a {n : Nat} {f : Nat → Bool} {E : List (CV × CV)} {q : List Int} {m c i : Nat} : Exec PP T none x9.nt 0 X9.a (S9 n f E q m c i) .n (S9' n f E q m c i) := by
  refine exec_orun env0 false 60 [] [0, 1, 2] (fun _ => rfl) (by kernel_rfl) (by kernel_rfl) (by kernel_rfl) (by kernel_rfl)
theorem x9b {n : Nat} {f : Nat → Bool} {E : List (CV × CV)} {q : List Int} {m c i : Nat} (hi : i < m) : Exec PP T none x9.nt 0 X9.b.a (S9' n f E q m c i) .n (S9 n f E q m c i) := by
  refine exec_orun env0 false 60 [true] [0, 1, 2] (fun _ => rfl) (by kernel_rfl) (by kernel_rfl) (by kernel_rfl) ?_
  rw [(show obOf (orun g0 false 60 X9.b.a (S9' n f E q m c i) [true]) = (decide (Int.ofNat i < Int.ofNat m) && true) from by kernel_rfl)]
  simp
  omega
abbrev R9 (c : Nat) : St := mkSt [(9, ⟨true, I c⟩)] [] 0 []
theorem x9x {n : Nat} {f : Nat → Bool} {E : List (CV × CV)} {q : List Int} {m c : Nat} : Exec PP T none x9.nt 0 X9.b.a (S9' n f E q m c m) (.x 0) (R9 c) := by
  refine exec_orun env0 false 60 [false] [] (fun _ => rfl) (by kernel_rfl) (by kernel_rfl) (by kernel_rfl) ?_
  rw [(show obOf (orun g0 false 60 X9.b.a (S9' n f E q m c m) [false]) = (!decide (Int.ofNat m < Int.ofNat m) && true) from by kernel_rfl)]
  simp
theorem x9e {n : Nat} {f : Nat → Bool} {E : List (CV × CV)} {q : List Int} {m c i : Nat} (hi : i < 1000) : Exec PP T none x9.nt 0 X9.b.b.b (S9 n f E q m c i) .n (S9 n f E q m c (i + 1)) := by
  refine exec_orun env0 false 60 [] [0, 1, 2] (fun _ => rfl) (by kernel_rfl) (by kernel_rfl) (by kernel_rfl) ?_
  rw [(show obOf (orun g0 false 60 X9.b.b.b (S9 n f E q m c i) []) = (rng64 (Int.ofNat i.succ) && true) from by kernel_rfl)]
  simp [rng64]
  omega
theorem y9a {n : Nat} {f : Nat → Bool} {E : List (CV × CV)} {q : List Int} {m c i : Nat} (hq : q.length = m * 2) (hi : i < m) : Exec PP T none x9.nt 0 Y9.a (S9 n f E q m c i) .n (T9 n f E q m c i (qA q i) (qB q i)) := by
  refine exec_orun env0 false 60 [] [0, 1, 2, 3] (fun _ => rfl) (by kernel_rfl) (by kernel_rfl) (by kernel_rfl) ?_
  rw [(show obOf (orun g0 false 60 Y9.a (S9 n f E q m c i) []) = (decide (0 ≤ Int.ofNat i) && decide (Int.ofNat i < Int.ofNat m) && (decide (((0 + (0 + i) * 2).add 0).succ.succ ≤ q.length) && true)) from by kernel_rfl)]
  simp
  omega
theorem y9y {n : Nat} {f : Nat → Bool} {E : List (CV × CV)} {q : List Int} {m c i : Nat} {a b : Int} (h : findC (.ints 2) (.is [a, b]) E = some (.bl true)) : Exec PP T none x9.nt 0 Y9.b.a (T9 n f E q m c i a b) (.x 1) (S9 n f E q m c i) := by
  refine exec_orun env0 false 60 [true] [0, 1, 2] (fun _ => rfl) (by kernel_rfl) (by kernel_rfl) (by kernel_rfl) ?_
  rw [(show obOf (orun g0 false 60 Y9.b.a (T9 n f E q m c i a b) [true]) = ((match findC (CK.ints 2) (CV.is ((fun x => a :: x) ((fun x => b :: x) []))) E with | some (CV.bl b) => b | x => false) && true) from by kernel_rfl)]
  simp [h]
theorem y9n {n : Nat} {f : Nat → Bool} {E : List (CV × CV)} {q : List Int} {m c i : Nat} {a b : Int} (h : findC (.ints 2) (.is [a, b]) E = none) : Exec PP T none x9.nt 0 Y9.b.a (T9 n f E q m c i a b) .n (T9 n f E q m c i a b) := by
  refine exec_orun env0 false 60 [false] [0, 1, 2, 3] (fun _ => rfl) (by kernel_rfl) (by kernel_rfl) (by kernel_rfl) ?_
  rw [(show obOf (orun g0 false 60 Y9.b.a (T9 n f E q m c i a b) [false]) = ((!match findC (CK.ints 2) (CV.is ((fun x => a :: x) ((fun x => b :: x) []))) E with | some (CV.bl b) => b | x => false) && true) from by kernel_rfl)]
  simp [h]
theorem y9c {n : Nat} {f : Nat → Bool} {E : List (CV × CV)} {q : List Int} {m c i : Nat} {a b : Int} (hc : c < 1000) : Exec PP T none x9.nt 0 Y9.b.b.a (T9 n f E q m c i a b) .n (T9 n f E q m (c + 1) i a b) := by
  refine exec_orun env0 false 60 [] [0, 1, 2, 3] (fun _ => rfl) (by kernel_rfl) (by kernel_rfl) (by kernel_rfl) ?_
  rw [(show obOf (orun g0 false 60 Y9.b.b.a (T9 n f E q m c i a b) []) = (rng64 (Int.ofNat c.succ) && true) from by kernel_rfl)]
  simp [rng64]
  omega
theorem y9d {n : Nat} {f : Nat → Bool} {E : List (CV × CV)} {q : List Int} {m c i a b : Nat} (hn : n ≤ 7) (ha : a < 7) (hb : b < 7) : Exec PP T none x9.nt 0 Y9.b.b.b.a (T9 n f E q m c i (Int.ofNat a) (Int.ofNat b)) .n (U9 n f E q m c i (flatN (rchL n f a b)) (rchL n f a b).length) := by
  refine exec_orun env9 false 60 [] [0, 1, 2, 4] (fun _ => rfl) (by kernel_rfl) (by kernel_rfl) (by kernel_rfl) ?_
  rw [(show obOf (orun g9 false 60 Y9.b.b.b.a (T9 n f E q m c i (Int.ofNat a) (Int.ofNat b)) []) = (decide (0 ≤ Int.ofNat a) && (decide (Int.ofNat a < 7) && (decide (0 ≤ Int.ofNat b) && (decide (Int.ofNat b < 7) && (decide (0 ≤ Int.ofNat n) && decide (Int.ofNat n ≤ 7))))) && true && true && true) from by kernel_rfl)]
  simp
  omega
theorem y9f {n : Nat} {f : Nat → Bool} {E : List (CV × CV)} {q : List Int} {m c i : Nat} {p : List Int} {k : Nat} : Exec PP T none x9.nt 0 Y9.b.b.b.b.a (U9 n f E q m c i p k) .n (V9 n f E q m c i p k 0) := by
  refine exec_orun env0 false 60 [] [0, 1, 2, 3] (fun _ => rfl) (by kernel_rfl) (by kernel_rfl) (by kernel_rfl) (by kernel_rfl)
theorem z9a {n : Nat} {f : Nat → Bool} {E : List (CV × CV)} {q : List Int} {m c i : Nat} {p : List Int} {k j : Nat} : Exec PP T none x9.nt 0 Z9.a (V9 n f E q m c i p k j) .n (V9' n f E q m c i p k j) := by
  refine exec_orun env0 false 60 [] [0, 1, 2, 3] (fun _ => rfl) (by kernel_rfl) (by kernel_rfl) (by kernel_rfl) (by kernel_rfl)
theorem z9b {n : Nat} {f : Nat → Bool} {E : List (CV × CV)} {q : List Int} {m c i : Nat} {p : List Int} {k j : Nat} (hj : j < k) : Exec PP T none x9.nt 0 Z9.b.a (V9' n f E q m c i p k j) .n (V9 n f E q m c i p k j) := by
  refine exec_orun env0 false 60 [true] [0, 1, 2, 3] (fun _ => rfl) (by kernel_rfl) (by kernel_rfl) (by kernel_rfl) ?_
  rw [(show obOf (orun g0 false 60 Z9.b.a (V9' n f E q m c i p k j) [true]) = (decide (Int.ofNat j < Int.ofNat k) && true) from by kernel_rfl)]
  simp
  omega
theorem z9x {n : Nat} {f : Nat → Bool} {E : List (CV × CV)} {q : List Int} {m c i : Nat} {p : List Int} {k : Nat} : Exec PP T none x9.nt 0 Z9.b.a (V9' n f E q m c i p k k) (.x 2) (S9 n f E q m c i) := by
  refine exec_orun env0 false 60 [false] [0, 1, 2] (fun _ => rfl) (by kernel_rfl) (by kernel_rfl) (by kernel_rfl) ?_
  rw [(show obOf (orun g0 false 60 Z9.b.a (V9' n f E q m c i p k k) [false]) = (!decide (Int.ofNat k < Int.ofNat k) && true) from by kernel_rfl)]
  simp
theorem z9y {n : Nat} {f : Nat → Bool} {E : List (CV × CV)} {q : List Int} {m c i : Nat} {p : List Int} {k j : Nat} (hp : p.length = k * 2) (hj : j < k) : Exec PP T none x9.nt 0 Z9.b.b.a.i (V9 n f E q m c i p k j) .n (V9 n f (updC (.ints 2) (.is [qA p j, qB p j]) (.bl true) E) q m c i p k j) := by
  refine exec_orun env0 false 60 [] [0, 1, 2, 3] (fun _ => rfl) (by kernel_rfl) (by kernel_rfl) (by kernel_rfl) ?_
  rw [(show obOf (orun g0 false 60 Z9.b.b.a.i (V9 n f E q m c i p k j) []) = (decide (0 ≤ Int.ofNat j) && decide (Int.ofNat j < Int.ofNat k) && (decide (((0 + (0 + j) * 2).add 0).succ.succ ≤ p.length) && true) && true) from by kernel_rfl)]
  simp
  omega
theorem z9e {n : Nat} {f : Nat → Bool} {E : List (CV × CV)} {q : List Int} {m c i : Nat} {p : List Int} {k j : Nat} (hj : j < 1000) : Exec PP T none x9.nt 0 Z9.b.b.b (V9 n f E q m c i p k j) .n (V9 n f E q m c i p k (j + 1)) := by
  refine exec_orun env0 false 60 [] [0, 1, 2, 3] (fun _ => rfl) (by kernel_rfl) (by kernel_rfl) (by kernel_rfl) ?_
  rw [(show obOf (orun g0 false 60 Z9.b.b.b (V9 n f E q m c i p k j) []) = (rng64 (Int.ofNat j.succ) && true) from by kernel_rfl)]
  simp [rng64]
  omega
end Go.Proofs.Yteekkjfjpoaihaa.Eng
namespace Go.Proofs.Yteekkjfjpoaihaa.Eng
open Go Go.Proofs
def ofN (p : Nat × Nat) : Int × Int := (Int.ofNat p.1, Int.ofNat p.2)
def pairsN (g : Nat → Nat → Bool) (n a : Nat) : List (Nat × Nat) := (List.range a).flatMap fun x => ((List.range n).filter (g x)).map fun y => (x, y)
theorem listL_pairs (g : Nat → Nat → Bool) (n a : Nat) : listL g n a = (pairsN g n a).map ofN := by
  unfold listL pairsN rowL
  rw [List.map_flatMap]
  congr 1
  funext x
  rw [List.map_map]
  rfl
theorem flat_ofN (L : List (Nat × Nat)) : flat (L.map ofN) = flatN L := by
  unfold flat flatN
  rw [List.flatMap_map]
  rfl
theorem mem_pairsN {g : Nat → Nat → Bool} {n a : Nat} {p : Nat × Nat} : p ∈ pairsN g n a ↔ p.1 < a ∧ p.2 < n ∧ g p.1 p.2 = true := by
  unfold pairsN
  simp only [List.mem_flatMap, List.mem_range, List.mem_map, List.mem_filter]
  constructor
  · rintro ⟨x, h1, y, ⟨h2, h3⟩, rfl⟩; exact ⟨h1, h2, h3⟩
  · rintro ⟨h1, h2, h3⟩; exact ⟨p.1, h1, p.2, ⟨h2, h3⟩, rfl⟩
/-- the arrows as pairs of numbers -/
def arrN (n : Nat) (f : Nat → Bool) : List (Nat × Nat) := pairsN (gg53 n f) n n
theorem arrN_eq {n : Nat} {f : Nat → Bool} : flat (arrowsL n f) = flatN (arrN n f) := by
  unfold arrowsL arrN
  rw [listL_pairs, flat_ofN]
theorem arrN_len {n : Nat} {f : Nat → Bool} : (arrowsL n f).length = (arrN n f).length := by
  unfold arrowsL arrN
  rw [listL_pairs, List.length_map]
theorem arrN_short {n : Nat} {f : Nat → Bool} (hn : n ≤ 7) : (arrN n f).length ≤ 49 := by
  rw [← arrN_len]
  have := listL_len (gg53 n f) n n
  have : n * n ≤ 7 * 7 := Nat.mul_le_mul hn hn
  unfold arrowsL
  omega
theorem mem_arrN {n : Nat} {f : Nat → Bool} {p : Nat × Nat} : p ∈ arrN n f ↔ p.1 < n ∧ p.2 < n ∧ at7 f p.1 p.2 = true := mem_pairsN
theorem loop9 {n : Nat} {f : Nat → Bool} {M : List (Nat × Nat)} {q : List Int} {m c i : Nat} {L : List (Nat × Nat)} (hl : L.length ≤ 49) : Exec PP T none x9.nt 0 Y9.b.b.b.b (U9 n f (mapT M) q m c i (flatN L) L.length) .n (S9 n f (mapT (L.foldl pushL M)) q m c i) := by
  have e0 : L.foldl pushL M = (L.take L.length).foldl pushL M := by rw [List.take_length]
  rw [e0]
  refine exec_seq (x := Y9.b.b.b.b.a) (y := .block 2 (.loop Z9)) y9f (exec_block (e := .x 2) ?_)
  refine exec_loop_up (fun j => V9 n f (mapT ((L.take j).foldl pushL M)) q m c i (flatN L) L.length j) L.length (fun j hj => ?_) (exec_seq (x := Z9.a) (y := Z9.b) z9a (exec_seq_x (x := Z9.b.a) (y := Z9.b.b) z9x (by simp))) (by simp) 0 (by omega)
  obtain ⟨e1, e2⟩ := flatN_at hj
  have key := z9y (n := n) (f := f) (E := mapT ((L.take j).foldl pushL M)) (q := q) (m := m) (c := c) (i := i) (p := flatN L) (k := L.length) (j := j) (flatN_len L) hj
  rw [e1, e2] at key
  have e3 : updC (.ints 2) (.is [Int.ofNat (L.getD j (0, 0)).1, Int.ofNat (L.getD j (0, 0)).2]) (.bl true) (mapT ((L.take j).foldl pushL M)) = mapT ((L.take (j + 1)).foldl pushL M) := by
    rw [take_succ hj, List.foldl_append]
    exact updT _ _
  rw [e3] at key
  exact exec_seq (x := Z9.a) (y := Z9.b) z9a (exec_seq (x := Z9.b.a) (y := Z9.b.b) (z9b hj) (exec_seq (x := Z9.b.b.a) (y := Z9.b.b.b) (exec_block (id := 3) (x := Z9.b.b.a.i) (e := .n) key) (z9e (by omega))))
def clsT (n : Nat) (f : Nat → Bool) (s : List (Nat × Nat) × Nat) (p : Nat × Nat) : List (Nat × Nat) × Nat := bif s.1.contains p then s else ((rchL n f p.1 p.2).foldl pushL s.1, s.2 + 1)
def clsR (n : Nat) (f : Nat → Bool) (i : Nat) : List (Nat × Nat) × Nat := ((arrN n f).take i).foldl (clsT n f) ([], 0)
/-- how many classes -/
def clsN (n : Nat) (f : Nat → Bool) : Nat := ((arrN n f).foldl (clsT n f) ([], 0)).2
theorem clsT_le {n : Nat} {f : Nat → Bool} : ∀ (A : List (Nat × Nat)) (s : List (Nat × Nat) × Nat), (A.foldl (clsT n f) s).2 ≤ s.2 + A.length
  | [], s => by simp
  | p :: A, s => by
    have := clsT_le (n := n) (f := f) A (clsT n f s p)
    rw [List.foldl_cons, List.length_cons]
    have h : (clsT n f s p).2 ≤ s.2 + 1 := by unfold clsT; cases s.1.contains p <;> simp
    omega
theorem step9 {n : Nat} {f : Nat → Bool} {i : Nat} (hn : n ≤ 7) (hi : i < (arrN n f).length) : Exec PP T none x9.nt 0 X9 (S9 n f (mapT (clsR n f i).1) (flatN (arrN n f)) (arrN n f).length (clsR n f i).2 i) .n (S9 n f (mapT (clsR n f (i + 1)).1) (flatN (arrN n f)) (arrN n f).length (clsR n f (i + 1)).2 (i + 1)) := by
  obtain ⟨e1, e2⟩ := flatN_at hi
  have hm := mem_arrN.1 (show (arrN n f).getD i (0, 0) ∈ arrN n f by simp [hi])
  have hs : clsR n f (i + 1) = clsT n f (clsR n f i) ((arrN n f).getD i (0, 0)) := by
    unfold clsR
    rw [take_succ hi, List.foldl_append]
    rfl
  have hc : (clsR n f i).2 ≤ 49 := by
    have := clsT_le (n := n) (f := f) ((arrN n f).take i) ([], 0)
    have h2 := arrN_short (f := f) hn
    simp at this
    unfold clsR
    omega
  have h49 := arrN_short (f := f) hn
  rw [hs]
  generalize hp : (arrN n f).getD i (0, 0) = p at *
  generalize clsR n f i = s at *
  have ka := y9a (n := n) (f := f) (E := mapT s.1) (q := flatN (arrN n f)) (m := (arrN n f).length) (c := s.2) (i := i) (flatN_len _) hi
  rw [e1, e2] at ka
  refine exec_seq (x := X9.a) (y := X9.b) x9a (exec_seq (x := X9.b.a) (y := X9.b.b) (x9b hi) (exec_seq (x := X9.b.b.a) (y := X9.b.b.b) ?_ (x9e (by omega))))
  unfold clsT
  cases hcn : s.1.contains p with
  | true =>
    exact exec_block (id := 1) (x := Y9) (e := .x 1) (exec_seq (x := Y9.a) (y := Y9.b) ka (exec_seq_x (x := Y9.b.a) (y := Y9.b.b) (y9y (by have := findT p s.1; rw [hcn] at this; exact this)) (by simp)))
  | false =>
    have hr := rch_inv (n := n) (f := f) (a := p.1) (b := p.2) (by omega) (by omega) hn
    have hsh := hr.short
    have hm2 := hr.m
    exact exec_block (id := 1) (x := Y9) (e := .n) (exec_seq (x := Y9.a) (y := Y9.b) ka (exec_seq (x := Y9.b.a) (y := Y9.b.b) (y9n (by have := findT p s.1; rw [hcn] at this; exact this)) (exec_seq (x := Y9.b.b.a) (y := Y9.b.b.b) (y9c (by omega)) (exec_seq (x := Y9.b.b.b.a) (y := Y9.b.b.b.b) (y9d hn (by omega) (by omega)) (loop9 (by omega))))))
def Lc9 : List (Nat × Spec) := [(48, spOpen), (53, sparrows)]
theorem Lc9_ok : SpecsL Lc9 := specsL_cons ok48 spOpen_fp o48 (specsL_cons ok53 sparrows_fp o53 (fun p hp => absurd hp (by simp)))
noncomputable abbrev gc9 : Cal → Option Spec := specsΓ Lc9
theorem envc9 : EnvOK PP T gc9 := envL Lc9_ok
theorem p9a {n : Int} {q : List Int} {m : Nat} : Exec PP T none x9.nt 0 x9.body.a (startSt (A40 n m) (H1 q)) .n (mkSt [(0, ⟨true, I n⟩), (1, sl0 m)] (H1 q) 1 []) := by
  refine exec_orun env0 false 60 [] [0] (fun _ => rfl) (by kernel_rfl) (by kernel_rfl) (by kernel_rfl) (by kernel_rfl)
theorem p9b {n : Nat} {q : List Int} {m : Nat} (hq : q.length = m * 2) (hm : m ≤ 1000000000) (h : err0 (Int.ofNat n) q m = true) : Exec PP T none x9.nt 0 x9.body.b.a (mkSt [(0, ⟨true, I n⟩), (1, sl0 m)] (H1 q) 1 []) .n (mkSt [(6, g1S 0), (7, ⟨true, I 0⟩)] [GF n (nearF q m)] 1 []) := by
  have key : Exec PP T none x9.nt 0 x9.body.b.a (mkSt [(0, ⟨true, I n⟩), (1, sl0 m)] (H1 q) 1 []) .n (mkSt [(6, g1S 0), (7, ⟨true, I 0⟩)] [GF n (nearF (List.take (m * 2) (List.drop 0 q)) m)] 1 []) := by
    refine exec_orun envc9 false 60 [] [1] (fun _ => rfl) (by kernel_rfl) (by kernel_rfl) (by kernel_rfl) ?_
    rw [(show obOf (orun gc9 false 60 x9.body.b.a (mkSt [(0, ⟨true, I n⟩), (1, sl0 m)] (H1 q) 1 []) []) = (decide ((0 + m) * 2 ≤ q.length) && (decide (m ≤ 1000000000) && checkP (Int.ofNat n) (List.take (m * 2) q) m == 0) && true && true && true) from by kernel_rfl)]
    try rw [tk0 hq]
    simp only [err0] at h
    simp at h
    simp [hq, hm, h]
  rw [tk hq] at key
  exact key
theorem p9c {n : Nat} {f : Nat → Bool} : Exec PP T none x9.nt 0 x9.body.b.b.a (mkSt [(6, g1S 0), (7, ⟨true, I 0⟩)] [GF n f] 1 []) .n (mkSt [(6, g1S 0)] [GF n f] 1 []) := by
  refine exec_orun env0 false 60 [false] [0] (fun _ => rfl) (by kernel_rfl) (by kernel_rfl) (by kernel_rfl) (by kernel_rfl)
theorem p9d {n : Nat} {f : Nat → Bool} : Exec PP T none x9.nt 0 x9.body.b.b.b.a (mkSt [(6, g1S 0)] [GF n f] 1 []) .n (mkSt [(6, g1S 0), (8, mpS 1)] [GF n f, MpB []] 2 []) := by
  refine exec_orun env0 false 60 [] [0, 1] (fun _ => rfl) (by kernel_rfl) (by kernel_rfl) (by kernel_rfl) (by kernel_rfl)
theorem p9e {n : Nat} {f : Nat → Bool} : Exec PP T none x9.nt 0 x9.body.b.b.b.b.a (mkSt [(6, g1S 0), (8, mpS 1)] [GF n f, MpB []] 2 []) .n (mkSt [(6, g1S 0), (8, mpS 1), (9, ⟨true, I 0⟩)] [GF n f, MpB []] 2 []) := by
  refine exec_orun env0 false 60 [] [0, 1] (fun _ => rfl) (by kernel_rfl) (by kernel_rfl) (by kernel_rfl) (by kernel_rfl)
theorem p9f {n : Nat} {f : Nat → Bool} (hn : n ≤ 7) : Exec PP T none x9.nt 0 x9.body.b.b.b.b.b.a.a (mkSt [(6, g1S 0), (8, mpS 1), (9, ⟨true, I 0⟩)] [GF n f, MpB []] 2 []) .n (S9 n f [] (flat (arrowsL n f)) (arrowsL n f).length 0 0) := by
  refine exec_orun envc9 false 60 [] [0, 1, 2] (fun _ => rfl) (by kernel_rfl) (by kernel_rfl) (by kernel_rfl) ?_
  rw [(show obOf (orun gc9 false 60 x9.body.b.b.b.b.b.a.a (mkSt [(6, g1S 0), (8, mpS 1), (9, ⟨true, I 0⟩)] [GF n f, MpB []] 2 []) []) = (decide (0 ≤ Int.ofNat n) && decide (Int.ofNat n ≤ 7) && true && true && true) from by kernel_rfl)]
  simp
  omega
theorem p9g {c : Nat} : Exec PP T none x9.nt 0 x9.body.b.b.b.b.b.b (R9 c) .r (mkSt [(4, ⟨true, I c⟩), (5, ⟨true, I 0⟩)] [] 0 []) := by
  refine exec_orun env0 false 60 [] [] (fun _ => rfl) (by kernel_rfl) (by kernel_rfl) (by kernel_rfl) (by kernel_rfl)
theorem body9 {n : Nat} {q : List Int} {m : Nat} (hq : q.length = m * 2) (hm : m ≤ 1000000000) (h : err0 (Int.ofNat n) q m = true) : Exec PP T none x9.nt 0 x9.body (startSt (A40 (Int.ofNat n) m) (H1 q)) .r (mkSt [(4, ⟨true, I (clsN n (nearF q m))⟩), (5, ⟨true, I 0⟩)] [] 0 []) := by
  have hn : n ≤ 7 := by
    have := (err0_rng h).2
    simp at this
    omega
  have kf := p9f (n := n) (f := nearF q m) hn
  rw [arrN_eq, arrN_len] at kf
  have e0 : clsN n (nearF q m) = (clsR n (nearF q m) (arrN n (nearF q m)).length).2 := by unfold clsN clsR; rw [List.take_length]
  rw [e0]
  refine exec_seq (x := x9.body.a) (y := x9.body.b) p9a (exec_seq (x := x9.body.b.a) (y := x9.body.b.b) (p9b hq hm h) (exec_seq (x := x9.body.b.b.a) (y := x9.body.b.b.b) p9c (exec_seq (x := x9.body.b.b.b.a) (y := x9.body.b.b.b.b) p9d (exec_seq (x := x9.body.b.b.b.b.a) (y := x9.body.b.b.b.b.b) p9e (exec_seq (x := x9.body.b.b.b.b.b.a) (y := x9.body.b.b.b.b.b.b) (exec_seq (x := x9.body.b.b.b.b.b.a.a) (y := .block 0 (.loop X9)) kf (exec_block (e := .x 0) ?_)) p9g)))))
  exact exec_loop_up (fun i => S9 n (nearF q m) (mapT (clsR n (nearF q m) i).1) (flatN (arrN n (nearF q m))) (arrN n (nearF q m)).length (clsR n (nearF q m) i).2 i) (arrN n (nearF q m)).length (fun i hi => step9 hn hi) (exec_seq (x := X9.a) (y := X9.b) x9a (exec_seq_x (x := X9.b.a) (y := X9.b.b) x9x (by simp))) (by simp) 0 (by omega)
def gcl (n : Int) (q : List Int) (m : Nat) : TV := .tup [.s (.int .i64 (Int.ofNat (clsN n.toNat (nearF q m)))), .s (.int .i64 0)]
theorem ok9 : SpecOK PP (compC T) 9 (pureS (intPairsX 0 err0 gcl)) :=
  intPairsX_ok o9 0 err0 (fun n q m => [(4, ⟨true, I (clsN n.toNat (nearF q m))⟩), (5, ⟨true, I 0⟩)]) _ (by kernel_rfl) (fun n q m hq hm hc => (by
    obtain ⟨h0, _⟩ := err0_rng hc
    obtain ⟨k, rfl⟩ : ∃ k : Nat, n = Int.ofNat k := ⟨n.toNat, by simp; omega⟩
    exact body9 hq hm hc)) (fun n q m => by kernel_rfl) (fun n q m => by kernel_rfl)
end Go.Proofs.Yteekkjfjpoaihaa.Eng
namespace Go.Proofs.Yteekkjfjpoaihaa.Eng
open Go Go.Proofs
abbrev HC (ro : Bool) (n : Nat) (f : Nat → Bool) (q : List Int) (m : Nat) (r : Nat → Bool) (c : Nat) : List HO := [⟨ro, .row 115 [.int .i64 (Int.ofNat n)] 49 f⟩, ⟨ro, .ivec 38 .i64 2 q⟩, ⟨ro, .row 22 [.sl 1 0 2 m] 0 ff⟩, ⟨false, .row 70 [] 49 r⟩, ⟨false, .row 3 [.int .i64 (Int.ofNat c)] 0 ff⟩, ⟨ro, .row 64 [.ptr 0 0 0] 0 ff⟩, ⟨ro, .row 71 [.fn 50 [2, 3, 4, 5, 6]] 0 ff⟩]
abbrev AG (i : Nat) : List AV := [.s (.int .i64 (Int.ofNat i)), .s (.ptr 2 0 0), .s (.ptr 3 0 0), .s (.ptr 4 0 0), .s (.ptr 5 0 0), .s (.ptr 6 0 0)]
abbrev updG (r : Nat → Bool) (c : Nat) : List (Nat × HO) := [(3, ⟨false, .row 70 [] 49 r⟩), (4, ⟨false, .row 3 [.int .i64 (Int.ofNat c)] 0 ff⟩)]
/-- grow at one place -/
noncomputable abbrev spG (ro : Bool) (n : Nat) (f : Nat → Bool) (q : List Int) (m i : Nat) (r : Nat → Bool) (c c' : Nat) : Spec := spAt (AG i) (mkSt [] (HC ro n f q m r c) 7 []).hp.get 7 (.tup []) (updG r c') []
abbrev sl50 (i : Nat) : List (Nat × Slot) := [(0, ⟨true, I i⟩), (1, g1S 2), (2, g1S 3), (3, g1S 4), (4, g1S 5), (5, g1S 6)]
abbrev S50 (n : Nat) (f : Nat → Bool) (q : List Int) (m i : Nat) (r : Nat → Bool) (c : Nat) : St := mkSt (sl50 i) (HC true n f q m r c) 7 []
abbrev T50 (n : Nat) (f : Nat → Bool) (q : List Int) (m i : Nat) (r : Nat → Bool) (c : Nat) (a b : Int) : St := mkSt (sl50 i ++ [(7, ⟨true, I a⟩), (8, ⟨true, I b⟩)]) (HC true n f q m r c) 7 []
abbrev U50 (n : Nat) (f : Nat → Bool) (q : List Int) (m i : Nat) (r : Nat → Bool) (c a b j : Nat) : St := mkSt (sl50 i ++ [(7, ⟨true, I a⟩), (8, ⟨true, I b⟩), (27, ⟨true, I j⟩)]) (HC true n f q m r c) 7 []
abbrev U50' (n : Nat) (f : Nat → Bool) (q : List Int) (m i : Nat) (r : Nat → Bool) (c a b j : Nat) : St := mkSt (sl50 i ++ [(7, ⟨true, I a⟩), (8, ⟨true, I b⟩), (27, ⟨true, I j⟩), (28, ⟨true, B (decide (Int.ofNat j < 2))⟩)]) (HC true n f q m r c) 7 []
abbrev E50 (n : Nat) (f : Nat → Bool) (q : List Int) (m : Nat) (r : Nat → Bool) (c : Nat) : St := mkSt [] (HC true n f q m r c) 7 []
abbrev id7 : List Nat := [0, 1, 2, 3, 4, 5, 6]
def K50 : XC := x50.body.b.b.b.i.i
def relU (f : Nat → Bool) (a b : Int) : Nat → Bool := fun j => bif j.beq (0 - ([] : List SV).length + (0 + a.toNat * 7 + b.toNat * 1)) then false else f j
def Lt50 : List (Nat × Spec) := [(51, pureS (gRel fun f => B (transB f)))]
theorem Lt50_ok : SpecsL Lt50 := specsL_cons ok51 (pureS_fp (gRel_fp _)) o51 (fun p hp => absurd hp (by simp))
noncomputable abbrev gt50 : Cal → Option Spec := specsΓ Lt50
theorem envt50 : EnvOK PP T gt50 := envL Lt50_ok
def Lp50 : List (Nat × Spec) := [(52, pureS gSpoilt)]
theorem Lp50_ok : SpecsL Lp50 := specsL_cons ok52 (pureS_fp gSpoilt_fp) o52 (fun p hp => absurd hp (by simp))
noncomputable abbrev gp50 : Cal → Option Spec := specsΓ Lp50
theorem envp50 : EnvOK PP T gp50 := envL Lp50_ok
noncomputable def Ls50 (s : Spec) : List (Nat × Spec) := [(50, s), (52, pureS gSpoilt)]
theorem Ls50_ok {s : Spec} (h : SpecOK PP (compC T) 50 s) (hfp : SpecFp s) : SpecsL (Ls50 s) := specsL_cons h hfp o50 (specsL_cons ok52 (pureS_fp gSpoilt_fp) o52 (fun p hp => absurd hp (by simp)))
noncomputable abbrev gs50 (s : Spec) : Cal → Option Spec := specsΓ (Ls50 s)
theorem envs50 {s : Spec} (h : SpecOK PP (compC T) 50 s) (hfp : SpecFp s) : EnvOK PP T (gs50 s) := envL (Ls50_ok h hfp)
theorem f50n {n : Nat} {f : Nat → Bool} {q : List Int} {m i : Nat} {r : Nat → Bool} {c : Nat} (hi : i < m) : Exec PP T none x50.nt 7 x50.body.a (S50 n f q m i r c) .n (S50 n f q m i r c) := by
  refine exec_orunG envt50 false 60 [false] id7 (fun _ => rfl) (by kernel_rfl) (by kernel_rfl) (by kernel_rfl) ?_
  rw [(show obOf (orun gt50 false 60 x50.body.a (S50 n f q m i r c) [false]) = (!Int.ofNat i == Int.ofNat m && true) from by kernel_rfl)]
  simp
  omega
theorem f50y {n : Nat} {f : Nat → Bool} {q : List Int} {m : Nat} {r : Nat → Bool} {c : Nat} (h : transB r = true) (hc : c < 4611686018427387904) : Exec PP T none x50.nt 7 x50.body.a (S50 n f q m m r c) .r (E50 n f q m r (c + 1)) := by
  refine exec_orunG envt50 false 60 [true, true] id7 (fun _ => rfl) (by kernel_rfl) (by kernel_rfl) (by kernel_rfl) ?_
  rw [(show obOf (orun gt50 false 60 x50.body.a (S50 n f q m m r c) [true, true]) = (Int.ofNat m == Int.ofNat m && (transB r && (rng64 (Int.ofNat c.succ) && true) && true)) from by kernel_rfl)]
  simp [h, rng64]
  omega
theorem f50x {n : Nat} {f : Nat → Bool} {q : List Int} {m : Nat} {r : Nat → Bool} {c : Nat} (h : transB r = false) : Exec PP T none x50.nt 7 x50.body.a (S50 n f q m m r c) .r (E50 n f q m r c) := by
  refine exec_orunG envt50 false 60 [true, false] id7 (fun _ => rfl) (by kernel_rfl) (by kernel_rfl) (by kernel_rfl) ?_
  rw [(show obOf (orun gt50 false 60 x50.body.a (S50 n f q m m r c) [true, false]) = (Int.ofNat m == Int.ofNat m && (!transB r && true && true)) from by kernel_rfl)]
  simp [h]
theorem l50 {n : Nat} {f : Nat → Bool} {q : List Int} {m i : Nat} {r : Nat → Bool} {c : Nat} (hq : q.length = m * 2) (hi : i < m) : Exec PP T none x50.nt 7 x50.body.b.a (S50 n f q m i r c) .n (T50 n f q m i r c (q.getD (0 + ((0 + i) * 2 + 0)) 0) (q.getD (0 + ((0 + i) * 2 + 1)) 0)) := by
  refine exec_orunG env0 false 60 [] id7 (fun _ => rfl) (by kernel_rfl) (by kernel_rfl) (by kernel_rfl) ?_
  rw [(show obOf (orun g0 false 60 x50.body.b.a (S50 n f q m i r c) []) = (decide (0 ≤ Int.ofNat i) && decide (Int.ofNat i < Int.ofNat m) && (decide (0 + ((0 + i) * 2 + 0) < q.length) && (decide (0 ≤ Int.ofNat i) && decide (Int.ofNat i < Int.ofNat m) && (decide ((Nat.add 0 ((0 + i) * 2)).succ < q.length) && true))) && true) from by kernel_rfl)]
  simp
  omega
theorem i50 {n : Nat} {f : Nat → Bool} {q : List Int} {m i : Nat} {r : Nat → Bool} {c a b : Nat} : Exec PP T none x50.nt 7 x50.body.b.b.a (T50 n f q m i r c (Int.ofNat a) (Int.ofNat b)) .n (U50 n f q m i r c a b 0) := by
  refine exec_orunG env0 false 60 [] id7 (fun _ => rfl) (by kernel_rfl) (by kernel_rfl) (by kernel_rfl) (by kernel_rfl)
theorem k50a {n : Nat} {f : Nat → Bool} {q : List Int} {m i : Nat} {r : Nat → Bool} {c a b j : Nat} : Exec PP T none x50.nt 7 K50.a (U50 n f q m i r c a b j) .n (U50' n f q m i r c a b j) := by
  refine exec_orunG env0 false 60 [] id7 (fun _ => rfl) (by kernel_rfl) (by kernel_rfl) (by kernel_rfl) (by kernel_rfl)
theorem k50b {n : Nat} {f : Nat → Bool} {q : List Int} {m i : Nat} {r : Nat → Bool} {c a b j : Nat} (hj : j < 2) : Exec PP T none x50.nt 7 K50.b.a (U50' n f q m i r c a b j) .n (U50 n f q m i r c a b j) := by
  refine exec_orunG env0 false 60 [true] id7 (fun _ => rfl) (by kernel_rfl) (by kernel_rfl) (by kernel_rfl) ?_
  rw [(show obOf (orun g0 false 60 K50.b.a (U50' n f q m i r c a b j) [true]) = (decide (Int.ofNat j < 2) && true) from by kernel_rfl)]
  simp
  omega
theorem k50x {n : Nat} {f : Nat → Bool} {q : List Int} {m i : Nat} {r : Nat → Bool} {c a b : Nat} : Exec PP T none x50.nt 7 K50.b.a (U50' n f q m i r c a b 2) (.x 0) (E50 n f q m r c) := by
  refine exec_orunG env0 false 60 [false] id7 (fun _ => rfl) (by kernel_rfl) (by kernel_rfl) (by kernel_rfl) (by kernel_rfl)
theorem k50e {n : Nat} {f : Nat → Bool} {q : List Int} {m i : Nat} {r : Nat → Bool} {c a b j : Nat} (hj : j < 2) : Exec PP T none x50.nt 7 K50.b.b.b (U50 n f q m i r c a b j) .n (U50 n f q m i r c a b (j + 1)) := by
  refine exec_orunG env0 false 60 [] id7 (fun _ => rfl) (by kernel_rfl) (by kernel_rfl) (by kernel_rfl) ?_
  rw [(show obOf (orun g0 false 60 K50.b.b.b (U50 n f q m i r c a b j) []) = (rng64 (Int.ofNat j.succ) && true) from by kernel_rfl)]
  simp [rng64]
  omega
theorem s50 {n : Nat} {f : Nat → Bool} {q : List Int} {m i : Nat} {r : Nat → Bool} {c a b j : Nat} (ha : a < 7) (hb : b < 7) : Exec PP T none x50.nt 7 K50.b.b.a.i.a (U50 n f q m i r c a b j) .n (U50 n f q m i (relS r (Int.ofNat a) (Int.ofNat b)) c a b j) := by
  refine exec_orunG env0 false 60 [] id7 (fun _ => rfl) (by kernel_rfl) (by kernel_rfl) (by kernel_rfl) ?_
  rw [(show obOf (orun g0 false 60 K50.b.b.a.i.a (U50 n f q m i r c a b j) []) = (decide (0 ≤ Int.ofNat a) && decide (Int.ofNat a < 7) && (decide (0 ≤ Int.ofNat b) && decide (Int.ofNat b < 7) && (decide (0 + (0 + a * 7 + b * 1) < 49) && true && true && true))) from by kernel_rfl)]
  simp
  omega
theorem t50 {n : Nat} {f : Nat → Bool} {q : List Int} {m i : Nat} {r : Nat → Bool} {c a b j : Nat} (ha : a < 7) (hb : b < 7) : Exec PP T none x50.nt 7 K50.b.b.a.i.b.b.a (U50 n f q m i r c a b j) .n (U50 n f q m i (relU r (Int.ofNat a) (Int.ofNat b)) c a b j) := by
  refine exec_orunG env0 false 60 [] id7 (fun _ => rfl) (by kernel_rfl) (by kernel_rfl) (by kernel_rfl) ?_
  rw [(show obOf (orun g0 false 60 K50.b.b.a.i.b.b.a (U50 n f q m i r c a b j) []) = (decide (0 ≤ Int.ofNat a) && decide (Int.ofNat a < 7) && (decide (0 ≤ Int.ofNat b) && decide (Int.ofNat b < 7) && (decide (0 + (0 + a * 7 + b * 1) < 49) && true && true && true))) from by kernel_rfl)]
  simp
  omega
theorem w50 {n : Nat} {f : Nat → Bool} {q : List Int} {m i : Nat} {r : Nat → Bool} {c a b j : Nat} : Exec PP T none x50.nt 7 K50.b.b.a.i.b.b.b (U50 n f q m i r c a b j) .n (U50 n f q m i r c b a j) := by
  refine exec_orunG env0 false 60 [] id7 (fun _ => rfl) (by kernel_rfl) (by kernel_rfl) (by kernel_rfl) (by kernel_rfl)
abbrev V50 (n : Nat) (f : Nat → Bool) (q : List Int) (m i : Nat) (r : Nat → Bool) (c a b j : Nat) : St := mkSt (sl50 i ++ [(7, ⟨true, I a⟩), (8, ⟨true, I b⟩), (27, ⟨true, I j⟩), (38, ⟨true, B (!(splB n f r a b))⟩)]) (HC true n f q m r c) 7 []
theorem c50a {n : Nat} {f : Nat → Bool} {q : List Int} {m i : Nat} {r : Nat → Bool} {c a b j : Nat} (hn : n ≤ 7) (ha : a < 7) (hb : b < 7) : Exec PP T none x50.nt 7 K50.b.b.a.i.b.a.a (U50 n f q m i r c a b j) .n (V50 n f q m i r c a b j) := by
  refine exec_orunG envp50 false 60 [] id7 (fun _ => rfl) (by kernel_rfl) (by kernel_rfl) (by kernel_rfl) ?_
  rw [(show obOf (orun gp50 false 60 K50.b.b.a.i.b.a.a (U50 n f q m i r c a b j) []) = (decide (0 ≤ Int.ofNat a) && (decide (Int.ofNat a < 7) && (decide (0 ≤ Int.ofNat b) && (decide (Int.ofNat b < 7) && (decide (0 ≤ Int.ofNat n) && decide (Int.ofNat n ≤ 7))))) && true) from by kernel_rfl)]
  simp
  omega
theorem c50n {n : Nat} {f : Nat → Bool} {q : List Int} {m i : Nat} {r : Nat → Bool} {c a b j : Nat} (h : splB n f r a b = true) : Exec PP T none x50.nt 7 K50.b.b.a.i.b.a.b (V50 n f q m i r c a b j) .n (U50 n f q m i r c a b j) := by
  refine exec_orunG env0 false 60 [false] id7 (fun _ => rfl) (by kernel_rfl) (by kernel_rfl) (by kernel_rfl) ?_
  rw [(show obOf (orun g0 false 60 K50.b.b.a.i.b.a.b (V50 n f q m i r c a b j) [false]) = (!!splB n f r a b && true) from by kernel_rfl)]
  simp [h]
theorem c50y {n : Nat} {f : Nat → Bool} {q : List Int} {m i : Nat} {r : Nat → Bool} {c c' a b j : Nat} (hs : SpecOK PP (compC T) 50 (spG true n f q m (i + 1) r c c')) (hi : i < 1000) (h : splB n f r a b = false) : Exec PP T none x50.nt 7 K50.b.b.a.i.b.a.b (V50 n f q m i r c a b j) .n (U50 n f q m i r c' a b j) := by
  refine exec_orunG (envs50 hs spAt_fp) false 60 [true] id7 (fun _ => rfl) (by kernel_rfl) (by kernel_rfl) (by kernel_rfl) ?_
  rw [(show obOf (orun (gs50 (spG true n f q m (i + 1) r c c')) false 60 K50.b.b.a.i.b.a.b (V50 n f q m i r c a b j) [true]) = (!splB n f r a b && (rng64 (Int.ofNat i.succ) && (atB (AG (i + 1)) (AG (i + 1)) (mkSt [] (HC true n f q m r c) 7 []).hp.get (mkSt [] (HC true n f q m r c) 7 []).hp.get 7 7 && true && true && true))) from by kernel_rfl)]
  simp [h, rng64]
  omega
end Go.Proofs.Yteekkjfjpoaihaa.Eng
namespace Go.Proofs.Yteekkjfjpoaihaa.Eng
open Go Go.Proofs
/-- how many orders grow counts -/
def cntL (n : Nat) (f : Nat → Bool) : List (Nat × Nat) → (Nat → Bool) → Nat
  | [], r => bif transB r then 1 else 0
  | (a, b) :: es, r => (bif splB n f (relS r (Int.ofNat a) (Int.ofNat b)) a b then 0 else cntL n f es (relS r (Int.ofNat a) (Int.ofNat b))) + (bif splB n f (relS r (Int.ofNat b) (Int.ofNat a)) b a then 0 else cntL n f es (relS r (Int.ofNat b) (Int.ofNat a)))
theorem cntL_le {n : Nat} {f : Nat → Bool} : ∀ (es : List (Nat × Nat)) (r : Nat → Bool), cntL n f es r ≤ 2 ^ es.length
  | [], r => by unfold cntL; cases transB r <;> simp
  | (a, b) :: es, r => by
    have h1 := cntL_le (n := n) (f := f) es (relS r (Int.ofNat a) (Int.ofNat b))
    have h2 := cntL_le (n := n) (f := f) es (relS r (Int.ofNat b) (Int.ofNat a))
    unfold cntL
    rw [List.length_cons, Nat.pow_succ]
    cases splB n f (relS r (Int.ofNat a) (Int.ofNat b)) a b <;> cases splB n f (relS r (Int.ofNat b) (Int.ofNat a)) b a <;> simp only [cond_true, cond_false] <;> omega
theorem relU_relS {r : Nat → Bool} {a b : Nat} (h : at7 r a b = false) : relU (relS r (Int.ofNat a) (Int.ofNat b)) (Int.ofNat a) (Int.ofNat b) = r := by
  funext j
  unfold relU relS
  by_cases hj : j = 0 - ([] : List SV).length + (0 + (Int.ofNat a).toNat * 7 + (Int.ofNat b).toNat * 1)
  · rw [beqT hj, cond_true]
    rw [← h]
    unfold at7
    congr 1
    simp at hj
    omega
  · rw [beqF hj, cond_false, cond_false]
def FreeR (es : List (Nat × Nat)) (r : Nat → Bool) : Prop := ∀ p ∈ es, at7 r p.1 p.2 = false ∧ at7 r p.2 p.1 = false
def EdgeL (es : List (Nat × Nat)) : Prop := es.Nodup ∧ ∀ p ∈ es, p.1 < p.2 ∧ p.2 < 7
theorem EdgeL.tail {p : Nat × Nat} {es : List (Nat × Nat)} (h : EdgeL (p :: es)) : EdgeL es := ⟨(List.nodup_cons.1 h.1).2, fun q hq => h.2 q (by simp [hq])⟩
theorem FreeR.set {a b : Nat} {es : List (Nat × Nat)} {r : Nat → Bool} (he : EdgeL ((a, b) :: es)) (h : FreeR ((a, b) :: es) r) : FreeR es (relS r (Int.ofNat a) (Int.ofNat b)) ∧ FreeR es (relS r (Int.ofNat b) (Int.ofNat a)) := by
  have hab := he.2 (a, b) (by simp)
  have key : ∀ p ∈ es, (p.1, p.2) ≠ (a, b) ∧ (p.2, p.1) ≠ (a, b) := fun p hp => by
    have h1 := he.2 p (by simp [hp])
    have h2 := (List.nodup_cons.1 he.1).1
    refine ⟨fun e => h2 (by rw [← e]; exact hp), fun e => ?_⟩
    simp only [Prod.mk.injEq] at e
    simp at hab
    omega
  constructor
  · intro p hp
    have h1 := he.2 p (by simp [hp])
    have hf := h p (by simp [hp])
    obtain ⟨k1, k2⟩ := key p hp
    simp at hab
    constructor
    · rw [at7_relS7 (by omega) (by omega) (by omega) (by omega), hf.1]
      simpa using k1
    · rw [at7_relS7 (by omega) (by omega) (by omega) (by omega), hf.2]
      simpa using k2
  · intro p hp
    have h1 := he.2 p (by simp [hp])
    have hf := h p (by simp [hp])
    obtain ⟨k1, k2⟩ := key p hp
    simp at hab
    constructor
    · rw [at7_relS7 (by omega) (by omega) (by omega) (by omega), hf.1]
      simp at k2 ⊢
      omega
    · rw [at7_relS7 (by omega) (by omega) (by omega) (by omega), hf.2]
      simp at k1 ⊢
      omega
theorem r50 {n : Nat} {f : Nat → Bool} {q : List Int} {m i : Nat} {r : Nat → Bool} {c c' a b j : Nat} (hs : splB n f (relS r (Int.ofNat a) (Int.ofNat b)) a b = false → SpecOK PP (compC T) 50 (spG true n f q m (i + 1) (relS r (Int.ofNat a) (Int.ofNat b)) c c')) (hs' : splB n f (relS r (Int.ofNat a) (Int.ofNat b)) a b = true → c' = c) (hn : n ≤ 7) (ha : a < 7) (hb : b < 7) (hi : i < 1000) (hj : j < 2) (hr : at7 r a b = false) : Exec PP T none x50.nt 7 K50 (U50 n f q m i r c a b j) .n (U50 n f q m i r c' b a (j + 1)) := by
  refine exec_seq (x := K50.a) (y := K50.b) k50a (exec_seq (x := K50.b.a) (y := K50.b.b) (k50b hj) (exec_seq (x := K50.b.b.a) (y := K50.b.b.b) ?_ (k50e hj)))
  have kt := t50 (n := n) (f := f) (q := q) (m := m) (i := i) (r := relS r (Int.ofNat a) (Int.ofNat b)) (c := c') (a := a) (b := b) (j := j) ha hb
  rw [relU_relS hr] at kt
  refine exec_block (id := 1) (x := K50.b.b.a.i) (e := .n) (exec_seq (x := K50.b.b.a.i.a) (y := K50.b.b.a.i.b) (s50 ha hb) (exec_seq (x := K50.b.b.a.i.b.a) (y := K50.b.b.a.i.b.b) (exec_seq (x := K50.b.b.a.i.b.a.a) (y := K50.b.b.a.i.b.a.b) (c50a hn ha hb) ?_) (exec_seq (x := K50.b.b.a.i.b.b.a) (y := K50.b.b.a.i.b.b.b) kt w50)))
  cases h : splB n f (relS r (Int.ofNat a) (Int.ofNat b)) a b with
  | false => exact c50y (hs h) hi h
  | true =>
    rw [hs' h]
    exact c50n h
theorem body50_nil {n : Nat} {f : Nat → Bool} {q : List Int} {m : Nat} {r : Nat → Bool} {c : Nat} (hc : c < 4611686018427387904) : Exec PP T none x50.nt 7 x50.body (S50 n f q m m r c) .r (E50 n f q m r (c + cntL n f [] r)) := by
  unfold cntL
  cases h : transB r with
  | true => exact exec_seq_x (x := x50.body.a) (y := x50.body.b) (f50y h hc) (by simp)
  | false => exact exec_seq_x (x := x50.body.a) (y := x50.body.b) (f50x h) (by simp)
theorem atOK_G {ro : Bool} {n : Nat} {f : Nat → Bool} {q : List Int} {m i : Nat} {r : Nat → Bool} {c c' : Nat} : AtOK (mkSt [] (HC ro n f q m r c) 7 []).hp.get (mkSt (sl50 i) (HC true n f q m r c) 7 []).hp 7 7 (updG r c') [] (HC true n f q m r c') where
  start := fun j o hj => by
    rw [mkSt_hp] at hj
    rw [mkSt_hp]
    match j, hj with
    | 0, hj => cases hj; exact ⟨_, rfl, rfl, fun h => by cases h⟩
    | 1, hj => cases hj; exact ⟨_, rfl, rfl, fun h => by cases h⟩
    | 2, hj => cases hj; exact ⟨_, rfl, rfl, fun h => by cases h⟩
    | 3, hj => cases hj; exact ⟨_, rfl, rfl, fun _ => ⟨rfl, fun _ => ⟨_, .head _, rfl⟩⟩⟩
    | 4, hj => cases hj; exact ⟨_, rfl, rfl, fun _ => ⟨rfl, fun _ => ⟨_, .tail _ (.head _), rfl⟩⟩⟩
    | 5, hj => cases hj; exact ⟨_, rfl, rfl, fun h => by cases h⟩
    | 6, hj => cases hj; exact ⟨_, rfl, rfl, fun h => by cases h⟩
    | j + 7, hj => simp at hj
  keep := fun j hj => by
    rw [mkSt_hp]
    simp
    omega
  len := rfl
  new := rfl
  news_eq := rfl
  upd_eq := fun u hu => by
    simp only [List.mem_cons, List.not_mem_nil, or_false] at hu
    rcases hu with rfl | rfl
    · exact .inr ⟨(by show 3 < 7; omega), _, rfl, rfl, rfl, fun h => by cases h⟩
    · exact .inr ⟨(by show 4 < 7; omega), _, rfl, rfl, rfl, fun h => by cases h⟩
  ids := fun j o hj i hi => by
    show i < 7
    match j, hj with
    | 0, hj => cases hj; simp [AO.ids, SV.ids] at hi
    | 1, hj => cases hj; simp [AO.ids, SV.ids] at hi
    | 2, hj => cases hj; simp [AO.ids, SV.ids] at hi; omega
    | 3, hj => cases hj; simp [AO.ids, SV.ids] at hi
    | 4, hj => cases hj; simp [AO.ids, SV.ids] at hi
    | 5, hj => cases hj; simp [AO.ids, SV.ids] at hi; omega
    | 6, hj => cases hj; simp [AO.ids, SV.ids] at hi; omega
    | j + 7, hj => simp at hj
theorem okG {ro : Bool} {n : Nat} {f : Nat → Bool} {q : List Int} {m i : Nat} {r : Nat → Bool} {c c' : Nat} {ex : XE} (hrun : Exec PP T none x50.nt 7 x50.body (S50 n f q m i r c) ex (E50 n f q m r c')) (hex : ex = .n ∨ ex = .r) : SpecOK PP (compC T) 50 (spG ro n f q m i r c c') :=
  spec_at o50 (S := (mkSt (sl50 i) (HC true n f q m r c) 7 []).hp) (K := 7) atOK_G (fun j o hj k hk => by
    rw [mkSt_hp] at hj
    rw [mkSt_hp]
    match j, hj with
    | 0, hj => cases hj; simp [AO.ids, SV.ids] at hk
    | 1, hj => cases hj; simp [AO.ids, SV.ids] at hk
    | 2, hj => cases hj; simp [AO.ids, SV.ids] at hk; subst hk; rfl
    | 3, hj => cases hj; simp [AO.ids, SV.ids] at hk
    | 4, hj => cases hj; simp [AO.ids, SV.ids] at hk
    | 5, hj => cases hj; simp [AO.ids, SV.ids] at hk; subst hk; rfl
    | 6, hj => cases hj; simp [AO.ids, SV.ids] at hk; rcases hk with rfl | rfl | rfl | rfl | rfl <;> rfl
    | j + 7, hj => simp at hj) (fun k hk => by
    rw [mkSt_hp]
    simp [AV.ids, SV.ids] at hk
    rcases hk with rfl | rfl | rfl | rfl | rfl <;> rfl) (by kernel_rfl) hrun hex rfl
theorem ok50 {n : Nat} {f : Nat → Bool} {L : List (Nat × Nat)} (hn : n ≤ 7) (hL : L.length ≤ 49) : ∀ (es : List (Nat × Nat)) (ro : Bool) (i : Nat) (r : Nat → Bool) (c : Nat), L.drop i = es → i ≤ L.length → EdgeL es → FreeR es r → c + 2 ^ es.length ≤ 4611686018427387904 → SpecOK PP (compC T) 50 (spG ro n f (flatN L) L.length i r c (c + cntL n f es r))
  | [], ro, i, r, c, hd, hi, he, hf, hc => by
    have : i = L.length := by
      have := List.drop_eq_nil_iff.1 hd
      omega
    subst this
    exact okG (body50_nil (by simp at hc; omega)) (.inr rfl)
  | (a, b) :: es, ro, i, r, c, hd, hi, he, hf, hc => by
    have hab := he.2 (a, b) (by simp)
    simp at hab
    have hi' : i < L.length := by
      rcases Nat.lt_or_ge i L.length with h | h
      · exact h
      · rw [List.drop_eq_nil_iff.2 h] at hd; cases hd
    have hget : L.getD i (0, 0) = (a, b) ∧ L.drop (i + 1) = es := by
      rw [List.drop_eq_getElem_cons hi'] at hd
      simp only [List.cons.injEq] at hd
      exact ⟨by simp [hi', hd.1], hd.2⟩
    obtain ⟨hf1, hf2⟩ := FreeR.set he hf
    have hfr := hf (a, b) (by simp)
    have e1 := (flatN_at hi').1
    have e2 := (flatN_at hi').2
    rw [hget.1] at e1 e2
    have kl := l50 (n := n) (f := f) (q := flatN L) (m := L.length) (i := i) (r := r) (c := c) (flatN_len L) hi'
    have e1' : (flatN L).getD (0 + ((0 + i) * 2 + 0)) 0 = Int.ofNat a := by rw [← e1, show 0 + ((0 + i) * 2 + 0) = 0 + (0 + i) * 2 + 0 by omega]
    have e2' : (flatN L).getD (0 + ((0 + i) * 2 + 1)) 0 = Int.ofNat b := by rw [← e2, show 0 + ((0 + i) * 2 + 1) = 0 + (0 + i) * 2 + 0 + 1 by omega]
    rw [e1', e2'] at kl
    have hp : c + 2 ^ es.length + 2 ^ es.length ≤ 4611686018427387904 := by
      rw [List.length_cons, Nat.pow_succ] at hc
      omega
    have hle := cntL_le (n := n) (f := f) es (relS r (Int.ofNat a) (Int.ofNat b))
    have g1 : ∀ ro, SpecOK PP (compC T) 50 (spG ro n f (flatN L) L.length (i + 1) (relS r (Int.ofNat a) (Int.ofNat b)) c (c + cntL n f es (relS r (Int.ofNat a) (Int.ofNat b)))) := fun ro => ok50 hn hL es ro (i + 1) _ c hget.2 (by omega) he.tail hf1 (by omega)
    have g2 : ∀ ro c', c' ≤ c + 2 ^ es.length → SpecOK PP (compC T) 50 (spG ro n f (flatN L) L.length (i + 1) (relS r (Int.ofNat b) (Int.ofNat a)) c' (c' + cntL n f es (relS r (Int.ofNat b) (Int.ofNat a)))) := fun ro c' hc' => ok50 hn hL es ro (i + 1) _ c' hget.2 (by omega) he.tail hf2 (by omega)
    let c1 : Nat := c + bif splB n f (relS r (Int.ofNat a) (Int.ofNat b)) a b then 0 else cntL n f es (relS r (Int.ofNat a) (Int.ofNat b))
    have hc1 : c1 ≤ c + 2 ^ es.length := by
      show c + _ ≤ _
      cases splB n f (relS r (Int.ofNat a) (Int.ofNat b)) a b <;> simp only [cond_true, cond_false] <;> omega
    have s1 : Exec PP T none x50.nt 7 K50 (U50 n f (flatN L) L.length i r c a b 0) .n (U50 n f (flatN L) L.length i r c1 b a (0 + 1)) := by
      refine r50 (fun h => ?_) (fun h => ?_) hn (by omega) (by omega) (by omega) (by omega) hfr.1
      · show SpecOK PP (compC T) 50 (spG true n f (flatN L) L.length (i + 1) _ c (c + _))
        rw [h]
        exact g1 true
      · show c + _ = c
        rw [h]
        rfl
    have e0 : c + cntL n f ((a, b) :: es) r = c1 + bif splB n f (relS r (Int.ofNat b) (Int.ofNat a)) b a then 0 else cntL n f es (relS r (Int.ofNat b) (Int.ofNat a)) := by
      show c + cntL n f ((a, b) :: es) r = c + _ + _
      rw [Nat.add_assoc]
      rfl
    rw [e0]
    have s2 : Exec PP T none x50.nt 7 K50 (U50 n f (flatN L) L.length i r c1 b a 1) .n (U50 n f (flatN L) L.length i r (c1 + bif splB n f (relS r (Int.ofNat b) (Int.ofNat a)) b a then 0 else cntL n f es (relS r (Int.ofNat b) (Int.ofNat a))) a b (1 + 1)) := by
      refine r50 (fun h => ?_) (fun h => ?_) hn (by omega) (by omega) (by omega) (by omega) hfr.2
      · rw [h]
        exact g2 true c1 hc1
      · rw [h]
        rfl
    refine okG (ex := .n) (exec_seq (x := x50.body.a) (y := x50.body.b) (f50n hi') (exec_seq (x := x50.body.b.a) (y := x50.body.b.b) kl (exec_seq (x := x50.body.b.b.a) (y := x50.body.b.b.b) i50 (exec_block (id := 0) (x := .loop K50) (e := .x 0) ?_)))) (.inl rfl)
    have st : ∀ k, k < 2 → Exec PP T none x50.nt 7 K50 ((fun k => match k with | 0 => U50 n f (flatN L) L.length i r c a b 0 | 1 => U50 n f (flatN L) L.length i r c1 b a 1 | _ => U50 n f (flatN L) L.length i r (c1 + bif splB n f (relS r (Int.ofNat b) (Int.ofNat a)) b a then 0 else cntL n f es (relS r (Int.ofNat b) (Int.ofNat a))) a b 2) k) .n ((fun k => match k with | 0 => U50 n f (flatN L) L.length i r c a b 0 | 1 => U50 n f (flatN L) L.length i r c1 b a 1 | _ => U50 n f (flatN L) L.length i r (c1 + bif splB n f (relS r (Int.ofNat b) (Int.ofNat a)) b a then 0 else cntL n f es (relS r (Int.ofNat b) (Int.ofNat a))) a b 2) (k + 1)) := fun k hk => by
      match k, hk with
      | 0, _ => exact s1
      | 1, _ => exact s2
      | k + 2, hk => omega
    exact exec_loop_up _ 2 st (exec_seq (x := K50.a) (y := K50.b) k50a (exec_seq_x (x := K50.b.a) (y := K50.b.b) k50x (by simp))) (by simp) 0 (by omega)
end Go.Proofs.Yteekkjfjpoaihaa.Eng

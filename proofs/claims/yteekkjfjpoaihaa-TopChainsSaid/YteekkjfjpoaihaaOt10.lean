/- A part of the proof of topChains_holds. -/
import Derived.Test.YteekkjfjpoaihaaOt09
set_option linter.all false
namespace Go.Proofs.Yteekkjfjpoaihaa.Eng
open Go Go.Proofs
def L18 : XC := x18.body.b.b.a.b.i.i
def X18 : XC := L18.b.a.i
def M18 : XC := X18.b.b.a.i.i
abbrev ivO (l : List Int) : HO := ⟨false, .ivec 38 .i64 2 l⟩
abbrev pO (a b : Int) : HO := ⟨false, .row 38 [.int .i64 a, .int .i64 b] 0 ff⟩
abbrev H18 (q l : List Int) : List HO := [⟨true, .xvec .i64 2 q⟩, ivO l]
abbrev S18 (q : List Int) (m : Nat) (l : List Int) (k i : Nat) : St := mkSt [(0, lsS 0 m), (3, lsS 1 k), (4, iS i)] (H18 q l) 2 []
abbrev P18 (q : List Int) (m : Nat) (l : List Int) (k i : Nat) (a b : Int) : St := mkSt [(0, lsS 0 m), (3, lsS 1 k), (4, iS i), (5, g1S 2)] (H18 q l ++ [pO a b]) 3 []
abbrev T18 (q : List Int) (m : Nat) (l : List Int) (k i : Nat) (a b : Int) (at' : Nat) (t : Bool) : St := mkSt [(0, lsS 0 m), (3, lsS 1 k), (4, iS i), (5, g1S 2), (6, iS at'), (7, ⟨true, B t⟩)] (H18 q l ++ [pO a b]) 3 []
/-- a pair of the list comes before (a, b) -/
def lt18 (l : List Int) (a b : Int) (i : Nat) : Bool := decide (ra l i < a) || (ra l i == a && decide (rb l i < b))
theorem a18 {q : List Int} {m : Nat}  : Exec PP T none x18.nt 0 x18.body.a (startSt [.s (.sl 0 0 2 m)] [⟨true, .xvec .i64 2 q⟩]) .n (mkSt [(0, lsS 0 m)] [⟨true, .xvec .i64 2 q⟩] 1 []) := by
  refine exec_orun env0 false 60 [] [0] (fun _ => rfl) (by kernel_rfl) (by kernel_rfl) (by kernel_rfl) (by kernel_rfl)
theorem b18q {q : List Int} {m : Nat}  : Exec PP T none x18.nt 0 x18.body.b.a (mkSt [(0, lsS 0 m)] [⟨true, .xvec .i64 2 q⟩] 1 []) .n (mkSt [(0, lsS 0 m), (3, ⟨true, .av (.s .nils)⟩)] [⟨true, .xvec .i64 2 q⟩] 1 []) := by
  refine exec_orun env0 false 60 [] [0] (fun _ => rfl) (by kernel_rfl) (by kernel_rfl) (by kernel_rfl) (by kernel_rfl)
theorem b18 {q : List Int} {m : Nat} : Exec PP T none x18.nt 0 x18.body.b.a (mkSt [(0, lsS 0 m)] [⟨true, .xvec .i64 2 q⟩] 1 []) .n (mkSt [(3, lsS 1 0), (0, lsS 0 m)] (H18 q []) 2 []) := b18q.post (weak_nil 3 38 .i64 2 rfl rfl rfl)
theorem cc18 {q : List Int} {m : Nat}  : Exec PP T none x18.nt 0 x18.body.b.b.a.a (mkSt [(3, lsS 1 0), (0, lsS 0 m)] (H18 q []) 2 []) .n (S18 q m [] 0 0) := by
  refine exec_orun env0 false 60 [] [0, 1] (fun _ => rfl) (by kernel_rfl) (by kernel_rfl) (by kernel_rfl) (by kernel_rfl)
theorem l18a {q : List Int} {m : Nat} {l : List Int} {k i : Nat} (hi : i < m) : Exec PP T none x18.nt 0 L18.a (S18 q m l k i) .n (S18 q m l k i) := by
  refine exec_prun env0 [(12, true)] false 60 [0, 1] (by kernel_rfl) (by kernel_rfl) (by kernel_rfl) ?_
  rw [(show obOf (prun [(12, true)] g0 false 60 L18.a (S18 q m l k i)) = (decide (Int.ofNat i < Int.ofNat m) == true && true && true) from by kernel_rfl)]
  all_goals (first | rfl | (simp; done) | (simp; omega) | (simp [rng64]; done) | (simp [rng64]; omega) | (simp [rng64_eq]; omega))
theorem l18x {q : List Int} {m : Nat} {l : List Int} {k : Nat}  : Exec PP T none x18.nt 0 L18.a (S18 q m l k m) (.x 0) (S18 q m l k m) := by
  refine exec_prun env0 [(12, false)] false 60 [0, 1] (by kernel_rfl) (by kernel_rfl) (by kernel_rfl) ?_
  rw [(show obOf (prun [(12, false)] g0 false 60 L18.a (S18 q m l k m)) = (decide (Int.ofNat m < Int.ofNat m) == false && true && true) from by kernel_rfl)]
  all_goals (first | rfl | (simp; done) | (simp; omega) | (simp [rng64]; done) | (simp [rng64]; omega) | (simp [rng64_eq]; omega))
theorem l18b {q : List Int} {m : Nat} {l : List Int} {k i : Nat} (hq : q.length = m * 2) (hi : i < m) : Exec PP T none x18.nt 0 X18.a (S18 q m l k i) .n (P18 q m l k i (min (ra q i) (rb q i)) (max (ra q i) (rb q i))) := by
  refine exec_orun env0 false 60 [] [0, 1, 2] (fun _ => rfl) (by kernel_rfl) (by kernel_rfl) (by kernel_rfl) ?_
  rw [(show obOf (orun g0 false 60 X18.a (S18 q m l k i) []) = (decide (0 ≤ Int.ofNat i) && decide (Int.ofNat i < Int.ofNat m) && (decide (0 + ((0 + i) * 2 + 0) < q.length) && (decide (0 ≤ Int.ofNat i) && decide (Int.ofNat i < Int.ofNat m) && (decide ((Nat.add 0 ((0 + i) * 2)).succ < q.length) && (decide (0 ≤ Int.ofNat i) && decide (Int.ofNat i < Int.ofNat m) && (decide (0 + ((0 + i) * 2 + 0) < q.length) && (decide (0 ≤ Int.ofNat i) && decide (Int.ofNat i < Int.ofNat m) && (decide ((Nat.add 0 ((0 + i) * 2)).succ < q.length) && true))))))) && true) from by kernel_rfl)]
  simp [hq]
  omega
theorem l18c {q : List Int} {m : Nat} {l : List Int} {k i : Nat} {a b : Int}  : Exec PP T none x18.nt 0 X18.b.a (P18 q m l k i a b) .n (T18 q m l k i a b 0 (a == b)) := by
  refine exec_orun env0 false 60 [] [0, 1, 2] (fun _ => rfl) (by kernel_rfl) (by kernel_rfl) (by kernel_rfl) ?_
  rw [(show obOf (orun g0 false 60 X18.b.a (P18 q m l k i a b) []) = (true && true) from by kernel_rfl)]
  all_goals (first | rfl | (simp; done) | (simp; omega) | (simp [rng64]; done) | (simp [rng64]; omega) | (simp [rng64_eq]; omega))
theorem m18y1 {q : List Int} {m : Nat} {l : List Int} {k i x : Nat} {a b : Int} {t : Bool} (hl : l.length = k * 2) (hk : k ≤ 1000) (hx : x < k) (h : ra l x < a) : Exec PP T none x18.nt 0 M18 (T18 q m l k i a b x t) .n (T18 q m l k i a b (x + 1) t) := by
  refine exec_prun env0 [(46, true), (55, true)] false 60 [0, 1, 2] (by kernel_rfl) (by kernel_rfl) (by kernel_rfl) ?_
  rw [(show obOf (prun [(46, true), (55, true)] g0 false 60 M18 (T18 q m l k i a b x t)) = (decide (Int.ofNat x < Int.ofNat k) == true && (decide (0 ≤ Int.ofNat x) && decide (Int.ofNat x < Int.ofNat k) && (decide (0 + ((0 + x) * 2 + 0) < l.length) && (decide (l.getD (0 + ((0 + x) * 2 + 0)) 0 < a) == true && true))) && true && true && (rng64 (Int.ofNat x.succ) && true)) from by kernel_rfl)]
  have e1 : l.getD (0 + ((0 + x) * 2 + 0)) 0 = ra l x := rfl
  have e2 : l.getD (Nat.add 0 ((0 + x) * 2)).succ 0 = rb l x := rfl
  simp only [e1, e2]
  simp [hl, rng64]
  omega
theorem m18y2 {q : List Int} {m : Nat} {l : List Int} {k i x : Nat} {a b : Int} {t : Bool} (hl : l.length = k * 2) (hk : k ≤ 1000) (hx : x < k) (h : ra l x = a) (h2 : rb l x < b) : Exec PP T none x18.nt 0 M18 (T18 q m l k i a b x t) .n (T18 q m l k i a b (x + 1) t) := by
  refine exec_prun env0 [(46, true), (55, false), (64, true), (73, true)] false 60 [0, 1, 2] (by kernel_rfl) (by kernel_rfl) (by kernel_rfl) ?_
  rw [(show obOf (prun [(46, true), (55, false), (64, true), (73, true)] g0 false 60 M18 (T18 q m l k i a b x t)) = (decide (Int.ofNat x < Int.ofNat k) == true && (decide (0 ≤ Int.ofNat x) && decide (Int.ofNat x < Int.ofNat k) && (decide (0 + ((0 + x) * 2 + 0) < l.length) && (decide (l.getD (0 + ((0 + x) * 2 + 0)) 0 < a) == false && (decide (0 ≤ Int.ofNat x) && decide (Int.ofNat x < Int.ofNat k) && (decide (0 + ((0 + x) * 2 + 0) < l.length) && ((l.getD (0 + ((0 + x) * 2 + 0)) 0 == a) == true && (decide (0 ≤ Int.ofNat x) && decide (Int.ofNat x < Int.ofNat k) && (decide ((Nat.add 0 ((0 + x) * 2)).succ < l.length) && (decide (l.getD (Nat.add 0 ((0 + x) * 2)).succ 0 < b) == true && true))))))))) && true && true && (rng64 (Int.ofNat x.succ) && true)) from by kernel_rfl)]
  have e1 : l.getD (0 + ((0 + x) * 2 + 0)) 0 = ra l x := rfl
  have e2 : l.getD (Nat.add 0 ((0 + x) * 2)).succ 0 = rb l x := rfl
  simp only [e1, e2]
  simp [hl, rng64]
  omega
theorem m18x0 {q : List Int} {m : Nat} {l : List Int} {k i : Nat} {a b : Int} {t : Bool}  : Exec PP T none x18.nt 0 M18 (T18 q m l k i a b k t) (.x 2) (T18 q m l k i a b k t) := by
  refine exec_prun env0 [(46, false)] false 60 [0, 1, 2] (by kernel_rfl) (by kernel_rfl) (by kernel_rfl) ?_
  rw [(show obOf (prun [(46, false)] g0 false 60 M18 (T18 q m l k i a b k t)) = (decide (Int.ofNat k < Int.ofNat k) == false && true && true && true) from by kernel_rfl)]
  all_goals (first | rfl | (simp; done) | (simp; omega) | (simp [rng64]; done) | (simp [rng64]; omega) | (simp [rng64_eq]; omega))
theorem m18x1 {q : List Int} {m : Nat} {l : List Int} {k i x : Nat} {a b : Int} {t : Bool} (hl : l.length = k * 2) (hk : k ≤ 1000) (hx : x < k) (h : a < ra l x) : Exec PP T none x18.nt 0 M18 (T18 q m l k i a b x t) (.x 2) (T18 q m l k i a b x t) := by
  refine exec_prun env0 [(46, true), (55, false), (64, false)] false 60 [0, 1, 2] (by kernel_rfl) (by kernel_rfl) (by kernel_rfl) ?_
  rw [(show obOf (prun [(46, true), (55, false), (64, false)] g0 false 60 M18 (T18 q m l k i a b x t)) = (decide (Int.ofNat x < Int.ofNat k) == true && (decide (0 ≤ Int.ofNat x) && decide (Int.ofNat x < Int.ofNat k) && (decide (0 + ((0 + x) * 2 + 0) < l.length) && (decide (l.getD (0 + ((0 + x) * 2 + 0)) 0 < a) == false && (decide (0 ≤ Int.ofNat x) && decide (Int.ofNat x < Int.ofNat k) && (decide (0 + ((0 + x) * 2 + 0) < l.length) && ((l.getD (0 + ((0 + x) * 2 + 0)) 0 == a) == false && true)))))) && true && true) from by kernel_rfl)]
  have e1 : l.getD (0 + ((0 + x) * 2 + 0)) 0 = ra l x := rfl
  have e2 : l.getD (Nat.add 0 ((0 + x) * 2)).succ 0 = rb l x := rfl
  simp only [e1, e2]
  simp [hl, rng64]
  omega
theorem m18x2 {q : List Int} {m : Nat} {l : List Int} {k i x : Nat} {a b : Int} {t : Bool} (hl : l.length = k * 2) (hk : k ≤ 1000) (hx : x < k) (h : ra l x = a) (h2 : b ≤ rb l x) : Exec PP T none x18.nt 0 M18 (T18 q m l k i a b x t) (.x 2) (T18 q m l k i a b x t) := by
  refine exec_prun env0 [(46, true), (55, false), (64, true), (73, false)] false 60 [0, 1, 2] (by kernel_rfl) (by kernel_rfl) (by kernel_rfl) ?_
  rw [(show obOf (prun [(46, true), (55, false), (64, true), (73, false)] g0 false 60 M18 (T18 q m l k i a b x t)) = (decide (Int.ofNat x < Int.ofNat k) == true && (decide (0 ≤ Int.ofNat x) && decide (Int.ofNat x < Int.ofNat k) && (decide (0 + ((0 + x) * 2 + 0) < l.length) && (decide (l.getD (0 + ((0 + x) * 2 + 0)) 0 < a) == false && (decide (0 ≤ Int.ofNat x) && decide (Int.ofNat x < Int.ofNat k) && (decide (0 + ((0 + x) * 2 + 0) < l.length) && ((l.getD (0 + ((0 + x) * 2 + 0)) 0 == a) == true && (decide (0 ≤ Int.ofNat x) && decide (Int.ofNat x < Int.ofNat k) && (decide ((Nat.add 0 ((0 + x) * 2)).succ < l.length) && (decide (l.getD (Nat.add 0 ((0 + x) * 2)).succ 0 < b) == false && true))))))))) && true && true) from by kernel_rfl)]
  have e1 : l.getD (0 + ((0 + x) * 2 + 0)) 0 = ra l x := rfl
  have e2 : l.getD (Nat.add 0 ((0 + x) * 2)).succ 0 = rb l x := rfl
  simp only [e1, e2]
  simp [hl, rng64]
  omega
theorem c18t {q : List Int} {m : Nat} {l : List Int} {k i x : Nat} {a b : Int}  : Exec PP T none x18.nt 0 X18.b.b.b.a (T18 q m l k i a b x true) (.x 1) (S18 q m l k i) := by
  refine exec_prun env0 [(79, true)] false 60 [0, 1] (by kernel_rfl) (by kernel_rfl) (by kernel_rfl) (by kernel_rfl)
theorem c18e {q : List Int} {m : Nat} {l : List Int} {k i x : Nat} {a b : Int} (hl : l.length = k * 2) (hk : k ≤ 1000) (hx : x < k) (h : ra l x = a) (h2 : rb l x = b) : Exec PP T none x18.nt 0 X18.b.b.b.a (T18 q m l k i a b x false) (.x 1) (S18 q m l k i) := by
  refine exec_prun env0 [(84, true), (91, true)] false 60 [0, 1] (by kernel_rfl) (by kernel_rfl) (by kernel_rfl) ?_
  rw [(show obOf (prun [(84, true), (91, true)] g0 false 60 X18.b.b.b.a (T18 q m l k i a b x false)) = (decide (Int.ofNat x < Int.ofNat k) == true && (decide (0 ≤ Int.ofNat x) && decide (Int.ofNat x < Int.ofNat k) && (decide (((0 + (0 + x) * 2).add 0).succ.succ ≤ l.length) && ((false != ([l.getD (0 + (0 + x) * 2 + 0) 0, l.getD ((0 + (0 + x) * 2).add 0).succ 0] == [a, b] && true)) == true && true))) && true && true) from by kernel_rfl)]
  have e1 : l.getD (0 + (0 + x) * 2 + 0) 0 = ra l x := rfl
  have e2 : l.getD ((0 + (0 + x) * 2).add 0).succ 0 = rb l x := rfl
  simp only [e1, e2]
  simp [hl]
  omega
theorem c18n {q : List Int} {m : Nat} {l : List Int} {k i x : Nat} {a b : Int} (hl : l.length = k * 2) (hk : k ≤ 1000) (hx : x < k) (h : ¬ (ra l x = a ∧ rb l x = b)) : Exec PP T none x18.nt 0 X18.b.b.b.a (T18 q m l k i a b x false) .n (T18 q m l k i a b x false) := by
  refine exec_prun env0 [(84, true), (91, false)] false 60 [0, 1, 2] (by kernel_rfl) (by kernel_rfl) (by kernel_rfl) ?_
  rw [(show obOf (prun [(84, true), (91, false)] g0 false 60 X18.b.b.b.a (T18 q m l k i a b x false)) = (decide (Int.ofNat x < Int.ofNat k) == true && (decide (0 ≤ Int.ofNat x) && decide (Int.ofNat x < Int.ofNat k) && (decide (((0 + (0 + x) * 2).add 0).succ.succ ≤ l.length) && ((false != ([l.getD (0 + (0 + x) * 2 + 0) 0, l.getD ((0 + (0 + x) * 2).add 0).succ 0] == [a, b] && true)) == false && true))) && true && true) from by kernel_rfl)]
  have e1 : l.getD (0 + (0 + x) * 2 + 0) 0 = ra l x := rfl
  have e2 : l.getD ((0 + (0 + x) * 2).add 0).succ 0 = rb l x := rfl
  simp only [e1, e2]
  simp [hl]
  omega
theorem c18z {q : List Int} {m : Nat} {l : List Int} {k i : Nat} {a b : Int}  : Exec PP T none x18.nt 0 X18.b.b.b.a (T18 q m l k i a b k false) .n (T18 q m l k i a b k false) := by
  refine exec_prun env0 [(84, false)] false 60 [0, 1, 2] (by kernel_rfl) (by kernel_rfl) (by kernel_rfl) ?_
  rw [(show obOf (prun [(84, false)] g0 false 60 X18.b.b.b.a (T18 q m l k i a b k false)) = (decide (Int.ofNat k < Int.ofNat k) == false && true && true && true) from by kernel_rfl)]
  all_goals (first | rfl | (simp; done) | (simp; omega) | (simp [rng64]; done) | (simp [rng64]; omega) | (simp [rng64_eq]; omega))
theorem e18 {q : List Int} {m : Nat} {l : List Int} {k i : Nat} (hi : i < 1000000000) : Exec PP T none x18.nt 0 L18.b.b (S18 q m l k i) .n (S18 q m l k (i + 1)) := by
  refine exec_orun env0 false 60 [] [0, 1] (fun _ => rfl) (by kernel_rfl) (by kernel_rfl) (by kernel_rfl) ?_
  rw [(show obOf (orun g0 false 60 L18.b.b (S18 q m l k i) []) = (rng64 (Int.ofNat i.succ) && true) from by kernel_rfl)]
  all_goals (first | rfl | (simp; done) | (simp; omega) | (simp [rng64]; done) | (simp [rng64]; omega) | (simp [rng64_eq]; omega))
theorem d18 {q : List Int} {m : Nat} {l : List Int} {k i : Nat}  : Exec PP T none x18.nt 0 x18.body.b.b.b (S18 q m l k i) .r (mkSt [(2, lsS 0 k)] [ivO l] 1 []) := by
  refine exec_orun env0 false 60 [] [1] (fun _ => rfl) (by kernel_rfl) (by kernel_rfl) (by kernel_rfl) (by kernel_rfl)
end Go.Proofs.Yteekkjfjpoaihaa.Eng
namespace Go.Proofs.Yteekkjfjpoaihaa.Eng
open Go Go.Proofs
theorem i18 {q : List Int} {m : Nat} {l : List Int} {k i x : Nat} {a b : Int} (hl : l.length = k * 2) (hk : k ≤ 1000) (hx : x ≤ k) : Exec PP T none x18.nt 0 X18.b.b.b.b (T18 q m l k i a b x false) .n (S18 q m (((((l.drop (0 * 2)).take (x * 2)).take (x * 2) ++ [a, b]).take ((x + 1) * 2)) ++ (l.drop ((0 + x) * 2)).take ((k - x) * 2)) ((x + 1) + (k - x)) i) := by
  refine exec_orun env0 false 60 [] [0, 6] (fun _ => rfl) (by kernel_rfl) (by kernel_rfl) (by kernel_rfl) ?_
  rw [(show obOf (orun g0 false 60 X18.b.b.b.b (T18 q m l k i a b x false) []) = (decide (0 ≤ Int.ofNat x) && decide (Int.ofNat x ≤ Int.ofNat k) && (decide ((0 + x) * 2 ≤ l.length) && decide (x ≤ 1000000000) && true && true && true) && (decide (2 ≤ Nat.succ 1) && decide (x * 2 ≤ (List.take (x * 2) l).length) && decide (x.succ ≤ 1000000000) && true && true && true && (decide (0 ≤ Int.ofNat x) && decide (Int.ofNat x ≤ Int.ofNat k) && (decide ((0 + x + (k - x)) * 2 ≤ l.length) && decide (((Nat.add 0 x).succ.add x).succ ≤ (List.take (x * 2) (List.take (x * 2) l) ++ [a, b]).length) && decide (x.succ + (k - x) ≤ 1000000000) && true && true && true)))) from by kernel_rfl)]
  simp [bndL, hl]
  omega
def atI (l : List Int) (k : Nat) (a b : Int) : Nat := fstN (fun i => !(lt18 l a b i)) k
def insL (l : List Int) (x : Nat) (a b : Int) : List Int := l.take (x * 2) ++ a :: b :: l.drop (x * 2)
/-- a pair put in, if it is new -/
def insP (p : List Int × Nat) (a b : Int) : List Int × Nat :=
  bif a == b then p else bif Nat.blt (atI p.1 p.2 a b) p.2 && (ra p.1 (atI p.1 p.2 a b) == a && rb p.1 (atI p.1 p.2 a b) == b) then p else (insL p.1 (atI p.1 p.2 a b) a b, p.2 + 1)
def srt (q : List Int) : Nat → List Int × Nat
  | 0 => ([], 0)
  | i + 1 => insP (srt q i) (min (ra q i) (rb q i)) (max (ra q i) (rb q i))
theorem insP_len {p : List Int × Nat} {a b : Int} (h : p.1.length = p.2 * 2) : (insP p a b).1.length = (insP p a b).2 * 2 ∧ (insP p a b).2 ≤ p.2 + 1 := by
  unfold insP
  cases (a == b) with
  | true => exact ⟨h, by simp⟩
  | false =>
    cases (Nat.blt (atI p.1 p.2 a b) p.2 && (ra p.1 (atI p.1 p.2 a b) == a && rb p.1 (atI p.1 p.2 a b) == b)) with
    | true => exact ⟨h, by simp⟩
    | false =>
      have := (fstN_spec (fun i => !(lt18 p.1 a b i)) p.2).1
      refine ⟨?_, by simp⟩
      simp only [cond_false, insL, List.length_append, List.length_cons, List.length_take, List.length_drop, h]
      show min (fstN _ _ * 2) _ + _ = _
      have : atI p.1 p.2 a b ≤ p.2 := this
      unfold atI at *
      omega
theorem srt_len (q : List Int) : ∀ i, (srt q i).1.length = (srt q i).2 * 2 ∧ (srt q i).2 ≤ i
  | 0 => ⟨rfl, Nat.le_refl _⟩
  | i + 1 => by
    obtain ⟨h1, h2⟩ := srt_len q i
    obtain ⟨h3, h4⟩ := insP_len (a := min (ra q i) (rb q i)) (b := max (ra q i) (rb q i)) h1
    exact ⟨h3, by show (insP _ _ _).2 ≤ _; omega⟩
theorem find18 {q : List Int} {m : Nat} {l : List Int} {k i : Nat} {a b : Int} {t : Bool} (hl : l.length = k * 2) (hk : k ≤ 1000) : Exec PP T none x18.nt 0 X18.b.b.a (T18 q m l k i a b 0 t) .n (T18 q m l k i a b (atI l k a b) t) := by
  obtain ⟨h1, h2, h3⟩ := fstN_spec (fun i => !(lt18 l a b i)) k
  refine exec_block (id := 2) (x := .loop M18) (e := .x 2) ?_
  refine exec_loop_up (fun x => T18 q m l k i a b x t) (atI l k a b) (fun x hx => ?_) ?_ (by simp) 0 (by omega)
  · have hx' : x < k := Nat.lt_of_lt_of_le hx h1
    have hp := h2 x hx
    simp only [Bool.not_eq_eq_eq_not, Bool.not_false] at hp
    unfold lt18 at hp
    simp only [Bool.or_eq_true, Bool.and_eq_true, decide_eq_true_eq, beq_iff_eq] at hp
    rcases hp with hp | ⟨hp, hp2⟩
    · exact m18y1 hl hk hx' hp
    · exact m18y2 hl hk hx' hp hp2
  · by_cases hx : atI l k a b < k
    · have hp := h3 hx
      simp only [Bool.not_eq_true'] at hp
      unfold lt18 at hp
      simp only [Bool.or_eq_false_iff, Bool.and_eq_false_iff, decide_eq_false_iff_not, beq_eq_false_iff_ne] at hp
      obtain ⟨p1, p2⟩ := hp
      by_cases he : ra l (atI l k a b) = a
      · refine m18x2 hl hk hx he ?_
        rcases p2 with p2 | p2
        · exact absurd he p2
        · have : ¬ rb l (atI l k a b) < b := p2
          omega
      · refine m18x1 hl hk hx ?_
        have : ¬ ra l (atI l k a b) < a := p1
        omega
    · have e : atI l k a b = k := by have : atI l k a b ≤ k := h1; omega
      rw [e]
      exact m18x0
theorem ins18 {q : List Int} {m : Nat} {l : List Int} {k i : Nat} (hq : q.length = m * 2) (hi : i < m) (hl : l.length = k * 2) (hk : k ≤ 1000) : Exec PP T none x18.nt 0 (.block 1 X18) (S18 q m l k i) .n (S18 q m (insP (l, k) (min (ra q i) (rb q i)) (max (ra q i) (rb q i))).1 (insP (l, k) (min (ra q i) (rb q i)) (max (ra q i) (rb q i))).2 i) := by
  have hb := l18b (l := l) (k := k) hq hi
  generalize min (ra q i) (rb q i) = a at *
  generalize max (ra q i) (rb q i) = b at *
  have hat : atI l k a b ≤ k := (fstN_spec (fun i => !(lt18 l a b i)) k).1
  have hf := find18 (q := q) (m := m) (l := l) (k := k) (i := i) (a := a) (b := b) (t := a == b) hl hk
  unfold insP
  simp only
  cases hab : (a == b) with
  | true =>
    rw [hab] at hf
    have hc := l18c (q := q) (m := m) (l := l) (k := k) (i := i) (a := a) (b := b)
    rw [hab] at hc
    exact exec_block (id := 1) (x := X18) (e := .x 1) (exec_seq (x := X18.a) (y := X18.b) hb (exec_seq (x := X18.b.a) (y := X18.b.b) hc (exec_seq (x := X18.b.b.a) (y := X18.b.b.b) hf (exec_seq_x (x := X18.b.b.b.a) (y := X18.b.b.b.b) c18t (by simp)))))
  | false =>
    rw [hab] at hf
    have hc := l18c (q := q) (m := m) (l := l) (k := k) (i := i) (a := a) (b := b)
    rw [hab] at hc
    rw [cond_false]
    have hnew : Exec PP T none x18.nt 0 X18.b.b.b.b (T18 q m l k i a b (atI l k a b) false) .n (S18 q m (insL l (atI l k a b) a b) (k + 1) i) := by
      refine exec_eq (i18 hl hk hat) ?_
      generalize atI l k a b = x at *
      have e1 : (((l.drop (0 * 2)).take (x * 2)).take (x * 2) ++ [a, b]).take ((x + 1) * 2) ++ (l.drop ((0 + x) * 2)).take ((k - x) * 2) = insL l x a b := by
        have f1 : (l.drop ((0 + x) * 2)).take ((k - x) * 2) = l.drop (x * 2) := by
          rw [Nat.zero_add]
          exact List.take_of_length_le (by simp [hl]; omega)
        have f2 : ((l.drop (0 * 2)).take (x * 2)).take (x * 2) = l.take (x * 2) := by simp [List.take_take]
        rw [f1, f2]
        have f3 : (l.take (x * 2) ++ [a, b]).take ((x + 1) * 2) = l.take (x * 2) ++ [a, b] := List.take_of_length_le (by simp; omega)
        rw [f3]
        unfold insL
        simp
      rw [e1, show x + 1 + (k - x) = k + 1 by omega]
    by_cases hx : atI l k a b < k
    · rw [blt_lt hx, Bool.true_and]
      cases he : (ra l (atI l k a b) == a && rb l (atI l k a b) == b) with
      | true =>
        simp only [Bool.and_eq_true, beq_iff_eq] at he
        exact exec_block (id := 1) (x := X18) (e := .x 1) (exec_seq (x := X18.a) (y := X18.b) hb (exec_seq (x := X18.b.a) (y := X18.b.b) hc (exec_seq (x := X18.b.b.a) (y := X18.b.b.b) hf (exec_seq_x (x := X18.b.b.b.a) (y := X18.b.b.b.b) (c18e hl hk hx he.1 he.2) (by simp)))))
      | false =>
        have he' : ¬ (ra l (atI l k a b) = a ∧ rb l (atI l k a b) = b) := fun ⟨u, v⟩ => by rw [u, v] at he; simp at he
        exact exec_block (id := 1) (x := X18) (e := .n) (exec_seq (x := X18.a) (y := X18.b) hb (exec_seq (x := X18.b.a) (y := X18.b.b) hc (exec_seq (x := X18.b.b.a) (y := X18.b.b.b) hf (exec_seq (x := X18.b.b.b.a) (y := X18.b.b.b.b) (c18n hl hk hx he') hnew))))
    · have e : atI l k a b = k := by omega
      rw [e] at hf hnew ⊢
      rw [blt_self, Bool.false_and, cond_false]
      exact exec_block (id := 1) (x := X18) (e := .n) (exec_seq (x := X18.a) (y := X18.b) hb (exec_seq (x := X18.b.a) (y := X18.b.b) hc (exec_seq (x := X18.b.b.a) (y := X18.b.b.b) hf (exec_seq (x := X18.b.b.b.a) (y := X18.b.b.b.b) c18z hnew))))
def srtV (q : List Int) (m : Nat) : List Int := (srt q m).1
def srtN (q : List Int) (m : Nat) : Nat := (srt q m).2
theorem body18 {q : List Int} {m : Nat} (hq : q.length = m * 2) (hm : m ≤ 1000) : Exec PP T none x18.nt 0 x18.body (startSt [.s (.sl 0 0 2 m)] [⟨true, .xvec .i64 2 q⟩]) .r (mkSt [(2, lsS 0 (srtN q m))] [ivO (srtV q m)] 1 []) := by
  refine exec_seq (x := x18.body.a) (y := x18.body.b) a18 (exec_seq (x := x18.body.b.a) (y := x18.body.b.b) b18 (exec_seq (x := x18.body.b.b.a) (y := x18.body.b.b.b) (exec_seq (x := x18.body.b.b.a.a) (y := .block 0 (.loop L18)) cc18 (exec_block (id := 0) (e := .x 0) (S1 := S18 q m (srtV q m) (srtN q m) m) ?_)) d18))
  exact exec_loop_up (fun i => S18 q m (srt q i).1 (srt q i).2 i) m (fun i hi => by
    obtain ⟨h1, h2⟩ := srt_len q i
    exact exec_seq (x := L18.a) (y := L18.b) (l18a hi) (exec_seq (x := .block 1 X18) (y := L18.b.b) (ins18 hq hi h1 (by omega)) (e18 (by omega)))) (exec_seq_x (x := L18.a) (y := L18.b) l18x (by simp)) (by simp) 0 (by omega)
def cSrt : List PA → Bool := fun pas => match pas with | [.sl _ q m] => decide (m ≤ 1000) | _ => false
def vSrt : List PA → TV := fun pas => match pas with | [.sl _ q m] => .av (.s (.sl 0 0 2 (srtN q m))) | _ => .av (.s (.sl 0 0 2 0))
def nSrt : List PA → List HO := fun pas => match pas with | [.sl _ q m] => [ivO (srtV q m)] | _ => [ivO []]
noncomputable abbrev spSrt : Spec := genS [.sl 2] cSrt vSrt nSrt
theorem ok18 : SpecOK PP (compC T) 18 spSrt := ok_gen o18 (by kernel_rfl) fun pas hf hc => match pas, hf with
  | [.sl _ q m], ⟨⟨rfl, hq, hm⟩, _⟩ => ⟨_, 1, .r, body18 hq (by simpa [cSrt] using hc), fun _ => rfl, by kernel_rfl, by kernel_rfl, by kernel_rfl⟩
end Go.Proofs.Yteekkjfjpoaihaa.Eng
namespace Go.Proofs.Yteekkjfjpoaihaa.Eng
open Go Go.Proofs
noncomputable def LEd : List (Nat × Spec) := [(15, spSmall)]
theorem LEd_ok : SpecsL LEd := specsL_cons ok15 (genS_fp) o15 (fun p hp => absurd hp (by simp))
noncomputable abbrev gEd : Cal → Option Spec := specsΓ LEd
theorem envEd : EnvOK PP T gEd := envL LEd_ok
noncomputable def LEs : List (Nat × Spec) := [(18, spSrt)]
theorem LEs_ok : SpecsL LEs := specsL_cons ok18 (genS_fp) o18 (fun p hp => absurd hp (by simp))
noncomputable abbrev gEs : Cal → Option Spec := specsΓ LEs
theorem envEs : EnvOK PP T gEs := envL LEs_ok
def L16 : XC := x16.body.b.b.a.b.i.i
abbrev S16 (n : Nat) (q : List Int) (m : Nat) (l : List Int) (i : Nat) : St := mkSt [(0, iS n), (1, lsS 0 m), (2, iS 10), (7, lsS 1 i), (8, iS i)] (H18 q l) 2 []
theorem a16 {n : Nat} {q : List Int} {m : Nat}  : Exec PP T none x16.nt 0 x16.body.a (startSt [.s (.int .i64 (Int.ofNat n)), .s (.sl 0 0 2 m), .s (.int .i64 10)] [⟨true, .xvec .i64 2 q⟩]) .n (mkSt [(0, iS n), (1, lsS 0 m), (2, iS 10)] [⟨true, .xvec .i64 2 q⟩] 1 []) := by
  refine exec_orun env0 false 60 [] [0] (fun _ => rfl) (by kernel_rfl) (by kernel_rfl) (by kernel_rfl) (by kernel_rfl)
theorem b16q {n : Nat} {q : List Int} {m : Nat}  : Exec PP T none x16.nt 0 x16.body.b.a (mkSt [(0, iS n), (1, lsS 0 m), (2, iS 10)] [⟨true, .xvec .i64 2 q⟩] 1 []) .n (mkSt [(0, iS n), (1, lsS 0 m), (2, iS 10), (7, ⟨true, .av (.s .nils)⟩)] [⟨true, .xvec .i64 2 q⟩] 1 []) := by
  refine exec_orun env0 false 60 [] [0] (fun _ => rfl) (by kernel_rfl) (by kernel_rfl) (by kernel_rfl) (by kernel_rfl)
theorem b16 {n : Nat} {q : List Int} {m : Nat} : Exec PP T none x16.nt 0 x16.body.b.a (mkSt [(0, iS n), (1, lsS 0 m), (2, iS 10)] [⟨true, .xvec .i64 2 q⟩] 1 []) .n (mkSt [(7, lsS 1 0), (0, iS n), (1, lsS 0 m), (2, iS 10)] (H18 q []) 2 []) := b16q.post (weak_nil 7 38 .i64 2 rfl rfl rfl)
theorem cc16 {n : Nat} {q : List Int} {m : Nat}  : Exec PP T none x16.nt 0 x16.body.b.b.a.a (mkSt [(7, lsS 1 0), (0, iS n), (1, lsS 0 m), (2, iS 10)] (H18 q []) 2 []) .n (S16 n q m [] 0) := by
  refine exec_orun env0 false 60 [] [0, 1] (fun _ => rfl) (by kernel_rfl) (by kernel_rfl) (by kernel_rfl) (by kernel_rfl)
theorem l16a {n : Nat} {q : List Int} {m : Nat} {l : List Int} {i : Nat} (hi : i < m) (h : i < 40) : Exec PP T none x16.nt 0 L16.a (S16 n q m l i) .n (S16 n q m l i) := by
  refine exec_prun env0 [(12, true), (15, true)] false 60 [0, 1] (by kernel_rfl) (by kernel_rfl) (by kernel_rfl) ?_
  rw [(show obOf (prun [(12, true), (15, true)] g0 false 60 L16.a (S16 n q m l i)) = (decide (Int.ofNat i < Int.ofNat m) == true && (decide (Int.ofNat i < 40) == true && true) && true) from by kernel_rfl)]
  all_goals (first | rfl | (simp; done) | (simp; omega) | (simp [rng64]; done) | (simp [rng64]; omega) | (simp [rng64_eq]; omega))
theorem l16x {n : Nat} {q : List Int} {m : Nat} {l : List Int}  : Exec PP T none x16.nt 0 L16.a (S16 n q m l m) (.x 0) (S16 n q m l m) := by
  refine exec_prun env0 [(12, false)] false 60 [0, 1] (by kernel_rfl) (by kernel_rfl) (by kernel_rfl) ?_
  rw [(show obOf (prun [(12, false)] g0 false 60 L16.a (S16 n q m l m)) = (decide (Int.ofNat m < Int.ofNat m) == false && true && true) from by kernel_rfl)]
  all_goals (first | rfl | (simp; done) | (simp; omega) | (simp [rng64]; done) | (simp [rng64]; omega) | (simp [rng64_eq]; omega))
theorem l16y {n : Nat} {q : List Int} {m : Nat} {l : List Int} (hm : 40 < m) : Exec PP T none x16.nt 0 L16.a (S16 n q m l 40) (.x 0) (S16 n q m l 40) := by
  refine exec_prun env0 [(12, true), (15, false)] false 60 [0, 1] (by kernel_rfl) (by kernel_rfl) (by kernel_rfl) ?_
  rw [(show obOf (prun [(12, true), (15, false)] g0 false 60 L16.a (S16 n q m l 40)) = (decide (40 < Int.ofNat m) == true && true && true) from by kernel_rfl)]
  all_goals (first | rfl | (simp; done) | (simp; omega) | (simp [rng64]; done) | (simp [rng64]; omega) | (simp [rng64_eq]; omega))
theorem l16b {n : Nat} {q : List Int} {m : Nat} {l : List Int} {i : Nat} (h1 : 1 ≤ n) (hn : n ≤ 5) (hq : q.length = m * 2) (hl : l.length = i * 2) (hi : i < m) (h : i < 40) : Exec PP T none x16.nt 0 L16.b.a (S16 n q m l i) .n (mkSt [(0, iS n), (1, lsS 0 m), (2, iS 10), (7, lsS 1 (i + 1)), (8, iS i)] (H18 q (l.take (i * 2) ++ [umod (ra q i) (Int.ofNat n - 1 + 1), umod (rb q i) (Int.ofNat n - 1 + 1)])) 2 []) := by
  refine exec_orun envEd false 60 [] [0, 19] (fun _ => rfl) (by kernel_rfl) (by kernel_rfl) (by kernel_rfl) ?_
  rw [(show obOf (orun gEd false 60 L16.b.a (S16 n q m l i) []) = (decide (0 ≤ Int.ofNat i) && decide (Int.ofNat i < Int.ofNat m) && (decide (0 + ((0 + i) * 2 + 0) < q.length) && (rng64 (Int.ofNat n - 1) && (decide (0 ≤ Int.ofNat n - 1) && decide (Int.ofNat n - 1 ≤ 6) && (decide (0 ≤ Int.ofNat i) && decide (Int.ofNat i < Int.ofNat m) && (decide ((Nat.add 0 ((0 + i) * 2)).succ < q.length) && (rng64 (Int.ofNat n - 1) && (decide (0 ≤ Int.ofNat n - 1) && decide (Int.ofNat n - 1 ≤ 6) && (decide (2 ≤ Nat.succ 1) && decide (i * 2 ≤ l.length) && decide (i.succ ≤ 1000000000) && true && true && true)))))))) && true) from by kernel_rfl)]
  simp [rng64_eq, hq, hl]
  omega
theorem e16 {n : Nat} {q : List Int} {m : Nat} {l : List Int} {i : Nat} (h : i < 40) : Exec PP T none x16.nt 0 L16.b.b (mkSt [(0, iS n), (1, lsS 0 m), (2, iS 10), (7, lsS 1 (i + 1)), (8, iS i)] (H18 q l) 2 []) .n (S16 n q m l (i + 1)) := by
  refine exec_orun env0 false 60 [] [0, 1] (fun _ => rfl) (by kernel_rfl) (by kernel_rfl) (by kernel_rfl) ?_
  rw [(show obOf (orun g0 false 60 L16.b.b (mkSt [(0, iS n), (1, lsS 0 m), (2, iS 10), (7, lsS 1 (i + 1)), (8, iS i)] (H18 q l) 2 []) []) = (rng64 (Int.ofNat i.succ) && true) from by kernel_rfl)]
  all_goals (first | rfl | (simp; done) | (simp; omega) | (simp [rng64]; done) | (simp [rng64]; omega) | (simp [rng64_eq]; omega))
theorem f16 {n : Nat} {q : List Int} {m : Nat} {l : List Int} {i j : Nat} (hl : l.length = i * 2) (h : i ≤ 40) : Exec PP T none x16.nt 0 x16.body.b.b.b.a (mkSt [(0, iS n), (1, lsS 0 m), (2, iS 10), (7, lsS 1 i), (8, iS j)] (H18 q l) 2 []) .n (mkSt [(2, iS 10), (7, lsS 0 (srtN ((l.drop (0 * 2)).take (i * 2)) i))] [ivO (srtV ((l.drop (0 * 2)).take (i * 2)) i)] 1 []) := by
  refine exec_orun envEs false 60 [] [2] (fun _ => rfl) (by kernel_rfl) (by kernel_rfl) (by kernel_rfl) ?_
  rw [(show obOf (orun gEs false 60 x16.body.b.b.b.a (mkSt [(0, iS n), (1, lsS 0 m), (2, iS 10), (7, lsS 1 i), (8, iS j)] (H18 q l) 2 []) []) = (decide ((0 + i) * 2 ≤ l.length) && decide (i ≤ 1000000000) && true && cSrt [PA.sl 2 (List.take (i * 2) l) i] && true && true && true) from by kernel_rfl)]
  simp [cSrt, bndL, hl]
  omega
theorem g16 {l : List Int} {k : Nat}  : Exec PP T none x16.nt 0 x16.body.b.b.b.b (mkSt [(2, iS 10), (7, lsS 0 k)] [ivO l] 1 []) .r (mkSt [(6, ⟨true, .av (.s (.sl 0 0 2 (min (Int.ofNat k) 10).toNat))⟩)] [ivO l] 1 []) := by
  refine exec_orun env0 false 60 [] [0] (fun _ => rfl) (by kernel_rfl) (by kernel_rfl) (by kernel_rfl) ?_
  rw [(show obOf (orun g0 false 60 x16.body.b.b.b.b (mkSt [(2, iS 10), (7, lsS 0 k)] [ivO l] 1 []) []) = (decide (0 ≤ min (Int.ofNat k) 10) && decide (min (Int.ofNat k) 10 ≤ Int.ofNat k) && true && true) from by kernel_rfl)]
  all_goals (first | rfl | (simp; done) | (simp; omega) | (simp [rng64]; done) | (simp [rng64]; omega) | (simp [rng64_eq]; omega))
end Go.Proofs.Yteekkjfjpoaihaa.Eng
namespace Go.Proofs.Yteekkjfjpoaihaa.Eng
open Go Go.Proofs
/-- a list, seen as its first numbers -/
theorem or_cut {cmp : Cmp} {m : MM} {mb : MB} {ty : TypeId} {k : IntKind} {sz n : Nat} {l : List Int} {w : World} (h : OR cmp m mb (.ivec ty k sz l) w) : OR cmp m mb (.ivec ty k sz (l.take n)) w := by
  rcases h with ⟨h1, rfl, h3⟩ | ⟨b, cur, h1, h2, h3, h4, h5, h6⟩
  · exact .inl ⟨h1, by simp, h3⟩
  · refine .inr ⟨b, cur, h1, h2, h3, h4, h5, fun j hj => ?_⟩
    have hj' : j < l.length ∧ j < n := by simp at hj; omega
    rw [h6 j hj'.1]
    congr 2
    rw [List.getD_eq_getElem?_getD, List.getD_eq_getElem?_getD, List.getElem?_take, if_pos hj'.2]
theorem weak_cut {T : Tab} {kp : Nat} {ts : List (Nat × Slot)} {ty : TypeId} {k : IntKind} {sz n nx : Nat} {l : List Int} {df : List Nat} : Weak T kp (mkSt ts [⟨false, .ivec ty k sz l⟩] nx df) (mkSt ts [⟨false, .ivec ty k sz (l.take n)⟩] nx df) := by
  intro ctx nt m a w hR
  have h0 : ∀ id ho, (mkSt ts [⟨false, .ivec ty k sz (l.take n)⟩] nx df).hp.get id = some ho → id = 0 ∧ ho = ⟨false, .ivec ty k sz (l.take n)⟩ := fun id ho h => by
    rw [mkSt_hp] at h
    match id, h with
    | 0, h => cases h; exact ⟨rfl, rfl⟩
    | j + 1, h => simp at h
  refine ⟨m, MM.leK.refl, ⟨hR.slot, hR.size, ⟨fun id ho hid => ?_, fun id id' ho ho' mb mb' b hne hid hid' hro hl hl' hm hm' hb => ?_, fun id hid => ?_, hR.heap.os, hR.heap.tape, hR.heap.output, hR.heap.size, hR.heap.same0⟩, hR.df⟩⟩
  · obtain ⟨rfl, rfl⟩ := h0 id ho hid
    obtain ⟨mb, g1, g2, g3, g4⟩ := hR.heap.obj 0 ⟨false, .ivec ty k sz l⟩ rfl
    exact ⟨mb, g1, or_cut g2, g3, g4⟩
  · obtain ⟨rfl, _⟩ := h0 id ho hid
    obtain ⟨rfl, _⟩ := h0 id' ho' hid'
    exact absurd rfl hne
  · refine hR.heap.dom id ?_
    rw [mkSt_hp] at hid ⊢
    match id, hid with
    | 0, h => simp at h
    | j + 1, h => simp
/-- the pairs brought down to the nodes -/
def egL (n : Nat) (q : List Int) : Nat → List Int
  | 0 => []
  | i + 1 => egL n q i ++ [umod (ra q i) (Int.ofNat n), umod (rb q i) (Int.ofNat n)]
theorem egL_len (n : Nat) (q : List Int) : ∀ i, (egL n q i).length = i * 2
  | 0 => rfl
  | i + 1 => by simp [egL, egL_len n q i]; omega
def egN (n : Nat) (q : List Int) (m : Nat) : Nat := min (srtN (egL n q (min m 40)) (min m 40)) 10
def egV (n : Nat) (q : List Int) (m : Nat) : List Int := (srtV (egL n q (min m 40)) (min m 40)).take (egN n q m * 2)
theorem step16 {n : Nat} {q : List Int} {m i : Nat} (h1 : 1 ≤ n) (hn : n ≤ 5) (hq : q.length = m * 2) (hi : i < min m 40) : Exec PP T none x16.nt 0 L16 (S16 n q m (egL n q i) i) .n (S16 n q m (egL n q (i + 1)) (i + 1)) := by
  have hb := l16b (l := egL n q i) h1 hn hq (egL_len n q i) (show i < m by omega) (show i < 40 by omega)
  rw [List.take_of_length_le (by rw [egL_len]; omega), show Int.ofNat n - 1 + 1 = Int.ofNat n by omega] at hb
  exact exec_seq (x := L16.a) (y := L16.b) (l16a (by omega) (by omega)) (exec_seq (x := L16.b.a) (y := L16.b.b) hb (e16 (by omega)))
theorem body16 {n : Nat} {q : List Int} {m : Nat} (h1 : 1 ≤ n) (hn : n ≤ 5) (hq : q.length = m * 2) : Exec PP T none x16.nt 0 x16.body (startSt [.s (.int .i64 (Int.ofNat n)), .s (.sl 0 0 2 m), .s (.int .i64 10)] [⟨true, .xvec .i64 2 q⟩]) .r (mkSt [(6, lsS 0 (egN n q m))] [ivO (egV n q m)] 1 []) := by
  have hloop : Exec PP T none x16.nt 0 x16.body.b.b.a (mkSt [(7, lsS 1 0), (0, iS n), (1, lsS 0 m), (2, iS 10)] (H18 q []) 2 []) .n (S16 n q m (egL n q (min m 40)) (min m 40)) := by
    refine exec_seq (x := x16.body.b.b.a.a) (y := .block 0 (.loop L16)) cc16 (exec_block (id := 0) (e := .x 0) ?_)
    refine exec_loop_up (fun i => S16 n q m (egL n q i) i) (min m 40) (fun i hi => step16 h1 hn hq hi) ?_ (by simp) 0 (by omega)
    by_cases hm : 40 < m
    · rw [show min m 40 = 40 by omega]
      exact exec_seq_x (x := L16.a) (y := L16.b) (l16y hm) (by simp)
    · rw [show min m 40 = m by omega]
      exact exec_seq_x (x := L16.a) (y := L16.b) l16x (by simp)
  have hf := f16 (n := n) (q := q) (m := m) (j := min m 40) (egL_len n q (min m 40)) (show min m 40 ≤ 40 by omega)
  rw [take_all2 (egL_len n q (min m 40))] at hf
  have hg := (g16 (l := srtV (egL n q (min m 40)) (min m 40)) (k := srtN (egL n q (min m 40)) (min m 40))).post (weak_cut (n := egN n q m * 2))
  have e : (min (Int.ofNat (srtN (egL n q (min m 40)) (min m 40))) 10).toNat = egN n q m := by unfold egN; generalize srtN (egL n q (min m 40)) (min m 40) = k; simp; omega
  rw [e] at hg
  exact exec_seq (x := x16.body.a) (y := x16.body.b) a16 (exec_seq (x := x16.body.b.a) (y := x16.body.b.b) b16 (exec_seq (x := x16.body.b.b.a) (y := x16.body.b.b.b) hloop (exec_seq (x := x16.body.b.b.b.a) (y := x16.body.b.b.b.b) hf hg)))
end Go.Proofs.Yteekkjfjpoaihaa.Eng
namespace Go.Proofs.Yteekkjfjpoaihaa.Eng
open Go Go.Proofs
/-- edges, where ten are asked for of at most five nodes: no bound on the list -/
def spEdg2 : Spec where
  run := fun args h base => match args with
    | [.s (.int .i64 n), s, .s (.int .i64 t)] => match srcOf (.av s) h .i64 2 with
      | some (vc, q, m, rd) => some ⟨vc && (decide (1 ≤ n) && decide (n ≤ 5) && decide (t = 10)), .av (.s (.sl base 0 2 (egN n.toNat q m))), [], [ivO (egV n.toNat q m)], some rd⟩
      | none => none
    | _ => none
theorem spEdg2_fp : SpecFp spEdg2 := by
  intro args h h' base e hr hf
  simp only [spEdg2] at hr ⊢
  split at hr
  · split at hr
    · rename_i hs
      cases hr
      simp only [srcOf_fp hs hf]
    · cases hr
  · cases hr
theorem ok16b : SpecOK PP (compC T) 16 spEdg2 := by
  refine spec_gen tokP o16 fun ctx m h w args vals base e hH hargs hr hvc => ?_
  simp only [spEdg2] at hr
  split at hr
  · rename_i n s k
    split at hr
    · rename_i vc q m' rd hs
      cases hr
      simp only [Bool.and_eq_true, decide_eq_true_eq] at hvc
      obtain ⟨rfl, ⟨hk1, hk2⟩, rfl⟩ := hvc
      obtain ⟨n, rfl⟩ : ∃ j : Nat, n = Int.ofNat j := ⟨n.toNat, by simp; omega⟩
      match vals, hargs with
      | [v1, v2, v3], ⟨ha1, ha2, ha3, _⟩ =>
        obtain ⟨mb, k1, k2, k3, k4⟩ := view_slice hH ha2 hs
        exact ⟨rfl, mm1 mb, H1 q, [.s (.int .i64 (Int.ofNat n)), .s (.sl 0 0 2 m'), .s (.int .i64 10)], shown_new (tv := .av (.s (.sl 0 0 2 (egN n q m')))) (o := .ivec 38 .i64 2 (egV n q m')) (ro1 k1 k2) ⟨ha1, k3 (mm1 mb) 0 rfl, ha3, trivial⟩ (by kernel_rfl) (body16 (by simp at hk1; omega) (by simp at hk2; omega) k4) (fun _ => rfl) (by kernel_rfl) (by kernel_rfl) rfl rfl rfl (fun _ => rfl)⟩
    · cases hr
  · cases hr
noncomputable def Led4 : List (Nat × Spec) := [(16, spEdg2)]
theorem Led4_ok : SpecsL Led4 := specsL_cons ok16b (spEdg2_fp) o16 (fun p hp => absurd hp (by simp))
noncomputable abbrev ged4 : Cal → Option Spec := specsΓ Led4
theorem enved4 : EnvOK PP T ged4 := envL Led4_ok
noncomputable def Lsm4 : List (Nat × Spec) := [(15, spSmall)]
theorem Lsm4_ok : SpecsL Lsm4 := specsL_cons ok15 (genS_fp) o15 (fun p hp => absurd hp (by simp))
noncomputable abbrev gsm4 : Cal → Option Spec := specsΓ Lsm4
theorem envsm4 : EnvOK PP T gsm4 := envL Lsm4_ok
noncomputable def Lre4 : List (Nat × Spec) := [(17, spRel)]
theorem Lre4_ok : SpecsL Lre4 := specsL_cons ok17 (genS_fp) o17 (fun p hp => absurd hp (by simp))
noncomputable abbrev gre4 : Cal → Option Spec := specsΓ Lre4
theorem envre4 : EnvOK PP T gre4 := envL Lre4_ok
abbrev Q4 (n : Nat) (m : Nat) (q : List Int) : St := mkSt [(0, iS n), (5, lsS 0 m)] [ivO q] 1 []
theorem tca {n : Int} {q : List Int} {m : Nat}  : Exec PP T none x4.nt 0 x4.body.a (startSt (A40 n m) (H1 q)) .n (mkSt [(0, iS n), (1, lsS 0 m)] (H1 q) 1 []) := by
  refine exec_orun env0 false 60 [] [0] (fun _ => rfl) (by kernel_rfl) (by kernel_rfl) (by kernel_rfl) (by kernel_rfl)
theorem tcb {n : Int} {q : List Int} {m : Nat}  : Exec PP T none x4.nt 0 x4.body.b.a (mkSt [(0, iS n), (1, lsS 0 m)] (H1 q) 1 []) .n (mkSt [(0, iS (1 + umod n (4 + 1))), (1, lsS 0 m)] (H1 q) 1 []) := by
  refine exec_orun envsm4 false 60 [] [0] (fun _ => rfl) (by kernel_rfl) (by kernel_rfl) (by kernel_rfl) ?_
  rw [(show obOf (orun gsm4 false 60 x4.body.b.a (mkSt [(0, iS n), (1, lsS 0 m)] (H1 q) 1 []) []) = (rng64 (1 + umod n 5) && true) from by kernel_rfl)]
  have h1 : 0 ≤ umod n 5 ∧ umod n 5 < 5 := umod_rng n (k := 5) (by decide) (by decide)
  generalize umod n 5 = e at *
  simp [rng64_eq]
  omega
theorem tcc {n : Nat} {q : List Int} {m : Nat} (hq : q.length = m * 2) (hn : 1 ≤ n ∧ n ≤ 5) : Exec PP T none x4.nt 0 x4.body.b.b.a (mkSt [(0, iS n), (1, lsS 0 m)] (H1 q) 1 []) .n (Q4 n (egN n ((q.drop (0 * 2)).take (m * 2)) m) (egV n ((q.drop (0 * 2)).take (m * 2)) m)) := by
  refine exec_orun enved4 false 60 [] [1] (fun _ => rfl) (by kernel_rfl) (by kernel_rfl) (by kernel_rfl) ?_
  rw [(show obOf (orun ged4 false 60 x4.body.b.b.a (mkSt [(0, iS n), (1, lsS 0 m)] (H1 q) 1 []) []) = (decide ((0 + m) * 2 ≤ q.length) && (decide (1 ≤ Int.ofNat n) && decide (Int.ofNat n ≤ 5) && true) && true && true && true) from by kernel_rfl)]
  obtain ⟨h1, h2⟩ := hn
  simp [hq]
  omega
def U0 : XC := x4.body.b.b.b.a
def LO4 : XC := U0.b.i.i
def LI4 : XC := LO4.b.i.b.b.i.i
def LK4 : XC := LI4.b.a.i.b.i.i
def BX4 : XC := LK4.b.a.i
abbrev SO4 (n : Nat) (q : List Int) (m : Nat) (b : Bool) : St := mkSt [(0, iS n), (5, lsS 0 m), (6, ⟨true, B b⟩)] [ivO q] 1 []
abbrev SI4 (n : Nat) (q : List Int) (m : Nat) (b : Bool) (i : Nat) : St := mkSt [(0, iS n), (5, lsS 0 m), (6, ⟨true, B b⟩), (7, iS i)] [ivO q] 1 []
abbrev SK4 (n : Nat) (q : List Int) (m : Nat) (b : Bool) (i k : Nat) : St := mkSt [(0, iS n), (5, lsS 0 m), (6, ⟨true, B b⟩), (7, iS i), (8, iS k)] [ivO q] 1 []
abbrev SX4 (n : Nat) (q : List Int) (m : Nat) (b : Bool) (i k : Nat) (x y : Int) : St := mkSt [(0, iS n), (5, lsS 0 m), (6, ⟨true, B b⟩), (7, iS i), (8, iS k), (9, g1S 1)] [ivO q, pO x y] 2 []
theorem tcd {n : Nat} {q : List Int} {m : Nat}  : Exec PP T none x4.nt 0 U0.a (Q4 n m q) .n (SO4 n q m true) := by
  refine exec_orun env0 false 60 [] [0] (fun _ => rfl) (by kernel_rfl) (by kernel_rfl) (by kernel_rfl) (by kernel_rfl)
theorem tco {n : Nat} {q : List Int} {m : Nat}  : Exec PP T none x4.nt 0 LO4.a (SO4 n q m true) .n (Q4 n m q) := by
  refine exec_orun env0 false 60 [true] [0] (fun _ => rfl) (by kernel_rfl) (by kernel_rfl) (by kernel_rfl) ?_
  rw [(show obOf (orun g0 false 60 LO4.a (SO4 n q m true) [true]) = (true) from by kernel_rfl)]
  all_goals (first | rfl | (simp; done) | (simp; omega) | (simp [rng64]; done) | (simp [rng64]; omega) | (simp [rng64_eq]; omega))
theorem tcox {n : Nat} {q : List Int} {m : Nat}  : Exec PP T none x4.nt 0 LO4.a (SO4 n q m false) (.x 0) (Q4 n m q) := by
  refine exec_orun env0 false 60 [false] [0] (fun _ => rfl) (by kernel_rfl) (by kernel_rfl) (by kernel_rfl) ?_
  rw [(show obOf (orun g0 false 60 LO4.a (SO4 n q m false) [false]) = (true) from by kernel_rfl)]
  all_goals (first | rfl | (simp; done) | (simp; omega) | (simp [rng64]; done) | (simp [rng64]; omega) | (simp [rng64_eq]; omega))
theorem tcob {n : Nat} {q : List Int} {m : Nat}  : Exec PP T none x4.nt 0 LO4.b.i.a (Q4 n m q) .n (SO4 n q m false) := by
  refine exec_orun env0 false 60 [] [0] (fun _ => rfl) (by kernel_rfl) (by kernel_rfl) (by kernel_rfl) (by kernel_rfl)
theorem tcoc {n : Nat} {q : List Int} {m : Nat} {b : Bool}  : Exec PP T none x4.nt 0 LO4.b.i.b.a (SO4 n q m b) .n (SI4 n q m b 0) := by
  refine exec_orun env0 false 60 [] [0] (fun _ => rfl) (by kernel_rfl) (by kernel_rfl) (by kernel_rfl) (by kernel_rfl)
theorem tci {n : Nat} {q : List Int} {m i : Nat} {b : Bool} (hi : i < m) : Exec PP T none x4.nt 0 LI4.a (SI4 n q m b i) .n (SI4 n q m b i) := by
  refine exec_prun env0 [(44, true)] false 60 [0] (by kernel_rfl) (by kernel_rfl) (by kernel_rfl) ?_
  rw [(show obOf (prun [(44, true)] g0 false 60 LI4.a (SI4 n q m b i)) = (decide (Int.ofNat i < Int.ofNat m) == true && true && true) from by kernel_rfl)]
  all_goals (first | rfl | (simp; done) | (simp; omega) | (simp [rng64]; done) | (simp [rng64]; omega) | (simp [rng64_eq]; omega))
theorem tcix {n : Nat} {q : List Int} {m i : Nat} {b : Bool} (hi : ¬ i < m) : Exec PP T none x4.nt 0 LI4.a (SI4 n q m b i) (.x 2) (SO4 n q m b) := by
  refine exec_prun env0 [(44, false)] false 60 [0] (by kernel_rfl) (by kernel_rfl) (by kernel_rfl) ?_
  rw [(show obOf (prun [(44, false)] g0 false 60 LI4.a (SI4 n q m b i)) = (decide (Int.ofNat i < Int.ofNat m) == false && true && true) from by kernel_rfl)]
  all_goals (first | rfl | (simp; done) | (simp; omega) | (simp [rng64]; done) | (simp [rng64]; omega) | (simp [rng64_eq]; omega))
theorem tcia {n : Nat} {q : List Int} {m i : Nat} {b : Bool}  : Exec PP T none x4.nt 0 LI4.b.a.i.a (SI4 n q m b i) .n (SK4 n q m b i 0) := by
  refine exec_orun env0 false 60 [] [0] (fun _ => rfl) (by kernel_rfl) (by kernel_rfl) (by kernel_rfl) (by kernel_rfl)
theorem tcie {n : Nat} {q : List Int} {m i : Nat} {b : Bool} (hi : i < 1000000000) : Exec PP T none x4.nt 0 LI4.b.b (SI4 n q m b i) .n (SI4 n q m b (i + 1)) := by
  refine exec_orun env0 false 60 [] [0] (fun _ => rfl) (by kernel_rfl) (by kernel_rfl) (by kernel_rfl) ?_
  rw [(show obOf (orun g0 false 60 LI4.b.b (SI4 n q m b i) []) = (rng64 (Int.ofNat i.succ) && true) from by kernel_rfl)]
  all_goals (first | rfl | (simp; done) | (simp; omega) | (simp [rng64]; done) | (simp [rng64]; omega) | (simp [rng64_eq]; omega))
theorem tck {n : Nat} {q : List Int} {m i k : Nat} {b : Bool} (hk : k < m) : Exec PP T none x4.nt 0 LK4.a (SK4 n q m b i k) .n (SK4 n q m b i k) := by
  refine exec_prun env0 [(50, true)] false 60 [0] (by kernel_rfl) (by kernel_rfl) (by kernel_rfl) ?_
  rw [(show obOf (prun [(50, true)] g0 false 60 LK4.a (SK4 n q m b i k)) = (decide (Int.ofNat k < Int.ofNat m) == true && true && true) from by kernel_rfl)]
  all_goals (first | rfl | (simp; done) | (simp; omega) | (simp [rng64]; done) | (simp [rng64]; omega) | (simp [rng64_eq]; omega))
theorem tckx {n : Nat} {q : List Int} {m i k : Nat} {b : Bool} (hk : ¬ k < m) : Exec PP T none x4.nt 0 LK4.a (SK4 n q m b i k) (.x 4) (SI4 n q m b i) := by
  refine exec_prun env0 [(50, false)] false 60 [0] (by kernel_rfl) (by kernel_rfl) (by kernel_rfl) ?_
  rw [(show obOf (prun [(50, false)] g0 false 60 LK4.a (SK4 n q m b i k)) = (decide (Int.ofNat k < Int.ofNat m) == false && true && true) from by kernel_rfl)]
  all_goals (first | rfl | (simp; done) | (simp; omega) | (simp [rng64]; done) | (simp [rng64]; omega) | (simp [rng64_eq]; omega))
theorem tcke {n : Nat} {q : List Int} {m i k : Nat} {b : Bool} (hk : k < 1000000000) : Exec PP T none x4.nt 0 LK4.b.b (SK4 n q m b i k) .n (SK4 n q m b i (k + 1)) := by
  refine exec_orun env0 false 60 [] [0] (fun _ => rfl) (by kernel_rfl) (by kernel_rfl) (by kernel_rfl) ?_
  rw [(show obOf (orun g0 false 60 LK4.b.b (SK4 n q m b i k) []) = (rng64 (Int.ofNat k.succ) && true) from by kernel_rfl)]
  all_goals (first | rfl | (simp; done) | (simp; omega) | (simp [rng64]; done) | (simp [rng64]; omega) | (simp [rng64_eq]; omega))
theorem tcx {n : Nat} {q : List Int} {m i k : Nat} {b : Bool} (hq : q.length = m * 2) (hi : i < m) (hk : k < m) : Exec PP T none x4.nt 0 BX4.a (SK4 n q m b i k) .n (SX4 n q m b i k (ra q i) (rb q k)) := by
  refine exec_orun env0 false 60 [] [0, 1] (fun _ => rfl) (by kernel_rfl) (by kernel_rfl) (by kernel_rfl) ?_
  rw [(show obOf (orun g0 false 60 BX4.a (SK4 n q m b i k) []) = (decide (0 ≤ Int.ofNat i) && decide (Int.ofNat i < Int.ofNat m) && (decide (0 + ((0 + i) * 2 + 0) < q.length) && (decide (0 ≤ Int.ofNat k) && decide (Int.ofNat k < Int.ofNat m) && (decide ((Nat.add 0 ((0 + k) * 2)).succ < q.length) && true))) && true) from by kernel_rfl)]
  simp [hq]
  omega
theorem tcA {n : Nat} {q : List Int} {m i k : Nat} {b : Bool} {x y : Int} (hq : q.length = m * 2) (hi : i < m) (hk : k < m) (h : rb q i ≠ ra q k) : Exec PP T none x4.nt 0 BX4.b (SX4 n q m b i k x y) .n (SK4 n q m b i k) := by
  refine exec_prun envre4 [(74, false)] false 60 [0] (by kernel_rfl) (by kernel_rfl) (by kernel_rfl) ?_
  rw [(show obOf (prun [(74, false)] gre4 false 60 BX4.b (SX4 n q m b i k x y)) = (decide (0 ≤ Int.ofNat i) && decide (Int.ofNat i < Int.ofNat m) && (decide ((Nat.add 0 ((0 + i) * 2)).succ < q.length) && (decide (0 ≤ Int.ofNat k) && decide (Int.ofNat k < Int.ofNat m) && (decide (0 + ((0 + k) * 2 + 0) < q.length) && ((q.getD (Nat.add 0 ((0 + i) * 2)).succ 0 == q.getD (0 + ((0 + k) * 2 + 0)) 0) == false && true)))) && true && true) from by kernel_rfl)]
  have e1 : q.getD (0 + (0 + k) * 2 + 0) 0 = ra q k := rfl
  have e2 : q.getD ((0 + (0 + i) * 2).add 0).succ 0 = rb q i := rfl
  have e3 : q.getD (Nat.add 0 ((0 + i) * 2)).succ 0 = rb q i := rfl
  have e4 : q.getD (0 + ((0 + k) * 2 + 0)) 0 = ra q k := rfl
  simp only [e1, e2, e3, e4]
  simp [hq, h]
  omega
theorem tcB {n : Nat} {q : List Int} {m i k : Nat} {b : Bool} {x y : Int} (hq : q.length = m * 2) (hm : m ≤ 1000000000) (hi : i < m) (hk : k < m) (h : rb q i = ra q k) (hr : relQ q m x y = true) : Exec PP T none x4.nt 0 BX4.b (SX4 n q m b i k x y) .n (SK4 n q m b i k) := by
  refine exec_prun envre4 [(74, true), (81, true)] false 60 [0] (by kernel_rfl) (by kernel_rfl) (by kernel_rfl) ?_
  rw [(show obOf (prun [(74, true), (81, true)] gre4 false 60 BX4.b (SX4 n q m b i k x y)) = (decide (0 ≤ Int.ofNat i) && decide (Int.ofNat i < Int.ofNat m) && (decide ((Nat.add 0 ((0 + i) * 2)).succ < q.length) && (decide (0 ≤ Int.ofNat k) && decide (Int.ofNat k < Int.ofNat m) && (decide (0 + ((0 + k) * 2 + 0) < q.length) && ((q.getD (Nat.add 0 ((0 + i) * 2)).succ 0 == q.getD (0 + ((0 + k) * 2 + 0)) 0) == true && (decide ((0 + m) * 2 ≤ q.length) && decide (m ≤ 1000000000) && true && true && relQ (List.take (m * 2) q) m x y == true && true))))) && true && true) from by kernel_rfl)]
  have e1 : q.getD (0 + (0 + k) * 2 + 0) 0 = ra q k := rfl
  have e2 : q.getD ((0 + (0 + i) * 2).add 0).succ 0 = rb q i := rfl
  have e3 : q.getD (Nat.add 0 ((0 + i) * 2)).succ 0 = rb q i := rfl
  have e4 : q.getD (0 + ((0 + k) * 2 + 0)) 0 = ra q k := rfl
  simp only [e1, e2, e3, e4, take_all2 hq, take2 hq, hr]
  simp [hq, h, bndL, rng64]
  omega
theorem tcC {n : Nat} {q : List Int} {m i k : Nat} {b : Bool} {x y : Int} (hq : q.length = m * 2) (hm : m ≤ 1000) (hi : i < m) (hk : k < m) (h : rb q i = ra q k) (hr : relQ q m x y = false) : Exec PP T none x4.nt 0 BX4.b (SX4 n q m b i k x y) .n (SK4 n ((q.take (m * 2)).take (m * 2) ++ [x, y]) (m + 1) true i k) := by
  refine exec_prun envre4 [(74, true), (81, false)] false 60 [12] (by kernel_rfl) (by kernel_rfl) (by kernel_rfl) ?_
  rw [(show obOf (prun [(74, true), (81, false)] gre4 false 60 BX4.b (SX4 n q m b i k x y)) = (decide (0 ≤ Int.ofNat i) && decide (Int.ofNat i < Int.ofNat m) && (decide ((Nat.add 0 ((0 + i) * 2)).succ < q.length) && (decide (0 ≤ Int.ofNat k) && decide (Int.ofNat k < Int.ofNat m) && (decide (0 + ((0 + k) * 2 + 0) < q.length) && ((q.getD (Nat.add 0 ((0 + i) * 2)).succ 0 == q.getD (0 + ((0 + k) * 2 + 0)) 0) == true && (decide ((0 + m) * 2 ≤ q.length) && decide (m ≤ 1000000000) && true && true && relQ (List.take (m * 2) q) m x y == false && true))))) && true && (decide ((0 + m) * 2 ≤ q.length) && decide (m ≤ 1000000000) && true && true && true && (decide (2 ≤ Nat.succ 1) && decide (m * 2 ≤ (List.take (m * 2) q).length) && decide (m.succ ≤ 1000000000) && true && true && true && true))) from by kernel_rfl)]
  have e1 : q.getD (0 + (0 + k) * 2 + 0) 0 = ra q k := rfl
  have e2 : q.getD ((0 + (0 + i) * 2).add 0).succ 0 = rb q i := rfl
  have e3 : q.getD (Nat.add 0 ((0 + i) * 2)).succ 0 = rb q i := rfl
  have e4 : q.getD (0 + ((0 + k) * 2 + 0)) 0 = ra q k := rfl
  simp only [e1, e2, e3, e4, take_all2 hq, take2 hq, hr]
  simp [hq, h, bndL, rng64]
  omega
end Go.Proofs.Yteekkjfjpoaihaa.Eng
namespace Go.Proofs.Yteekkjfjpoaihaa.Eng
open Go Go.Proofs
/-- a pair is to be added -/
def cpB (q : List Int) (m i k : Nat) : Bool := rb q i == ra q k && !(relQ q m (ra q i) (rb q k))
def kL (i : Nat) : Nat → List Int → Nat → Bool → Nat → Option (List Int × Nat × Bool)
  | 0, _, _, _, _ => none
  | f + 1, q, m, b, k => bif Nat.blt k m then (bif cpB q m i k then (bif Nat.blt m 1000 then kL i f (q ++ [ra q i, rb q k]) (m + 1) true (k + 1) else none) else kL i f q m b (k + 1)) else some (q, m, b)
def iL : Nat → List Int → Nat → Bool → Nat → Option (List Int × Nat × Bool)
  | 0, _, _, _, _ => none
  | f + 1, q, m, b, i => bif Nat.blt i m then (match kL i 40 q m b 0 with | some (q', m', b') => iL f q' m' b' (i + 1) | none => none) else some (q, m, b)
def oL : Nat → List Int → Nat → Option (List Int × Nat)
  | 0, _, _ => none
  | f + 1, q, m => match iL 40 q m false 0 with | some (q', m', b') => (bif b' then oL f q' m' else some (q', m')) | none => none
theorem blt_iff {a b : Nat} : Nat.blt a b = true ↔ a < b := by
  unfold Nat.blt
  rw [Nat.ble_eq]
  exact Iff.rfl
theorem stepK {n i k m : Nat} {q : List Int} {b : Bool} (hq : q.length = m * 2) (hm : m ≤ 1000) (hi : i < m) (hk : k < m) {b' : Bool} {q' : List Int} {m' : Nat} (hb : Exec PP T none x4.nt 0 BX4.b (SX4 n q m b i k (ra q i) (rb q k)) .n (SK4 n q' m' b' i k)) : Exec PP T none x4.nt 0 LK4 (SK4 n q m b i k) .n (SK4 n q' m' b' i (k + 1)) :=
  exec_seq (x := LK4.a) (y := LK4.b) (tck hk) (exec_seq (x := LK4.b.a) (y := LK4.b.b) (exec_block (id := 5) (x := BX4) (e := .n) (exec_seq (x := BX4.a) (y := BX4.b) (tcx hq hi hk) hb)) (tcke (by omega)))
theorem kW {n i : Nat} : ∀ (f : Nat) (q : List Int) (m : Nat) (b : Bool) (k : Nat) (q' : List Int) (m' : Nat) (b' : Bool), q.length = m * 2 → m ≤ 1000 → i < m → kL i f q m b k = some (q', m', b') → q'.length = m' * 2 ∧ m ≤ m' ∧ m' ≤ 1000 ∧ ∃ j, LoopX (Exec PP T none x4.nt 0 LK4) j (SK4 n q m b i k) (.x 4) (SI4 n q' m' b' i)
  | 0, q, m, b, k, q', m', b', hq, hm, hi, h => by cases h
  | f + 1, q, m, b, k, q', m', b', hq, hm, hi, h => by
    unfold kL at h
    by_cases hk : k < m
    · rw [blt_iff.2 hk, cond_true] at h
      cases hc : cpB q m i k with
      | true =>
        rw [hc, cond_true] at h
        unfold cpB at hc
        simp only [Bool.and_eq_true, beq_iff_eq, Bool.not_eq_true'] at hc
        by_cases h1 : m < 1000
        · rw [blt_iff.2 h1, cond_true] at h
          have hs := stepK (n := n) (b := b) hq hm hi hk (tcC hq hm hi hk hc.1 hc.2)
          rw [take2 hq, take2 hq] at hs
          obtain ⟨g1, g2, g3, j, g4⟩ := kW f _ _ _ _ _ _ _ (by simp [hq]; omega) (by omega) (by omega) h
          exact ⟨g1, by omega, g3, j + 1, .step hs g4⟩
        · rw [show Nat.blt m 1000 = false from Bool.eq_false_iff.2 fun h2 => h1 (blt_iff.1 h2), cond_false] at h
          cases h
      | false =>
        rw [hc, cond_false] at h
        obtain ⟨g1, g2, g3, j, g4⟩ := kW f _ _ _ _ _ _ _ hq hm hi h
        refine ⟨g1, g2, g3, j + 1, .step (stepK hq hm hi hk ?_) g4⟩
        unfold cpB at hc
        by_cases he : rb q i = ra q k
        · exact tcB hq (by omega) hi hk he (by simpa [he] using hc)
        · exact tcA hq hi hk he
    · rw [show Nat.blt k m = false from Bool.eq_false_iff.2 fun h2 => hk (blt_iff.1 h2), cond_false] at h
      simp only [Option.some.injEq, Prod.mk.injEq] at h
      obtain ⟨rfl, rfl, rfl⟩ := h
      exact ⟨hq, Nat.le_refl _, hm, 0, .done (exec_seq_x (x := LK4.a) (y := LK4.b) (tckx hk) (by simp)) (by simp)⟩
theorem iW {n : Nat} : ∀ (f : Nat) (q : List Int) (m : Nat) (b : Bool) (i : Nat) (q' : List Int) (m' : Nat) (b' : Bool), q.length = m * 2 → m ≤ 1000 → iL f q m b i = some (q', m', b') → q'.length = m' * 2 ∧ m' ≤ 1000 ∧ ∃ j, LoopX (Exec PP T none x4.nt 0 LI4) j (SI4 n q m b i) (.x 2) (SO4 n q' m' b')
  | 0, q, m, b, i, q', m', b', hq, hm, h => by cases h
  | f + 1, q, m, b, i, q', m', b', hq, hm, h => by
    unfold iL at h
    by_cases hi : i < m
    · rw [blt_iff.2 hi, cond_true] at h
      cases hk : kL i 40 q m b 0 with
      | none => rw [hk] at h; cases h
      | some r =>
        obtain ⟨q1, m1, b1⟩ := r
        rw [hk] at h
        obtain ⟨g1, g2, g3, j, g4⟩ := kW (n := n) 40 q m b 0 q1 m1 b1 hq hm hi hk
        obtain ⟨k1, k2, j2, k3⟩ := iW f q1 m1 b1 (i + 1) q' m' b' g1 g3 h
        refine ⟨k1, k2, j2 + 1, .step ?_ k3⟩
        exact exec_seq (x := LI4.a) (y := LI4.b) (tci hi) (exec_seq (x := LI4.b.a) (y := LI4.b.b) (exec_block (id := 3) (x := LI4.b.a.i) (e := .n) (exec_seq (x := LI4.b.a.i.a) (y := LI4.b.a.i.b) tcia (exec_block (id := 4) (x := .loop LK4) (e := .x 4) (exec_loop g4)))) (tcie (by omega)))
    · rw [show Nat.blt i m = false from Bool.eq_false_iff.2 fun h2 => hi (blt_iff.1 h2), cond_false] at h
      simp only [Option.some.injEq, Prod.mk.injEq] at h
      obtain ⟨rfl, rfl, rfl⟩ := h
      exact ⟨hq, hm, 0, .done (exec_seq_x (x := LI4.a) (y := LI4.b) (tcix hi) (by simp)) (by simp)⟩
theorem oW4 {n : Nat} : ∀ (f : Nat) (q : List Int) (m : Nat) (q' : List Int) (m' : Nat), q.length = m * 2 → m ≤ 1000 → oL f q m = some (q', m') → q'.length = m' * 2 ∧ m' ≤ 1000 ∧ ∃ j, LoopX (Exec PP T none x4.nt 0 LO4) j (SO4 n q m true) (.x 0) (Q4 n m' q')
  | 0, q, m, q', m', hq, hm, h => by cases h
  | f + 1, q, m, q', m', hq, hm, h => by
    unfold oL at h
    cases hk : iL 40 q m false 0 with
    | none => rw [hk] at h; cases h
    | some r =>
      obtain ⟨q1, m1, b1⟩ := r
      rw [hk] at h
      obtain ⟨g1, g3, j, g4⟩ := iW (n := n) 40 q m false 0 q1 m1 b1 hq hm hk
      have hs : Exec PP T none x4.nt 0 LO4 (SO4 n q m true) .n (SO4 n q1 m1 b1) :=
        exec_seq (x := LO4.a) (y := LO4.b) tco (exec_block (id := 1) (x := LO4.b.i) (e := .n) (exec_seq (x := LO4.b.i.a) (y := LO4.b.i.b) tcob (exec_seq (x := LO4.b.i.b.a) (y := LO4.b.i.b.b) tcoc (exec_block (id := 2) (x := .loop LI4) (e := .x 2) (exec_loop g4)))))
      cases b1 with
      | true =>
        obtain ⟨k1, k2, j2, k3⟩ := oW4 f q1 m1 q' m' g1 g3 h
        exact ⟨k1, k2, j2 + 1, .step hs k3⟩
      | false =>
        simp only [cond_false, Option.some.injEq, Prod.mk.injEq] at h
        obtain ⟨rfl, rfl⟩ := h
        exact ⟨g1, g3, 1, .step hs (.done (exec_seq_x (x := LO4.a) (y := LO4.b) tcox (by simp)) (by simp))⟩
theorem closeW {n f m m' : Nat} {q q' : List Int} (hq : q.length = m * 2) (hm : m ≤ 1000) (h : oL f q m = some (q', m')) : q'.length = m' * 2 ∧ m' ≤ 1000 ∧ Exec PP T none x4.nt 0 U0 (Q4 n m q) .n (Q4 n m' q') := by
  obtain ⟨h1, h2, j, h3⟩ := oW4 (n := n) f q m q' m' hq hm h
  exact ⟨h1, h2, exec_seq (x := U0.a) (y := U0.b) tcd (exec_block (id := 0) (x := .loop LO4) (e := .x 0) (exec_loop h3))⟩
end Go.Proofs.Yteekkjfjpoaihaa.Eng
namespace Go.Proofs.Yteekkjfjpoaihaa.Eng
open Go Go.Proofs
/-- the pairs of five nodes, each with its bit -/
def prsM : List (Nat × Nat × Nat) := [(0, 1, 0), (0, 2, 1), (0, 3, 3), (0, 4, 6), (1, 2, 2), (1, 3, 4), (1, 4, 7), (2, 3, 5), (2, 4, 8), (3, 4, 9)]
def bitM (s i : Nat) : Bool := Nat.beq (Nat.land (Nat.shiftRight s i) 1) 1
def selM (s : Nat) : List (Nat × Nat × Nat) := prsM.filter fun p => bitM s p.2.2
def lstM (s : Nat) : List Int := (selM s).flatMap fun p => [Int.ofNat p.1, Int.ofNat p.2.1]
def cntM (s : Nat) : Nat := (selM s).length
def allP : Nat → (Nat → Bool) → Nat → Bool
  | 0, f, s => f s
  | k + 1, f, s => allP k f (2 * s) && allP k f (2 * s + 1)
theorem allP_ok : ∀ (k : Nat) (f : Nat → Bool) (s : Nat), allP k f s = true → ∀ t, t / 2 ^ k = s → f t = true
  | 0, f, s, h, t, ht => by
    simp at ht
    subst ht
    exact h
  | k + 1, f, s, h, t, ht => by
    simp only [allP, Bool.and_eq_true] at h
    have e : t / 2 ^ k / 2 = s := by rw [Nat.div_div_eq_div_mul, ← Nat.pow_succ]; exact ht
    have e2 : t / 2 ^ k = 2 * s ∨ t / 2 ^ k = 2 * s + 1 := by omega
    rcases e2 with e2 | e2
    · exact allP_ok k f _ h.1 t e2
    · exact allP_ok k f _ h.2 t e2
theorem allP_lt {k : Nat} {f : Nat → Bool} (h : allP k f 0 = true) {t : Nat} (ht : t < 2 ^ k) : f t = true := allP_ok k f 0 h t (Nat.div_eq_of_lt ht)
def insOk (s : Nat) : Bool := prsM.all fun p => insP (lstM s, cntM s) (Int.ofNat p.1) (Int.ofNat p.2.1) == (lstM (Nat.lor s (2 ^ p.2.2)), cntM (Nat.lor s (2 ^ p.2.2)))
def triM : List (Nat × Nat × Nat) := [(0, 2, 1), (0, 4, 3), (0, 7, 6), (1, 5, 3), (1, 8, 6), (3, 9, 6), (2, 5, 4), (2, 8, 7), (4, 9, 7), (5, 9, 8)]
def trM (s : Nat) : Bool := triM.all fun e => !(bitM s e.1) || !(bitM s e.2.1) || bitM s e.2.2
def mskM (q : List Int) (m : Nat) : Nat := prsM.foldl (fun a p => bif relQ q m (Int.ofNat p.1) (Int.ofNat p.2.1) then Nat.add a (2 ^ p.2.2) else a) 0
def lesM (s t k : Nat) : Bool := !(Nat.blt s k) || Nat.blt t k
def clOk (s : Nat) : Bool := match oL 12 (lstM s) (cntM s) with
  | some (q, m) => srt q m == (lstM (mskM q m), cntM (mskM q m)) && trM (mskM q m) && (lesM s (mskM q m) 1 && lesM s (mskM q m) 2 && lesM s (mskM q m) 8 && lesM s (mskM q m) 64 && Nat.blt (mskM q m) 1024) && Nat.ble (cntM s) 10
  | none => false
end Go.Proofs.Yteekkjfjpoaihaa.Eng
namespace Go.Proofs.Yteekkjfjpoaihaa.Eng
open Go Go.Proofs
theorem insOk_0 : allP 7 insOk 0 = true := by kernel_rfl
theorem insOk_1 : allP 7 insOk 1 = true := by kernel_rfl
theorem insOk_2 : allP 7 insOk 2 = true := by kernel_rfl
theorem insOk_3 : allP 7 insOk 3 = true := by kernel_rfl
end Go.Proofs.Yteekkjfjpoaihaa.Eng
namespace Go.Proofs.Yteekkjfjpoaihaa.Eng
open Go Go.Proofs
theorem insOk_4 : allP 7 insOk 4 = true := by kernel_rfl
theorem insOk_5 : allP 7 insOk 5 = true := by kernel_rfl
theorem insOk_6 : allP 7 insOk 6 = true := by kernel_rfl
theorem insOk_7 : allP 7 insOk 7 = true := by kernel_rfl
end Go.Proofs.Yteekkjfjpoaihaa.Eng
namespace Go.Proofs.Yteekkjfjpoaihaa.Eng
open Go Go.Proofs
theorem clOk_0 : allP 6 clOk 0 = true := by kernel_rfl
theorem clOk_1 : allP 6 clOk 1 = true := by kernel_rfl
theorem clOk_2 : allP 6 clOk 2 = true := by kernel_rfl
theorem clOk_3 : allP 6 clOk 3 = true := by kernel_rfl
end Go.Proofs.Yteekkjfjpoaihaa.Eng
namespace Go.Proofs.Yteekkjfjpoaihaa.Eng
open Go Go.Proofs
theorem clOk_4 : allP 6 clOk 4 = true := by kernel_rfl
theorem clOk_5 : allP 6 clOk 5 = true := by kernel_rfl
theorem clOk_6 : allP 6 clOk 6 = true := by kernel_rfl
theorem clOk_7 : allP 6 clOk 7 = true := by kernel_rfl
end Go.Proofs.Yteekkjfjpoaihaa.Eng
namespace Go.Proofs.Yteekkjfjpoaihaa.Eng
open Go Go.Proofs
theorem clOk_8 : allP 6 clOk 8 = true := by kernel_rfl
theorem clOk_9 : allP 6 clOk 9 = true := by kernel_rfl
theorem clOk_10 : allP 6 clOk 10 = true := by kernel_rfl
theorem clOk_11 : allP 6 clOk 11 = true := by kernel_rfl
end Go.Proofs.Yteekkjfjpoaihaa.Eng
namespace Go.Proofs.Yteekkjfjpoaihaa.Eng
open Go Go.Proofs
theorem clOk_12 : allP 6 clOk 12 = true := by kernel_rfl
theorem clOk_13 : allP 6 clOk 13 = true := by kernel_rfl
theorem clOk_14 : allP 6 clOk 14 = true := by kernel_rfl
theorem clOk_15 : allP 6 clOk 15 = true := by kernel_rfl
end Go.Proofs.Yteekkjfjpoaihaa.Eng
namespace Go.Proofs.Yteekkjfjpoaihaa.Eng
open Go Go.Proofs
noncomputable def LCn : List (Nat × Spec) := [(101, spSize)]
theorem LCn_ok : SpecsL LCn := specsL_cons ok101 (genS_fp) o101 (fun p hp => absurd hp (by simp))
noncomputable abbrev gCn : Cal → Option Spec := specsΓ LCn
theorem envCn : EnvOK PP T gCn := envL LCn_ok
abbrev H103 (f : Nat → Bool) (s t : Nat) : List HO := [⟨false, .row 95 [] 64 f⟩, ⟨false, .row 108 [.int .i64 (Int.ofNat s), .int .i64 (Int.ofNat t)] 0 ff⟩]
abbrev S103 (f : Nat → Bool) (s t : Nat) : St := mkSt [(2, g1S 0), (3, g1S 1)] (H103 f s t) 2 []
abbrev U103 (f : Nat → Bool) (s t i : Nat) : St := mkSt [(2, g1S 0), (3, g1S 1), (57, ⟨true, .av (.pb [] 64 f)⟩), (58, iS i)] (H103 f s t) 2 []
def L103 : XC := x103.body.b.b.a.b.i.i
def aN (s i : Nat) : Int := bitop .andNot .i64 (Int.ofNat s) (Int.ofNat i)
/-- the first tests -/
def canA (f : Nat → Bool) (s t : Nat) : Bool := f s && f t && (aN s t == 0) && Nat.beq (popc t) (popc s + 1)
/-- a third face about the lesser one -/
def obsP (f : Nat → Bool) (s t i : Nat) : Bool := f i && (Int.ofNat i != Int.ofNat s) && (Int.ofNat i != Int.ofNat t) && (bitop .andNot .i64 (Int.ofNat s) (Int.ofNat i) == 0)
theorem popc_lt (s : Nat) : popc s ≤ 6 := by
  unfold popc
  omega
theorem a103 {f : Nat → Bool} {s t : Nat}  : Exec PP T none x103.nt 0 x103.body.a (startSt [.pb [] 64 f, arV (Int.ofNat s) (Int.ofNat t)] []) .n (S103 f s t) := by
  refine exec_orun env0 false 60 [] [0, 1] (fun _ => rfl) (by kernel_rfl) (by kernel_rfl) (by kernel_rfl) (by kernel_rfl)
theorem b103z {f : Nat → Bool} {t : Nat} (ht : t < 64) : Exec PP T none x103.nt 0 x103.body.b.a (S103 f 0 t) .r (RB 4 false) := by
  refine exec_prun envCn [(9, true), (14, true), (19, true), (24, true), (31, true), (38, true), (46, true), (56, true)] false 60 [] (by kernel_rfl) (by kernel_rfl) (by kernel_rfl) ?_
  rw [(show obOf (prun [(9, true), (14, true), (19, true), (24, true), (31, true), (38, true), (46, true), (56, true)] gCn false 60 x103.body.b.a (S103 f 0 t)) = (true == true && (true == true && (true == true && (true == true && (true == true && (true == true && true))))) && true && true) from by kernel_rfl)]
  rfl
theorem b103x5 {f : Nat → Bool} {s t : Nat} (h0 : 0 < s) (hs : s < 64) (h1 : 0 < t) (ht : t < 64) (h : f s = false) : Exec PP T none x103.nt 0 x103.body.b.a (S103 f s t) .r (RB 4 false) := by
  refine exec_prun envCn [(9, false), (13, false), (18, false), (23, false), (30, true)] false 60 [] (by kernel_rfl) (by kernel_rfl) (by kernel_rfl) ?_
  rw [(show obOf (prun [(9, false), (13, false), (18, false), (23, false), (30, true)] gCn false 60 x103.body.b.a (S103 f s t)) = (decide (Int.ofNat s < 1) == false && (decide (Int.ofNat s ≥ 64) == false && (decide (Int.ofNat t ≥ 64) == false && (decide (Int.ofNat t < 1) == false && (decide (0 ≤ Int.ofNat s) && decide (Int.ofNat s < 64) && (decide (0 + (0 + s * 1) < 64) && ((!f (0 + (0 + s * 1))) == true && true)))))) && true && true) from by kernel_rfl)]
  simp [h]
  omega
theorem b103x6 {f : Nat → Bool} {s t : Nat} (h0 : 0 < s) (hs : s < 64) (h1 : 0 < t) (ht : t < 64) (h : f s = true) (h6 : f t = false) : Exec PP T none x103.nt 0 x103.body.b.a (S103 f s t) .r (RB 4 false) := by
  refine exec_prun envCn [(9, false), (13, false), (18, false), (23, false), (30, false), (37, true)] false 60 [] (by kernel_rfl) (by kernel_rfl) (by kernel_rfl) ?_
  rw [(show obOf (prun [(9, false), (13, false), (18, false), (23, false), (30, false), (37, true)] gCn false 60 x103.body.b.a (S103 f s t)) = (decide (Int.ofNat s < 1) == false && (decide (Int.ofNat s ≥ 64) == false && (decide (Int.ofNat t ≥ 64) == false && (decide (Int.ofNat t < 1) == false && (decide (0 ≤ Int.ofNat s) && decide (Int.ofNat s < 64) && (decide (0 + (0 + s * 1) < 64) && ((!f (0 + (0 + s * 1))) == false && (decide (0 ≤ Int.ofNat t) && decide (Int.ofNat t < 64) && (decide (0 + (0 + t * 1) < 64) && ((!f (0 + (0 + t * 1))) == true && true))))))))) && true && true) from by kernel_rfl)]
  simp [h, h6]
  omega
theorem b103x7 {f : Nat → Bool} {s t : Nat} (h0 : 0 < s) (hs : s < 64) (h1 : 0 < t) (ht : t < 64) (h : f s = true) (h6 : f t = true) (h7 : (aN s t == 0) = false) : Exec PP T none x103.nt 0 x103.body.b.a (S103 f s t) .r (RB 4 false) := by
  refine exec_prun envCn [(9, false), (13, false), (18, false), (23, false), (30, false), (37, false), (45, true)] false 60 [] (by kernel_rfl) (by kernel_rfl) (by kernel_rfl) ?_
  rw [(show obOf (prun [(9, false), (13, false), (18, false), (23, false), (30, false), (37, false), (45, true)] gCn false 60 x103.body.b.a (S103 f s t)) = (decide (Int.ofNat s < 1) == false && (decide (Int.ofNat s ≥ 64) == false && (decide (Int.ofNat t ≥ 64) == false && (decide (Int.ofNat t < 1) == false && (decide (0 ≤ Int.ofNat s) && decide (Int.ofNat s < 64) && (decide (0 + (0 + s * 1) < 64) && ((!f (0 + (0 + s * 1))) == false && (decide (0 ≤ Int.ofNat t) && decide (Int.ofNat t < 64) && (decide (0 + (0 + t * 1) < 64) && ((!f (0 + (0 + t * 1))) == false && ((bitop BinOp.andNot IntKind.i64 (Int.ofNat s) (Int.ofNat t) != 0) == true && true)))))))))) && true && true) from by kernel_rfl)]
  unfold aN at h7
  simp only [bne, h7]
  simp [h, h6]
  omega
theorem b103y {f : Nat → Bool} {s t : Nat} (h0 : 0 < s) (hs : s < 64) (h1 : 0 < t) (ht : t < 64) (h : f s = true) (h6 : f t = true) (h7 : (aN s t == 0) = true) (h2 : Nat.beq (popc t) (popc s + 1) = false) : Exec PP T none x103.nt 0 x103.body.b.a (S103 f s t) .r (RB 4 false) := by
  refine exec_prun envCn [(9, false), (13, false), (18, false), (23, false), (30, false), (37, false), (45, false), (55, true)] false 60 [] (by kernel_rfl) (by kernel_rfl) (by kernel_rfl) ?_
  rw [(show obOf (prun [(9, false), (13, false), (18, false), (23, false), (30, false), (37, false), (45, false), (55, true)] gCn false 60 x103.body.b.a (S103 f s t)) = (decide (Int.ofNat s < 1) == false && (decide (Int.ofNat s ≥ 64) == false && (decide (Int.ofNat t ≥ 64) == false && (decide (Int.ofNat t < 1) == false && (decide (0 ≤ Int.ofNat s) && decide (Int.ofNat s < 64) && (decide (0 + (0 + s * 1) < 64) && ((!f (0 + (0 + s * 1))) == false && (decide (0 ≤ Int.ofNat t) && decide (Int.ofNat t < 64) && (decide (0 + (0 + t * 1) < 64) && ((!f (0 + (0 + t * 1))) == false && ((bitop BinOp.andNot IntKind.i64 (Int.ofNat s) (Int.ofNat t) != 0) == false && (decide (0 ≤ Int.ofNat t) && decide (Int.ofNat t < 64) && (decide (0 ≤ Int.ofNat s) && decide (Int.ofNat s < 64) && (rng64 (Int.ofNat ((popc s).add 0).succ) && ((Int.ofNat (popc t) != Int.ofNat ((popc s).add 0).succ) == true && true)))))))))))))) && true && true) from by kernel_rfl)]
  unfold aN at h7
  simp only [bne, h7]
  have h3 := popc_lt s
  have h4 : ¬ popc t = popc s + 1 := fun e => by rw [beqT e] at h2; cases h2
  simp [h, h6, rng64]
  omega
theorem b103n {f : Nat → Bool} {s t : Nat} (h0 : 0 < s) (hs : s < 64) (h1 : 0 < t) (ht : t < 64) (h : f s = true) (h6 : f t = true) (h7 : (aN s t == 0) = true) (h2 : Nat.beq (popc t) (popc s + 1) = true) : Exec PP T none x103.nt 0 x103.body.b.a (S103 f s t) .n (S103 f s t) := by
  refine exec_prun envCn [(9, false), (13, false), (18, false), (23, false), (30, false), (37, false), (45, false), (55, false)] false 60 [0, 1] (by kernel_rfl) (by kernel_rfl) (by kernel_rfl) ?_
  rw [(show obOf (prun [(9, false), (13, false), (18, false), (23, false), (30, false), (37, false), (45, false), (55, false)] gCn false 60 x103.body.b.a (S103 f s t)) = (decide (Int.ofNat s < 1) == false && (decide (Int.ofNat s ≥ 64) == false && (decide (Int.ofNat t ≥ 64) == false && (decide (Int.ofNat t < 1) == false && (decide (0 ≤ Int.ofNat s) && decide (Int.ofNat s < 64) && (decide (0 + (0 + s * 1) < 64) && ((!f (0 + (0 + s * 1))) == false && (decide (0 ≤ Int.ofNat t) && decide (Int.ofNat t < 64) && (decide (0 + (0 + t * 1) < 64) && ((!f (0 + (0 + t * 1))) == false && ((bitop BinOp.andNot IntKind.i64 (Int.ofNat s) (Int.ofNat t) != 0) == false && (decide (0 ≤ Int.ofNat t) && decide (Int.ofNat t < 64) && (decide (0 ≤ Int.ofNat s) && decide (Int.ofNat s < 64) && (rng64 (Int.ofNat ((popc s).add 0).succ) && ((Int.ofNat (popc t) != Int.ofNat ((popc s).add 0).succ) == false && true)))))))))))))) && true && true) from by kernel_rfl)]
  unfold aN at h7
  simp only [bne, h7]
  have h3 := popc_lt s
  have h4 : popc t = popc s + 1 := Nat.eq_of_beq_eq_true h2
  simp [h, h6, h4, rng64]
  omega
theorem cc103 {f : Nat → Bool} {s t : Nat}  : Exec PP T none x103.nt 0 x103.body.b.b.a.a (S103 f s t) .n (U103 f s t 0) := by
  refine exec_orun env0 false 60 [] [0, 1] (fun _ => rfl) (by kernel_rfl) (by kernel_rfl) (by kernel_rfl) (by kernel_rfl)
theorem l103f {f : Nat → Bool} {s t i : Nat} (hi : i < 64) (h : obsP f s t i = false) : Exec PP T none x103.nt 0 L103 (U103 f s t i) .n (U103 f s t (i + 1)) := by
  refine exec_orun env0 false 60 [true, false] [0, 1] (fun _ => rfl) (by kernel_rfl) (by kernel_rfl) (by kernel_rfl) ?_
  rw [(show obOf (orun g0 false 60 L103 (U103 f s t i) [true, false]) = ((fun b0_ : Bool => (fun b1_ : Bool => decide (Int.ofNat i < 64) && true && (decide (0 + i * 1 < 64) && decide (0 ≤ Int.ofNat i) && decide (Int.ofNat i < 64) && true && ((!f (0 + i * 1) == true || true) && ((!f (0 + i * 1) == true || true) && ((!f (0 + i * 1) == true || f (0 + i * 1) == true && true && true) && ((!f (0 + i * 1) == true || f (0 + i * 1) == true && (f (0 + i * 1) == true && true) && true) && ((bif f (0 + i * 1) then f (0 + i * 1) == true else true) && true && ((!b1_ == true || true) && ((!b1_ == true || true) && ((!b1_ == true || b1_ == true && true && true) && ((!b1_ == true || b1_ == true && (b1_ == true && true) && true) && ((bif bif f (0 + i * 1) then Int.ofNat i != Int.ofNat s else false then b1_ == true else true) && true && ((!b0_ == true || true) && ((!b0_ == true || b0_ == true && true && true) && ((!b0_ == true || true) && ((!b0_ == true || b0_ == true && (b0_ == true && true) && true) && ((!b0_ == true || b0_ == true && true && true) && ((bif bif bif f (0 + i * 1) then Int.ofNat i != Int.ofNat s else false then Int.ofNat i != Int.ofNat t else false then b0_ == true else true) && true && true))))))))))))))) && ((!bif bif bif f (0 + i * 1) then Int.ofNat i != Int.ofNat s else false then Int.ofNat i != Int.ofNat t else false then bitop BinOp.andNot IntKind.i64 (Int.ofNat s) (Int.ofNat i) == 0 else false) && true)) && (rng64 (Int.ofNat i.succ) && true))) (bif f (0 + i * 1) then Int.ofNat i != Int.ofNat s else false)) (bif bif f (0 + i * 1) then Int.ofNat i != Int.ofNat s else false then Int.ofNat i != Int.ofNat t else false)) from by kernel_rfl)]
  dsimp only
  unfold obsP at h
  simp only [show 0 + i * 1 = i by omega]
  have i1 : decide (Int.ofNat i < 64) = true := by simp; omega
  have i2 : decide (0 ≤ Int.ofNat i) = true := by simp
  have i3 : decide (i < 64) = true := by simp; omega
  have i4 : rng64 (Int.ofNat i.succ) = true := by simp [rng64]; omega
  try rw [i1]
  try rw [i2]
  try rw [i3]
  try rw [i4]
  generalize f i = X at *
  generalize (Int.ofNat i != Int.ofNat s) = Y at *
  generalize (Int.ofNat i != Int.ofNat t) = Z at *
  generalize (bitop .andNot .i64 (Int.ofNat s) (Int.ofNat i) == 0) = W at *
  cases X <;> cases Y <;> cases Z <;> cases W <;> first | rfl | (simp at h; done)
theorem l103t {f : Nat → Bool} {s t i : Nat} (hi : i < 64) (h : obsP f s t i = true) : Exec PP T none x103.nt 0 L103 (U103 f s t i) .r (RB 4 false) := by
  refine exec_orun env0 false 60 [true, true] [] (fun _ => rfl) (by kernel_rfl) (by kernel_rfl) (by kernel_rfl) ?_
  rw [(show obOf (orun g0 false 60 L103 (U103 f s t i) [true, true]) = ((fun b0_ : Bool => (fun b1_ : Bool => decide (Int.ofNat i < 64) && true && (decide (0 + i * 1 < 64) && decide (0 ≤ Int.ofNat i) && decide (Int.ofNat i < 64) && true && ((!f (0 + i * 1) == true || true) && ((!f (0 + i * 1) == true || true) && ((!f (0 + i * 1) == true || f (0 + i * 1) == true && true && true) && ((!f (0 + i * 1) == true || f (0 + i * 1) == true && (f (0 + i * 1) == true && true) && true) && ((bif f (0 + i * 1) then f (0 + i * 1) == true else true) && true && ((!b1_ == true || true) && ((!b1_ == true || true) && ((!b1_ == true || b1_ == true && true && true) && ((!b1_ == true || b1_ == true && (b1_ == true && true) && true) && ((bif bif f (0 + i * 1) then Int.ofNat i != Int.ofNat s else false then b1_ == true else true) && true && ((!b0_ == true || true) && ((!b0_ == true || b0_ == true && true && true) && ((!b0_ == true || true) && ((!b0_ == true || b0_ == true && (b0_ == true && true) && true) && ((!b0_ == true || b0_ == true && true && true) && ((bif bif bif f (0 + i * 1) then Int.ofNat i != Int.ofNat s else false then Int.ofNat i != Int.ofNat t else false then b0_ == true else true) && true && true))))))))))))))) && ((bif bif bif f (0 + i * 1) then Int.ofNat i != Int.ofNat s else false then Int.ofNat i != Int.ofNat t else false then bitop BinOp.andNot IntKind.i64 (Int.ofNat s) (Int.ofNat i) == 0 else false) && true)))) (bif f (0 + i * 1) then Int.ofNat i != Int.ofNat s else false)) (bif bif f (0 + i * 1) then Int.ofNat i != Int.ofNat s else false then Int.ofNat i != Int.ofNat t else false)) from by kernel_rfl)]
  dsimp only
  unfold obsP at h
  simp only [show 0 + i * 1 = i by omega]
  have i1 : decide (Int.ofNat i < 64) = true := by simp; omega
  have i2 : decide (0 ≤ Int.ofNat i) = true := by simp
  have i3 : decide (i < 64) = true := by simp; omega
  have i4 : rng64 (Int.ofNat i.succ) = true := by simp [rng64]; omega
  try rw [i1]
  try rw [i2]
  try rw [i3]
  try rw [i4]
  generalize f i = X at *
  generalize (Int.ofNat i != Int.ofNat s) = Y at *
  generalize (Int.ofNat i != Int.ofNat t) = Z at *
  generalize (bitop .andNot .i64 (Int.ofNat s) (Int.ofNat i) == 0) = W at *
  cases X <;> cases Y <;> cases Z <;> cases W <;> first | rfl | (simp at h; done)
theorem z103 {f : Nat → Bool} {s t : Nat}  : Exec PP T none x103.nt 0 L103 (U103 f s t 64) (.x 0) (U103 f s t 64) := by
  refine exec_orun env0 false 60 [false] [0, 1] (fun _ => rfl) (by kernel_rfl) (by kernel_rfl) (by kernel_rfl) (by kernel_rfl)
theorem d103 {f : Nat → Bool} {s t : Nat}  : Exec PP T none x103.nt 0 x103.body.b.b.b (U103 f s t 64) .r (RB 4 true) := by
  refine exec_orun env0 false 60 [] [] (fun _ => rfl) (by kernel_rfl) (by kernel_rfl) (by kernel_rfl) (by kernel_rfl)
def canQ (f : Nat → Bool) (s t : Nat) : Bool := bif Nat.blt 0 s && canA f s t then !(Nat.blt (fstN (obsP f s t) 64) 64) else false
theorem body103 {f : Nat → Bool} {s t : Nat} (hs : s < 64) (h1 : 0 < t) (ht : t < 64) : Exec PP T none x103.nt 0 x103.body (startSt [.pb [] 64 f, arV (Int.ofNat s) (Int.ofNat t)] []) .r (RB 4 (canQ f s t)) := by
  refine exec_seq (x := x103.body.a) (y := x103.body.b) a103 ?_
  by_cases h0 : s = 0
  · subst h0
    exact exec_seq_x (x := x103.body.b.a) (y := x103.body.b.b) (b103z ht) (by simp)
  have h0' : 0 < s := by omega
  have hb : Nat.blt 0 s = true := blt_lt h0'
  unfold canQ canA
  rw [hb]
  cases h5 : f s with
  | false => exact exec_seq_x (x := x103.body.b.a) (y := x103.body.b.b) (b103x5 h0' hs h1 ht h5) (by simp)
  | true =>
  cases h6 : f t with
  | false => exact exec_seq_x (x := x103.body.b.a) (y := x103.body.b.b) (b103x6 h0' hs h1 ht h5 h6) (by simp)
  | true =>
  cases h7 : (aN s t == 0) with
  | false => exact exec_seq_x (x := x103.body.b.a) (y := x103.body.b.b) (b103x7 h0' hs h1 ht h5 h6 h7) (by simp)
  | true =>
  cases h2 : Nat.beq (popc t) (popc s + 1) with
  | false => exact exec_seq_x (x := x103.body.b.a) (y := x103.body.b.b) (b103y h0' hs h1 ht h5 h6 h7 h2) (by simp)
  | true =>
  refine exec_seq (x := x103.body.b.a) (y := x103.body.b.b) (b103n h0' hs h1 ht h5 h6 h7 h2) ?_
  rw [show (true && (true && true && true && true)) = true from rfl, cond_true]
  rcases exec_loop_find (U103 f s t) (obsP f s t) 64 (eh := .r) (Sh := fun _ => RB 4 false) (fun i hi h => l103f hi h) (fun i hi h => l103t hi h) (by simp) z103 (by simp) with ⟨k1, k2⟩ | ⟨k1, k2⟩
  · rw [blt_lt k1]
    exact exec_seq_x (x := x103.body.b.b.a) (y := x103.body.b.b.b) (exec_seq (x := x103.body.b.b.a.a) (y := .block 0 (.loop L103)) cc103 (exec_block (e := .r) k2)) (by simp)
  · rw [show Nat.blt (fstN (obsP f s t) 64) 64 = false by rw [k1]; rfl]
    exact exec_seq (x := x103.body.b.b.a) (y := x103.body.b.b.b) (exec_seq (x := x103.body.b.b.a.a) (y := .block 0 (.loop L103)) cc103 (exec_block (e := .x 0) k2)) d103
def cCan : List PA → Bool := fun pas => match pas with | [.bs _ f, .pr s t] => decide (0 ≤ s) && decide (s < 64) && decide (0 < t) && decide (t < 64) | _ => false
def vCan : List PA → TV := fun pas => match pas with | [.bs _ f, .pr s t] => B (canQ f s.toNat t.toNat) | _ => anyT
noncomputable abbrev spCan : Spec := genS [.bs 64, .pr] cCan vCan fun _ => []
theorem ok103 : SpecOK PP (compC T) 103 spCan := ok_gen o103 (by kernel_rfl) fun pas hf hc => match pas, hf with
  | [.bs _ f, .pr s t], ⟨rfl, _, _⟩ => by
    unfold cCan at hc
    simp only [Bool.and_eq_true, decide_eq_true_eq] at hc
    obtain ⟨⟨⟨g1, g2⟩, g3⟩, g4⟩ := hc
    obtain ⟨k, rfl⟩ : ∃ k : Nat, s = Int.ofNat k := ⟨s.toNat, by simp; omega⟩
    obtain ⟨l, rfl⟩ : ∃ k : Nat, t = Int.ofNat k := ⟨t.toNat, by simp; omega⟩
    exact ⟨_, 0, .r, body103 (by simp at g2; omega) (by simp at g3; omega) (by simp at g4; omega), fun _ => rfl, by kernel_rfl, by kernel_rfl, by kernel_rfl⟩
end Go.Proofs.Yteekkjfjpoaihaa.Eng
namespace Go.Proofs.Yteekkjfjpoaihaa.Eng
open Go Go.Proofs
noncomputable def LBd : List (Nat × Spec) := [(73, spList), (101, spSize)]
theorem LBd_ok : SpecsL LBd := specsL_cons ok73 (genS_fp) o73 (specsL_cons ok101 (genS_fp) o101 (fun p hp => absurd hp (by simp)))
noncomputable abbrev gBd : Cal → Option Spec := specsΓ LBd
theorem envBd : EnvOK PP T gBd := envL LBd_ok
def wv (v : Nat) : Int := IntKind.u64.wrap (Int.ofNat v)
def bS (s v : Nat) : Bool := bitop .and .i64 ((Int.ofNat s).fdiv (2 ^ (min (wv v).toNat 64))) 1 == 1
def bA (s v : Nat) : Int := IntKind.u64.wrap (bitop .andNot .i64 (Int.ofNat s) (1 * 2 ^ (min (wv v).toNat 64)))
def bR (s v : Nat) : Int := IntKind.u64.wrap (1 * 2 ^ (min (bA s v).toNat 64))
/-- the row of a face -/
def rowI (s : Nat) : Nat → Int
  | 0 => 0
  | v + 1 => bif bS s v then bitop .or .u64 (rowI s v) (bR s v) else rowI s v
abbrev u6 (a : Int) : Slot := ⟨true, .av (.s (.int .u64 a))⟩
abbrev nlS : Slot := ⟨true, .av (.s .nils)⟩
abbrev cxO (n : Nat) (f : Nat → Bool) : HO := ⟨true, .row 103 [.int .i64 (Int.ofNat n), .any] 64 f⟩
abbrev lO (l : List Int) : HO := ⟨false, .ivec 3 .i64 1 l⟩
abbrev uO (q : List Int) : HO := ⟨false, .ivec 140 .u64 1 q⟩
def L105 : XC := x105.body.b.b.a.b.i.i
def M105 : XC := L105.b.b.a.i.b.b.b.a.b.i.i
theorem tab_b : ∀ s, s < 64 → ∀ v, v < 6 → (rng64 (1 * 2 ^ min (wv v).toNat 64) = true ∧ 0 ≤ wv v ∧ 0 ≤ bA s v) := of_decide_eq_true (by kernel_rfl)
abbrev S105A (n : Nat) (f : Nat → Bool) (l : List Int) (c i : Nat) : St := mkSt [(0, g1S 0), (1, iS c), (5, nlS), (14, s1S 1 l.length), (15, iS l.length), (16, iS i)] [cxO n f, lO l] 2 []
abbrev U105A (n : Nat) (f : Nat → Bool) (l : List Int) (c i s : Nat) : St := mkSt [(0, g1S 0), (1, iS c), (5, nlS), (14, s1S 1 l.length), (15, iS l.length), (16, iS i), (7, iS s)] [cxO n f, lO l] 2 []
abbrev V105A (n : Nat) (f : Nat → Bool) (l : List Int) (c i s v : Nat) (r : Int) : St := mkSt [(0, g1S 0), (1, iS c), (5, nlS), (14, s1S 1 l.length), (15, iS l.length), (16, iS i), (7, iS s), (8, u6 r), (27, iS n), (28, iS v)] [cxO n f, lO l] 2 []
theorem aA105 {n : Nat} {f : Nat → Bool} {l : List Int} {c i : Nat}  : Exec PP T none x105.nt 0 L105.a (S105A n f l c i) .n (mkSt [(0, g1S 0), (1, iS c), (5, nlS), (14, s1S 1 l.length), (15, iS l.length), (16, iS i), (17, ⟨true, B (decide (Int.ofNat i < Int.ofNat l.length))⟩)] [cxO n f, lO l] 2 []) := by
  refine exec_orun env0 false 60 [] [0, 1] (fun _ => rfl) (by kernel_rfl) (by kernel_rfl) (by kernel_rfl) (by kernel_rfl)
theorem b105A {n : Nat} {f : Nat → Bool} {l : List Int} {c i : Nat} (hi : i < l.length) : Exec PP T none x105.nt 0 L105.b.a (mkSt [(0, g1S 0), (1, iS c), (5, nlS), (14, s1S 1 l.length), (15, iS l.length), (16, iS i), (17, ⟨true, B (decide (Int.ofNat i < Int.ofNat l.length))⟩)] [cxO n f, lO l] 2 []) .n (S105A n f l c i) := by
  refine exec_orun env0 false 60 [true] [0, 1] (fun _ => rfl) (by kernel_rfl) (by kernel_rfl) (by kernel_rfl) ?_
  rw [(show obOf (orun g0 false 60 L105.b.a (mkSt [(0, g1S 0), (1, iS c), (5, nlS), (14, s1S 1 l.length), (15, iS l.length), (16, iS i), (17, ⟨true, B (decide (Int.ofNat i < Int.ofNat l.length))⟩)] [cxO n f, lO l] 2 []) [true]) = (decide (Int.ofNat i < Int.ofNat l.length) && true) from by kernel_rfl)]
  all_goals (first | rfl | (simp; done) | (simp; omega) | (simp [rng64]; done) | (simp [rng64]; omega) | (simp [rng64_eq]; omega))
theorem z105A {n : Nat} {f : Nat → Bool} {l : List Int} {c i : Nat} (hi : i = l.length) : Exec PP T none x105.nt 0 L105.b.a (mkSt [(0, g1S 0), (1, iS c), (5, nlS), (14, s1S 1 l.length), (15, iS l.length), (16, iS i), (17, ⟨true, B (decide (Int.ofNat i < Int.ofNat l.length))⟩)] [cxO n f, lO l] 2 []) (.x 0) (S105A n f l c i) := by
  refine exec_orun env0 false 60 [false] [0, 1] (fun _ => rfl) (by kernel_rfl) (by kernel_rfl) (by kernel_rfl) ?_
  rw [(show obOf (orun g0 false 60 L105.b.a (mkSt [(0, g1S 0), (1, iS c), (5, nlS), (14, s1S 1 l.length), (15, iS l.length), (16, iS i), (17, ⟨true, B (decide (Int.ofNat i < Int.ofNat l.length))⟩)] [cxO n f, lO l] 2 []) [false]) = (!decide (Int.ofNat i < Int.ofNat l.length) && true) from by kernel_rfl)]
  all_goals (first | rfl | (simp; done) | (simp; omega) | (simp [rng64]; done) | (simp [rng64]; omega) | (simp [rng64_eq]; omega))
theorem g105A {n : Nat} {f : Nat → Bool} {l : List Int} {c i : Nat} {s : Nat} (hi : i < l.length) (hs : l.getD (0 + (0 + i) * 1) 0 = Int.ofNat s) : Exec PP T none x105.nt 0 L105.b.b.a.i.a (S105A n f l c i) .n (mkSt [(0, g1S 0), (1, iS c), (5, nlS), (14, s1S 1 l.length), (15, iS l.length), (16, iS i), (7, iS (l.getD (0 + (0 + i) * 1) 0))] [cxO n f, lO l] 2 []) := by
  refine exec_orun env0 false 60 [] [0, 1] (fun _ => rfl) (by kernel_rfl) (by kernel_rfl) (by kernel_rfl) ?_
  rw [(show obOf (orun g0 false 60 L105.b.b.a.i.a (S105A n f l c i) []) = (decide (0 ≤ Int.ofNat i) && decide (Int.ofNat i < Int.ofNat l.length) && (decide (0 + (0 + i) * 1 < l.length) && true)) from by kernel_rfl)]
  simp
  omega
theorem h105A {n : Nat} {f : Nat → Bool} {l : List Int} {c i : Nat} {s : Nat} (hs : s < 64) (h : popc s ≠ c) : Exec PP T none x105.nt 0 L105.b.b.a.i.b.a (U105A n f l c i s) (.x 1) (S105A n f l c i) := by
  refine exec_orun envBd false 60 [true] [0, 1] (fun _ => rfl) (by kernel_rfl) (by kernel_rfl) (by kernel_rfl) ?_
  rw [(show obOf (orun gBd false 60 L105.b.b.a.i.b.a (U105A n f l c i s) [true]) = (decide (0 ≤ Int.ofNat s) && decide (Int.ofNat s < 64) && true && (Int.ofNat (popc s) != Int.ofNat c && true)) from by kernel_rfl)]
  all_goals (first | rfl | (simp; done) | (simp; omega) | (simp [rng64]; done) | (simp [rng64]; omega) | (simp [rng64_eq]; omega))
theorem i105A {n : Nat} {f : Nat → Bool} {l : List Int} {c i : Nat} {s : Nat} (hs : s < 64) (h : popc s = c) : Exec PP T none x105.nt 0 L105.b.b.a.i.b.a (U105A n f l c i s) .n (U105A n f l c i s) := by
  refine exec_orun envBd false 60 [false] [0, 1] (fun _ => rfl) (by kernel_rfl) (by kernel_rfl) (by kernel_rfl) ?_
  rw [(show obOf (orun gBd false 60 L105.b.b.a.i.b.a (U105A n f l c i s) [false]) = (decide (0 ≤ Int.ofNat s) && decide (Int.ofNat s < 64) && true && (!Int.ofNat (popc s) != Int.ofNat c && true)) from by kernel_rfl)]
  all_goals (first | rfl | (simp; done) | (simp; omega) | (simp [rng64]; done) | (simp [rng64]; omega) | (simp [rng64_eq]; omega))
theorem j105A {n : Nat} {f : Nat → Bool} {l : List Int} {c i : Nat} {s : Nat}  : Exec PP T none x105.nt 0 L105.b.b.a.i.b.b.a (U105A n f l c i s) .n (mkSt [(0, g1S 0), (1, iS c), (5, nlS), (14, s1S 1 l.length), (15, iS l.length), (16, iS i), (7, iS s), (8, u6 0)] [cxO n f, lO l] 2 []) := by
  refine exec_orun env0 false 60 [] [0, 1] (fun _ => rfl) (by kernel_rfl) (by kernel_rfl) (by kernel_rfl) (by kernel_rfl)
theorem k105A {n : Nat} {f : Nat → Bool} {l : List Int} {c i : Nat} {s : Nat}  : Exec PP T none x105.nt 0 L105.b.b.a.i.b.b.b.a.a (mkSt [(0, g1S 0), (1, iS c), (5, nlS), (14, s1S 1 l.length), (15, iS l.length), (16, iS i), (7, iS s), (8, u6 0)] [cxO n f, lO l] 2 []) .n (V105A n f l c i s 0 0) := by
  refine exec_orun env0 false 60 [] [0, 1] (fun _ => rfl) (by kernel_rfl) (by kernel_rfl) (by kernel_rfl) (by kernel_rfl)
theorem m105fA {n : Nat} {f : Nat → Bool} {l : List Int} {c i : Nat} {s v : Nat} {r : Int} (hs : s < 64) (hn : n ≤ 6) (hv : v < n) (h : bS s v = false) : Exec PP T none x105.nt 0 M105 (V105A n f l c i s v r) .n (V105A n f l c i s (v + 1) r) := by
  refine exec_prun env0 [(29, true), (36, false)] false 60 [0, 1] (by kernel_rfl) (by kernel_rfl) (by kernel_rfl) ?_
  rw [(show obOf (prun [(29, true), (36, false)] g0 false 60 M105 (V105A n f l c i s v r)) = (decide (Int.ofNat v < Int.ofNat n) == true && true && (decide (0 ≤ IntKind.u64.wrap (Int.ofNat v)) && ((bitop BinOp.and IntKind.i64 ((Int.ofNat s).fdiv (2 ^ min (IntKind.u64.wrap (Int.ofNat v)).toNat 64)) 1 == 1) == false && true) && true && (rng64 (Int.ofNat v.succ) && true))) from by kernel_rfl)]
  obtain ⟨t1, t2, t3⟩ := tab_b s hs v (by omega)
  have d1 : decide (0 ≤ wv v) = true := decide_eq_true t2
  have d2 : decide (0 ≤ bA s v) = true := decide_eq_true t3
  have d3 : rng64 (Int.ofNat v.succ) = true := by simp [rng64]; omega
  have d4 : decide (Int.ofNat v < Int.ofNat n) = true := by simp; omega
  unfold bS at h
  unfold bA at d2
  unfold wv at *
  rw [d1, h, d3, d4]
  try rw [t1, d2]
  rfl
theorem m105tA {n : Nat} {f : Nat → Bool} {l : List Int} {c i : Nat} {s v : Nat} {r : Int} (hs : s < 64) (hn : n ≤ 6) (hv : v < n) (h : bS s v = true) : Exec PP T none x105.nt 0 M105 (V105A n f l c i s v r) .n (V105A n f l c i s (v + 1) (bitop .or .u64 r (bR s v))) := by
  refine exec_prun env0 [(29, true), (36, true)] false 60 [0, 1] (by kernel_rfl) (by kernel_rfl) (by kernel_rfl) ?_
  rw [(show obOf (prun [(29, true), (36, true)] g0 false 60 M105 (V105A n f l c i s v r)) = (decide (Int.ofNat v < Int.ofNat n) == true && true && (decide (0 ≤ IntKind.u64.wrap (Int.ofNat v)) && ((bitop BinOp.and IntKind.i64 ((Int.ofNat s).fdiv (2 ^ min (IntKind.u64.wrap (Int.ofNat v)).toNat 64)) 1 == 1) == true && true) && (decide (0 ≤ IntKind.u64.wrap (Int.ofNat v)) && rng64 (1 * 2 ^ min (IntKind.u64.wrap (Int.ofNat v)).toNat 64) && (decide (0 ≤ IntKind.u64.wrap (bitop BinOp.andNot IntKind.i64 (Int.ofNat s) (1 * 2 ^ min (IntKind.u64.wrap (Int.ofNat v)).toNat 64))) && true)) && (rng64 (Int.ofNat v.succ) && true))) from by kernel_rfl)]
  obtain ⟨t1, t2, t3⟩ := tab_b s hs v (by omega)
  have d1 : decide (0 ≤ wv v) = true := decide_eq_true t2
  have d2 : decide (0 ≤ bA s v) = true := decide_eq_true t3
  have d3 : rng64 (Int.ofNat v.succ) = true := by simp [rng64]; omega
  have d4 : decide (Int.ofNat v < Int.ofNat n) = true := by simp; omega
  unfold bS at h
  unfold bA at d2
  unfold wv at *
  rw [d1, h, d3, d4]
  try rw [t1, d2]
  rfl
theorem mz105A {n : Nat} {f : Nat → Bool} {l : List Int} {c i : Nat} {s : Nat} {r : Int}  : Exec PP T none x105.nt 0 M105 (V105A n f l c i s n r) (.x 2) (V105A n f l c i s n r) := by
  refine exec_prun env0 [(29, false)] false 60 [0, 1] (by kernel_rfl) (by kernel_rfl) (by kernel_rfl) ?_
  rw [(show obOf (prun [(29, false)] g0 false 60 M105 (V105A n f l c i s n r)) = (decide (Int.ofNat n < Int.ofNat n) == false && true && true) from by kernel_rfl)]
  all_goals (first | rfl | (simp; done) | (simp; omega) | (simp [rng64]; done) | (simp [rng64]; omega) | (simp [rng64_eq]; omega))
theorem e105A {n : Nat} {f : Nat → Bool} {l : List Int} {c i : Nat} (hi : i < 64) : Exec PP T none x105.nt 0 L105.b.b.b (S105A n f l c i) .n (S105A n f l c (i + 1)) := by
  refine exec_orun env0 false 60 [] [0, 1] (fun _ => rfl) (by kernel_rfl) (by kernel_rfl) (by kernel_rfl) ?_
  rw [(show obOf (orun g0 false 60 L105.b.b.b (S105A n f l c i) []) = (rng64 (Int.ofNat i.succ) && true) from by kernel_rfl)]
  all_goals (first | rfl | (simp; done) | (simp; omega) | (simp [rng64]; done) | (simp [rng64]; omega) | (simp [rng64_eq]; omega))
theorem d105A {n : Nat} {f : Nat → Bool} {l : List Int} {c i : Nat}  : Exec PP T none x105.nt 0 x105.body.b.b.b (S105A n f l c i) .r (mkSt [(4, nlS)] [] 0 []) := by
  refine exec_orun env0 false 60 [] [] (fun _ => rfl) (by kernel_rfl) (by kernel_rfl) (by kernel_rfl) (by kernel_rfl)
abbrev S105B (n : Nat) (f : Nat → Bool) (l q : List Int) (c i m : Nat) : St := mkSt [(0, g1S 0), (1, iS c), (5, s1S 2 m), (14, s1S 1 l.length), (15, iS l.length), (16, iS i)] [cxO n f, lO l, uO q] 3 []
abbrev U105B (n : Nat) (f : Nat → Bool) (l q : List Int) (c i m s : Nat) : St := mkSt [(0, g1S 0), (1, iS c), (5, s1S 2 m), (14, s1S 1 l.length), (15, iS l.length), (16, iS i), (7, iS s)] [cxO n f, lO l, uO q] 3 []
abbrev V105B (n : Nat) (f : Nat → Bool) (l q : List Int) (c i m s v : Nat) (r : Int) : St := mkSt [(0, g1S 0), (1, iS c), (5, s1S 2 m), (14, s1S 1 l.length), (15, iS l.length), (16, iS i), (7, iS s), (8, u6 r), (27, iS n), (28, iS v)] [cxO n f, lO l, uO q] 3 []
theorem aB105 {n : Nat} {f : Nat → Bool} {l q : List Int} {c i m : Nat}  : Exec PP T none x105.nt 0 L105.a (S105B n f l q c i m) .n (mkSt [(0, g1S 0), (1, iS c), (5, s1S 2 m), (14, s1S 1 l.length), (15, iS l.length), (16, iS i), (17, ⟨true, B (decide (Int.ofNat i < Int.ofNat l.length))⟩)] [cxO n f, lO l, uO q] 3 []) := by
  refine exec_orun env0 false 60 [] [0, 1, 2] (fun _ => rfl) (by kernel_rfl) (by kernel_rfl) (by kernel_rfl) (by kernel_rfl)
theorem b105B {n : Nat} {f : Nat → Bool} {l q : List Int} {c i m : Nat} (hi : i < l.length) : Exec PP T none x105.nt 0 L105.b.a (mkSt [(0, g1S 0), (1, iS c), (5, s1S 2 m), (14, s1S 1 l.length), (15, iS l.length), (16, iS i), (17, ⟨true, B (decide (Int.ofNat i < Int.ofNat l.length))⟩)] [cxO n f, lO l, uO q] 3 []) .n (S105B n f l q c i m) := by
  refine exec_orun env0 false 60 [true] [0, 1, 2] (fun _ => rfl) (by kernel_rfl) (by kernel_rfl) (by kernel_rfl) ?_
  rw [(show obOf (orun g0 false 60 L105.b.a (mkSt [(0, g1S 0), (1, iS c), (5, s1S 2 m), (14, s1S 1 l.length), (15, iS l.length), (16, iS i), (17, ⟨true, B (decide (Int.ofNat i < Int.ofNat l.length))⟩)] [cxO n f, lO l, uO q] 3 []) [true]) = (decide (Int.ofNat i < Int.ofNat l.length) && true) from by kernel_rfl)]
  all_goals (first | rfl | (simp; done) | (simp; omega) | (simp [rng64]; done) | (simp [rng64]; omega) | (simp [rng64_eq]; omega))
theorem z105B {n : Nat} {f : Nat → Bool} {l q : List Int} {c i m : Nat} (hi : i = l.length) : Exec PP T none x105.nt 0 L105.b.a (mkSt [(0, g1S 0), (1, iS c), (5, s1S 2 m), (14, s1S 1 l.length), (15, iS l.length), (16, iS i), (17, ⟨true, B (decide (Int.ofNat i < Int.ofNat l.length))⟩)] [cxO n f, lO l, uO q] 3 []) (.x 0) (S105B n f l q c i m) := by
  refine exec_orun env0 false 60 [false] [0, 1, 2] (fun _ => rfl) (by kernel_rfl) (by kernel_rfl) (by kernel_rfl) ?_
  rw [(show obOf (orun g0 false 60 L105.b.a (mkSt [(0, g1S 0), (1, iS c), (5, s1S 2 m), (14, s1S 1 l.length), (15, iS l.length), (16, iS i), (17, ⟨true, B (decide (Int.ofNat i < Int.ofNat l.length))⟩)] [cxO n f, lO l, uO q] 3 []) [false]) = (!decide (Int.ofNat i < Int.ofNat l.length) && true) from by kernel_rfl)]
  all_goals (first | rfl | (simp; done) | (simp; omega) | (simp [rng64]; done) | (simp [rng64]; omega) | (simp [rng64_eq]; omega))
theorem g105B {n : Nat} {f : Nat → Bool} {l q : List Int} {c i m : Nat} {s : Nat} (hi : i < l.length) (hs : l.getD (0 + (0 + i) * 1) 0 = Int.ofNat s) : Exec PP T none x105.nt 0 L105.b.b.a.i.a (S105B n f l q c i m) .n (mkSt [(0, g1S 0), (1, iS c), (5, s1S 2 m), (14, s1S 1 l.length), (15, iS l.length), (16, iS i), (7, iS (l.getD (0 + (0 + i) * 1) 0))] [cxO n f, lO l, uO q] 3 []) := by
  refine exec_orun env0 false 60 [] [0, 1, 2] (fun _ => rfl) (by kernel_rfl) (by kernel_rfl) (by kernel_rfl) ?_
  rw [(show obOf (orun g0 false 60 L105.b.b.a.i.a (S105B n f l q c i m) []) = (decide (0 ≤ Int.ofNat i) && decide (Int.ofNat i < Int.ofNat l.length) && (decide (0 + (0 + i) * 1 < l.length) && true)) from by kernel_rfl)]
  simp
  omega
theorem h105B {n : Nat} {f : Nat → Bool} {l q : List Int} {c i m : Nat} {s : Nat} (hs : s < 64) (h : popc s ≠ c) : Exec PP T none x105.nt 0 L105.b.b.a.i.b.a (U105B n f l q c i m s) (.x 1) (S105B n f l q c i m) := by
  refine exec_orun envBd false 60 [true] [0, 1, 2] (fun _ => rfl) (by kernel_rfl) (by kernel_rfl) (by kernel_rfl) ?_
  rw [(show obOf (orun gBd false 60 L105.b.b.a.i.b.a (U105B n f l q c i m s) [true]) = (decide (0 ≤ Int.ofNat s) && decide (Int.ofNat s < 64) && true && (Int.ofNat (popc s) != Int.ofNat c && true)) from by kernel_rfl)]
  all_goals (first | rfl | (simp; done) | (simp; omega) | (simp [rng64]; done) | (simp [rng64]; omega) | (simp [rng64_eq]; omega))
theorem i105B {n : Nat} {f : Nat → Bool} {l q : List Int} {c i m : Nat} {s : Nat} (hs : s < 64) (h : popc s = c) : Exec PP T none x105.nt 0 L105.b.b.a.i.b.a (U105B n f l q c i m s) .n (U105B n f l q c i m s) := by
  refine exec_orun envBd false 60 [false] [0, 1, 2] (fun _ => rfl) (by kernel_rfl) (by kernel_rfl) (by kernel_rfl) ?_
  rw [(show obOf (orun gBd false 60 L105.b.b.a.i.b.a (U105B n f l q c i m s) [false]) = (decide (0 ≤ Int.ofNat s) && decide (Int.ofNat s < 64) && true && (!Int.ofNat (popc s) != Int.ofNat c && true)) from by kernel_rfl)]
  all_goals (first | rfl | (simp; done) | (simp; omega) | (simp [rng64]; done) | (simp [rng64]; omega) | (simp [rng64_eq]; omega))
theorem j105B {n : Nat} {f : Nat → Bool} {l q : List Int} {c i m : Nat} {s : Nat}  : Exec PP T none x105.nt 0 L105.b.b.a.i.b.b.a (U105B n f l q c i m s) .n (mkSt [(0, g1S 0), (1, iS c), (5, s1S 2 m), (14, s1S 1 l.length), (15, iS l.length), (16, iS i), (7, iS s), (8, u6 0)] [cxO n f, lO l, uO q] 3 []) := by
  refine exec_orun env0 false 60 [] [0, 1, 2] (fun _ => rfl) (by kernel_rfl) (by kernel_rfl) (by kernel_rfl) (by kernel_rfl)
theorem k105B {n : Nat} {f : Nat → Bool} {l q : List Int} {c i m : Nat} {s : Nat}  : Exec PP T none x105.nt 0 L105.b.b.a.i.b.b.b.a.a (mkSt [(0, g1S 0), (1, iS c), (5, s1S 2 m), (14, s1S 1 l.length), (15, iS l.length), (16, iS i), (7, iS s), (8, u6 0)] [cxO n f, lO l, uO q] 3 []) .n (V105B n f l q c i m s 0 0) := by
  refine exec_orun env0 false 60 [] [0, 1, 2] (fun _ => rfl) (by kernel_rfl) (by kernel_rfl) (by kernel_rfl) (by kernel_rfl)
theorem m105fB {n : Nat} {f : Nat → Bool} {l q : List Int} {c i m : Nat} {s v : Nat} {r : Int} (hs : s < 64) (hn : n ≤ 6) (hv : v < n) (h : bS s v = false) : Exec PP T none x105.nt 0 M105 (V105B n f l q c i m s v r) .n (V105B n f l q c i m s (v + 1) r) := by
  refine exec_prun env0 [(29, true), (36, false)] false 60 [0, 1, 2] (by kernel_rfl) (by kernel_rfl) (by kernel_rfl) ?_
  rw [(show obOf (prun [(29, true), (36, false)] g0 false 60 M105 (V105B n f l q c i m s v r)) = (decide (Int.ofNat v < Int.ofNat n) == true && true && (decide (0 ≤ IntKind.u64.wrap (Int.ofNat v)) && ((bitop BinOp.and IntKind.i64 ((Int.ofNat s).fdiv (2 ^ min (IntKind.u64.wrap (Int.ofNat v)).toNat 64)) 1 == 1) == false && true) && true && (rng64 (Int.ofNat v.succ) && true))) from by kernel_rfl)]
  obtain ⟨t1, t2, t3⟩ := tab_b s hs v (by omega)
  have d1 : decide (0 ≤ wv v) = true := decide_eq_true t2
  have d2 : decide (0 ≤ bA s v) = true := decide_eq_true t3
  have d3 : rng64 (Int.ofNat v.succ) = true := by simp [rng64]; omega
  have d4 : decide (Int.ofNat v < Int.ofNat n) = true := by simp; omega
  unfold bS at h
  unfold bA at d2
  unfold wv at *
  rw [d1, h, d3, d4]
  try rw [t1, d2]
  rfl
theorem m105tB {n : Nat} {f : Nat → Bool} {l q : List Int} {c i m : Nat} {s v : Nat} {r : Int} (hs : s < 64) (hn : n ≤ 6) (hv : v < n) (h : bS s v = true) : Exec PP T none x105.nt 0 M105 (V105B n f l q c i m s v r) .n (V105B n f l q c i m s (v + 1) (bitop .or .u64 r (bR s v))) := by
  refine exec_prun env0 [(29, true), (36, true)] false 60 [0, 1, 2] (by kernel_rfl) (by kernel_rfl) (by kernel_rfl) ?_
  rw [(show obOf (prun [(29, true), (36, true)] g0 false 60 M105 (V105B n f l q c i m s v r)) = (decide (Int.ofNat v < Int.ofNat n) == true && true && (decide (0 ≤ IntKind.u64.wrap (Int.ofNat v)) && ((bitop BinOp.and IntKind.i64 ((Int.ofNat s).fdiv (2 ^ min (IntKind.u64.wrap (Int.ofNat v)).toNat 64)) 1 == 1) == true && true) && (decide (0 ≤ IntKind.u64.wrap (Int.ofNat v)) && rng64 (1 * 2 ^ min (IntKind.u64.wrap (Int.ofNat v)).toNat 64) && (decide (0 ≤ IntKind.u64.wrap (bitop BinOp.andNot IntKind.i64 (Int.ofNat s) (1 * 2 ^ min (IntKind.u64.wrap (Int.ofNat v)).toNat 64))) && true)) && (rng64 (Int.ofNat v.succ) && true))) from by kernel_rfl)]
  obtain ⟨t1, t2, t3⟩ := tab_b s hs v (by omega)
  have d1 : decide (0 ≤ wv v) = true := decide_eq_true t2
  have d2 : decide (0 ≤ bA s v) = true := decide_eq_true t3
  have d3 : rng64 (Int.ofNat v.succ) = true := by simp [rng64]; omega
  have d4 : decide (Int.ofNat v < Int.ofNat n) = true := by simp; omega
  unfold bS at h
  unfold bA at d2
  unfold wv at *
  rw [d1, h, d3, d4]
  try rw [t1, d2]
  rfl
theorem mz105B {n : Nat} {f : Nat → Bool} {l q : List Int} {c i m : Nat} {s : Nat} {r : Int}  : Exec PP T none x105.nt 0 M105 (V105B n f l q c i m s n r) (.x 2) (V105B n f l q c i m s n r) := by
  refine exec_prun env0 [(29, false)] false 60 [0, 1, 2] (by kernel_rfl) (by kernel_rfl) (by kernel_rfl) ?_
  rw [(show obOf (prun [(29, false)] g0 false 60 M105 (V105B n f l q c i m s n r)) = (decide (Int.ofNat n < Int.ofNat n) == false && true && true) from by kernel_rfl)]
  all_goals (first | rfl | (simp; done) | (simp; omega) | (simp [rng64]; done) | (simp [rng64]; omega) | (simp [rng64_eq]; omega))
theorem p105B {n : Nat} {f : Nat → Bool} {l q : List Int} {c i m : Nat} {s v : Nat} {r : Int} (hq : q.length = m * 1) (hm : m ≤ 100) : Exec PP T none x105.nt 0 L105.b.b.a.i.b.b.b.b (V105B n f l q c i m s v r) .n (S105B n f l (q.take (m * 1) ++ [r]) c i (m + 1)) := by
  refine exec_orun env0 false 60 [] [0, 1, 4] (fun _ => rfl) (by kernel_rfl) (by kernel_rfl) (by kernel_rfl) ?_
  rw [(show obOf (orun g0 false 60 L105.b.b.a.i.b.b.b.b (V105B n f l q c i m s v r) []) = (decide (1 ≤ 1) && decide (m * 1 ≤ q.length) && decide (m.succ ≤ 1000000000) && true && true && true) from by kernel_rfl)]
  all_goals (first | rfl | (simp; done) | (simp; omega) | (simp [rng64]; done) | (simp [rng64]; omega) | (simp [rng64_eq]; omega))
theorem e105B {n : Nat} {f : Nat → Bool} {l q : List Int} {c i m : Nat} (hi : i < 64) : Exec PP T none x105.nt 0 L105.b.b.b (S105B n f l q c i m) .n (S105B n f l q c (i + 1) m) := by
  refine exec_orun env0 false 60 [] [0, 1, 2] (fun _ => rfl) (by kernel_rfl) (by kernel_rfl) (by kernel_rfl) ?_
  rw [(show obOf (orun g0 false 60 L105.b.b.b (S105B n f l q c i m) []) = (rng64 (Int.ofNat i.succ) && true) from by kernel_rfl)]
  all_goals (first | rfl | (simp; done) | (simp; omega) | (simp [rng64]; done) | (simp [rng64]; omega) | (simp [rng64_eq]; omega))
theorem d105B {n : Nat} {f : Nat → Bool} {l q : List Int} {c i m : Nat}  : Exec PP T none x105.nt 0 x105.body.b.b.b (S105B n f l q c i m) .r (mkSt [(4, s1S 0 m)] [uO q] 1 []) := by
  refine exec_orun env0 false 60 [] [2] (fun _ => rfl) (by kernel_rfl) (by kernel_rfl) (by kernel_rfl) (by kernel_rfl)
theorem p105A {n : Nat} {f : Nat → Bool} {l : List Int} {c i : Nat} {s v : Nat} {r : Int}  : Exec PP T none x105.nt 0 L105.b.b.a.i.b.b.b.b (V105A n f l c i s v r) .n (S105B n f l [r] c i 1) := by
  refine exec_orun env0 false 60 [] [0, 1, 3] (fun _ => rfl) (by kernel_rfl) (by kernel_rfl) (by kernel_rfl) ?_
  rw [(show obOf (orun g0 false 60 L105.b.b.a.i.b.b.b.b (V105A n f l c i s v r) []) = (decide (1 ≤ 1) && true && true && true && true) from by kernel_rfl)]
  all_goals (first | rfl | (simp; done) | (simp; omega) | (simp [rng64]; done) | (simp [rng64]; omega) | (simp [rng64_eq]; omega))
theorem a105 {n : Nat} {f : Nat → Bool} {c : Nat}  : Exec PP T none x105.nt 0 x105.body.a (startSt [.s (.ptr 0 0 0), .s (.int .i64 (Int.ofNat c))] [cxO n f]) .n (mkSt [(0, g1S 0), (1, iS c)] [cxO n f] 1 []) := by
  refine exec_orun env0 false 60 [] [0] (fun _ => rfl) (by kernel_rfl) (by kernel_rfl) (by kernel_rfl) (by kernel_rfl)
theorem b105 {n : Nat} {f : Nat → Bool} {c : Nat}  : Exec PP T none x105.nt 0 x105.body.b.a (mkSt [(0, g1S 0), (1, iS c)] [cxO n f] 1 []) .n (mkSt [(0, g1S 0), (1, iS c), (5, nlS)] [cxO n f] 1 []) := by
  refine exec_orun env0 false 60 [] [0] (fun _ => rfl) (by kernel_rfl) (by kernel_rfl) (by kernel_rfl) (by kernel_rfl)
theorem cc105 {n : Nat} {f : Nat → Bool} {c : Nat}  : Exec PP T none x105.nt 0 x105.body.b.b.a.a (mkSt [(0, g1S 0), (1, iS c), (5, nlS)] [cxO n f] 1 []) .n (S105A n f (lstF f 64) c 0) := by
  refine exec_orun envBd false 60 [] [0, 1] (fun _ => rfl) (by kernel_rfl) (by kernel_rfl) (by kernel_rfl) (by kernel_rfl)
theorem inA {n : Nat} {f : Nat → Bool} {l : List Int} {c i s : Nat} (hs : s < 64) (hn : n ≤ 6) : Exec PP T none x105.nt 0 L105.b.b.a.i.b.b.b.a (mkSt [(0, g1S 0), (1, iS c), (5, nlS), (14, s1S 1 l.length), (15, iS l.length), (16, iS i), (7, iS s), (8, u6 0)] [cxO n f, lO l] 2 []) .n (V105A n f l c i s n (rowI s n)) := by
  refine exec_seq (x := L105.b.b.a.i.b.b.b.a.a) (y := .block 2 (.loop M105)) k105A (exec_block (e := .x 2) (S1 := V105A n f l c i s n (rowI s n)) ?_)
  exact exec_loop_up (fun v => V105A n f l c i s v (rowI s v)) n (fun v hv => by
    cases h : bS s v with
    | false =>
      have e : rowI s (v + 1) = rowI s v := by show (bif bS s v then bitop .or .u64 (rowI s v) (bR s v) else rowI s v) = _; rw [h, cond_false]
      simp only [e]
      exact m105fA hs hn hv h
    | true =>
      have e : rowI s (v + 1) = bitop .or .u64 (rowI s v) (bR s v) := by show (bif bS s v then bitop .or .u64 (rowI s v) (bR s v) else rowI s v) = _; rw [h, cond_true]
      simp only [e]
      exact m105tA hs hn hv h) mz105A (by simp) 0 (by omega)
theorem inB {n : Nat} {f : Nat → Bool} {l q : List Int} {c i m s : Nat} (hs : s < 64) (hn : n ≤ 6) : Exec PP T none x105.nt 0 L105.b.b.a.i.b.b.b.a (mkSt [(0, g1S 0), (1, iS c), (5, s1S 2 m), (14, s1S 1 l.length), (15, iS l.length), (16, iS i), (7, iS s), (8, u6 0)] [cxO n f, lO l, uO q] 3 []) .n (V105B n f l q c i m s n (rowI s n)) := by
  refine exec_seq (x := L105.b.b.a.i.b.b.b.a.a) (y := .block 2 (.loop M105)) k105B (exec_block (e := .x 2) (S1 := V105B n f l q c i m s n (rowI s n)) ?_)
  exact exec_loop_up (fun v => V105B n f l q c i m s v (rowI s v)) n (fun v hv => by
    cases h : bS s v with
    | false =>
      have e : rowI s (v + 1) = rowI s v := by show (bif bS s v then bitop .or .u64 (rowI s v) (bR s v) else rowI s v) = _; rw [h, cond_false]
      simp only [e]
      exact m105fB hs hn hv h
    | true =>
      have e : rowI s (v + 1) = bitop .or .u64 (rowI s v) (bR s v) := by show (bif bS s v then bitop .or .u64 (rowI s v) (bR s v) else rowI s v) = _; rw [h, cond_true]
      simp only [e]
      exact m105tB hs hn hv h) mz105B (by simp) 0 (by omega)
/-- the rows of the first faces -/
def borQ (l : List Int) (n c : Nat) : Nat → List Int
  | 0 => []
  | i + 1 => bif Nat.beq (popc (l.getD i 0).toNat) c then borQ l n c i ++ [rowI (l.getD i 0).toNat n] else borQ l n c i
theorem borQ_len (l : List Int) (n c : Nat) : ∀ i, (borQ l n c i).length ≤ i
  | 0 => Nat.le_refl _
  | i + 1 => by
    have := borQ_len l n c i
    unfold borQ
    cases Nat.beq (popc (l.getD i 0).toNat) c <;> simp <;> omega
def st105 (n : Nat) (f : Nat → Bool) (l : List Int) (c i : Nat) : List Int → St
  | [] => S105A n f l c i
  | a :: r => S105B n f l (a :: r) c i (r.length + 1)
theorem step105 {n : Nat} {f : Nat → Bool} {l : List Int} {c i : Nat} (hn : n ≤ 6) (hl : l.length ≤ 64) (hi : i < l.length) (hx : 0 ≤ l.getD i 0 ∧ l.getD i 0 < 64) : Exec PP T none x105.nt 0 L105 (st105 n f l c i (borQ l n c i)) .n (st105 n f l c (i + 1) (borQ l n c (i + 1))) := by
  have e0 : 0 + (0 + i) * 1 = i := by omega
  have e1 : l.getD i 0 = Int.ofNat (l.getD i 0).toNat := (Int.toNat_of_nonneg hx.1).symm
  have hs : (l.getD i 0).toNat < 64 := by omega
  have hlen := borQ_len l n c i
  have hb : borQ l n c (i + 1) = bif Nat.beq (popc (l.getD i 0).toNat) c then borQ l n c i ++ [rowI (l.getD i 0).toNat n] else borQ l n c i := rfl
  rw [hb]
  generalize hs' : (l.getD i 0).toNat = s at *
  cases hq : borQ l n c i with
  | nil =>
    have hg := g105A (n := n) (f := f) (c := c) (s := s) hi (by rw [e0]; exact e1)
    rw [e0, e1] at hg
    refine exec_seq (x := L105.a) (y := L105.b) aA105 (exec_seq (x := L105.b.a) (y := L105.b.b) (b105A hi) ?_)
    by_cases hc : popc s = c
    · rw [beqT hc, cond_true]
      exact exec_seq (x := .block 1 L105.b.b.a.i) (y := L105.b.b.b) (exec_block (id := 1) (x := L105.b.b.a.i) (e := .n) (exec_seq (x := L105.b.b.a.i.a) (y := L105.b.b.a.i.b) hg (exec_seq (x := L105.b.b.a.i.b.a) (y := L105.b.b.a.i.b.b) (i105A hs hc) (exec_seq (x := L105.b.b.a.i.b.b.a) (y := L105.b.b.a.i.b.b.b) j105A (exec_seq (x := L105.b.b.a.i.b.b.b.a) (y := L105.b.b.a.i.b.b.b.b) (inA hs hn) p105A))))) (e105B (by omega))
    · rw [beqF hc, cond_false]
      exact exec_seq (x := .block 1 L105.b.b.a.i) (y := L105.b.b.b) (exec_block (id := 1) (x := L105.b.b.a.i) (e := .x 1) (exec_seq (x := L105.b.b.a.i.a) (y := L105.b.b.a.i.b) hg (exec_seq_x (x := L105.b.b.a.i.b.a) (y := L105.b.b.a.i.b.b) (h105A hs hc) (by simp)))) (e105A (by omega))
  | cons a r =>
    rw [hq] at hlen
    have hg := g105B (n := n) (f := f) (q := a :: r) (c := c) (m := r.length + 1) (s := s) hi (by rw [e0]; exact e1)
    rw [e0, e1] at hg
    refine exec_seq (x := L105.a) (y := L105.b) aB105 (exec_seq (x := L105.b.a) (y := L105.b.b) (b105B hi) ?_)
    by_cases hc : popc s = c
    · rw [beqT hc, cond_true]
      have hp := p105B (n := n) (f := f) (l := l) (q := a :: r) (c := c) (i := i) (m := r.length + 1) (s := s) (v := n) (r := rowI s n) (by simp) (by simp at hlen; omega)
      have ht : (a :: r).take ((r.length + 1) * 1) = a :: r := List.take_of_length_le (by simp)
      rw [ht] at hp
      have he := e105B (n := n) (f := f) (l := l) (q := a :: r ++ [rowI s n]) (c := c) (i := i) (m := r.length + 1 + 1) (by omega)
      refine exec_eq (exec_seq (x := .block 1 L105.b.b.a.i) (y := L105.b.b.b) (exec_block (id := 1) (x := L105.b.b.a.i) (e := .n) (exec_seq (x := L105.b.b.a.i.a) (y := L105.b.b.a.i.b) hg (exec_seq (x := L105.b.b.a.i.b.a) (y := L105.b.b.a.i.b.b) (i105B hs hc) (exec_seq (x := L105.b.b.a.i.b.b.a) (y := L105.b.b.a.i.b.b.b) j105B (exec_seq (x := L105.b.b.a.i.b.b.b.a) (y := L105.b.b.a.i.b.b.b.b) (inB hs hn) hp))))) he) ?_
      show S105B n f l (a :: r ++ [rowI s n]) c (i + 1) (r.length + 1 + 1) = S105B n f l (a :: (r ++ [rowI s n])) c (i + 1) ((r ++ [rowI s n]).length + 1)
      rw [List.length_append]
      rfl
    · rw [beqF hc, cond_false]
      exact exec_seq (x := .block 1 L105.b.b.a.i) (y := L105.b.b.b) (exec_block (id := 1) (x := L105.b.b.a.i) (e := .x 1) (exec_seq (x := L105.b.b.a.i.a) (y := L105.b.b.a.i.b) hg (exec_seq_x (x := L105.b.b.a.i.b.a) (y := L105.b.b.a.i.b.b) (h105B hs hc) (by simp)))) (e105B (by omega))
theorem exit105 {n : Nat} {f : Nat → Bool} {l : List Int} {c : Nat} {q : List Int} : Exec PP T none x105.nt 0 L105 (st105 n f l c l.length q) (.x 0) (st105 n f l c l.length q) := by
  cases q with
  | nil => exact exec_seq (x := L105.a) (y := L105.b) aA105 (exec_seq_x (x := L105.b.a) (y := L105.b.b) (z105A rfl) (by simp))
  | cons a r => exact exec_seq (x := L105.a) (y := L105.b) aB105 (exec_seq_x (x := L105.b.a) (y := L105.b.b) (z105B rfl) (by simp))
theorem lstF_at {f : Nat → Bool} {k i : Nat} (h : i < (lstF f k).length) : 0 ≤ (lstF f k).getD i 0 ∧ (lstF f k).getD i 0 < k := by
  have hm : (lstF f k).getD i 0 ∈ lstF f k := by rw [List.getD_eq_getElem?_getD, List.getElem?_eq_getElem h]; simp
  generalize (lstF f k).getD i 0 = x at hm
  unfold lstF at hm
  simp only [List.mem_map, List.mem_filter, List.mem_range] at hm
  obtain ⟨j, ⟨h1, _⟩, rfl⟩ := hm
  simp
  omega
def borL (f : Nat → Bool) (n c : Nat) : List Int := borQ (lstF f 64) n c (lstF f 64).length
theorem loop105 {n : Nat} {f : Nat → Bool} {c : Nat} (hn : n ≤ 6) : Exec PP T none x105.nt 0 x105.body.b.b.a (mkSt [(0, g1S 0), (1, iS c), (5, nlS)] [cxO n f] 1 []) .n (st105 n f (lstF f 64) c (lstF f 64).length (borL f n c)) := by
  refine exec_seq (x := x105.body.b.b.a.a) (y := .block 0 (.loop L105)) cc105 (exec_block (e := .x 0) (S1 := st105 n f (lstF f 64) c (lstF f 64).length (borL f n c)) ?_)
  exact exec_loop_up (fun i => st105 n f (lstF f 64) c i (borQ (lstF f 64) n c i)) (lstF f 64).length (fun i hi => step105 hn (lstF_len f 64) hi (lstF_at hi)) exit105 (by simp) 0 (by omega)
/-- a function of a complex (its faces) and a number -/
def cxR (args : List AV) (h : Nat → Option HO) : Option (Int × (Nat → Bool) × Int × Nat) := match args with
  | [.s (.ptr g 0 0), .s (.int .i64 c)] => match h g with
    | some ⟨_, .row 103 [.int .i64 n, _] 64 f⟩ => some (n, f, c, g)
    | _ => none
  | _ => none
noncomputable def spBor : Spec where
  run := fun args h base => match cxR args h with
    | some (n, f, c, g) => some (match borL f n.toNat c.toNat with
      | [] => ⟨decide (0 ≤ n) && decide (n ≤ 6) && decide (0 ≤ c), .av (.s .nils), [], [], some [g]⟩
      | a :: r => ⟨decide (0 ≤ n) && decide (n ≤ 6) && decide (0 ≤ c), .av (.s (.sl (base + 0) 0 1 (r.length + 1))), [], [uO (a :: r)], some [g]⟩)
    | none => none
theorem cxR_fp {args : List AV} {h h' : Nat → Option HO} {q : Int × (Nat → Bool) × Int × Nat} (hr : cxR args h = some q) (hf : h' q.2.2.2 = h q.2.2.2) : cxR args h' = some q := by
  unfold cxR at hr ⊢
  split at hr
  · split at hr
    · rename_i hg
      cases hr
      simp only at hf
      simp only [hf, hg]
    · cases hr
  · cases hr
theorem spBor_fp : SpecFp spBor := by
  intro args h h' base e hr hf
  simp only [spBor] at hr ⊢
  cases hc : cxR args h with
  | none => rw [hc] at hr; cases hr
  | some q =>
    obtain ⟨n, f, c, g⟩ := q
    rw [hc] at hr
    simp only at hr
    have : cxR args h' = some (n, f, c, g) := cxR_fp hc (by
      cases hb : borL f n.toNat c.toNat with
      | nil =>
        rw [hb] at hr
        cases hr
        exact hf g (List.mem_singleton.2 rfl)
      | cons a r =>
        rw [hb] at hr
        cases hr
        exact hf g (List.mem_singleton.2 rfl))
    rw [this]
    exact hr
theorem view_cx {cmp : Cmp} {ctx : Ctx} {m : MM} {h : Nat → Option HO} {w : World} {id : Nat} {v : Value} {ro : Bool} {ty : TypeId} {n : Int} {sv : SV} {k : Nat} {f : Nat → Bool} (hH : HRel cmp ctx m h w) (hv : AR m (.s (.ptr id 0 0)) v) (hs : h id = some ⟨ro, .row ty [.int .i64 n, sv] k f⟩) :
    ∃ mb : MB, (∀ m', OR cmp m' mb (.row ty [.int .i64 n, .any] k f) w) ∧ (∀ b, mb.b = some b → b < w.heap.size) ∧ (∀ (m' : MM) id', m' id' = some mb → SR m' (.ptr id' 0 0) v) := by
  obtain ⟨mb, b, hm, hb, rfl⟩ := hv
  obtain ⟨mb', h1, h2, h3, _⟩ := hH.obj id _ hs
  rw [hm] at h1
  cases h1
  refine ⟨mb, fun m' => ?_, fun b' hb' => h3 rfl b' hb', fun m' id' hm' => ⟨mb, b, hm', hb, rfl⟩⟩
  obtain ⟨b', cs, e1, e2, e3, vs, e4, e5, e6⟩ := h2
  refine ⟨b', cs, e1, e2, e3, vs, ?_, e5, e6⟩
  match vs, e4 with
  | [u, u'], ⟨hu, _, _⟩ => exact ⟨hu, trivial, trivial⟩
theorem body105 {n : Nat} {f : Nat → Bool} {c : Nat} (hn : n ≤ 6) : (borL f n c = [] → Exec PP T none x105.nt 0 x105.body (startSt [.s (.ptr 0 0 0), .s (.int .i64 (Int.ofNat c))] [cxO n f]) .r (mkSt [(4, nlS)] [] 0 [])) ∧ (∀ a r, borL f n c = a :: r → Exec PP T none x105.nt 0 x105.body (startSt [.s (.ptr 0 0 0), .s (.int .i64 (Int.ofNat c))] [cxO n f]) .r (mkSt [(4, s1S 0 (r.length + 1))] [uO (a :: r)] 1 [])) := by
  have key := loop105 (n := n) (f := f) (c := c) hn
  refine ⟨fun h => ?_, fun a r h => ?_⟩
  · rw [h] at key
    exact exec_seq (x := x105.body.a) (y := x105.body.b) a105 (exec_seq (x := x105.body.b.a) (y := x105.body.b.b) b105 (exec_seq (x := x105.body.b.b.a) (y := x105.body.b.b.b) key d105A))
  · rw [h] at key
    exact exec_seq (x := x105.body.a) (y := x105.body.b) a105 (exec_seq (x := x105.body.b.a) (y := x105.body.b.b) b105 (exec_seq (x := x105.body.b.b.a) (y := x105.body.b.b.b) key d105B))
theorem ok105 : SpecOK PP (compC T) 105 spBor := by
  refine spec_gen tokP o105 fun ctx m h w args vals base e hH hargs hr hvc => ?_
  simp only [spBor] at hr
  cases hc : cxR args h with
  | none => rw [hc] at hr; cases hr
  | some q =>
  obtain ⟨n, f, c, g⟩ := q
  rw [hc] at hr
  simp only at hr
  unfold cxR at hc
  split at hc
  case h_2 => cases hc
  split at hc
  case h_2 => cases hc
  rename_i ro n' sv f' hg
  cases hc
  have hcn : (decide (0 ≤ n) && decide (n ≤ 6) && decide (0 ≤ c)) = true := by
    cases hb : borL f n.toNat c.toNat with
    | nil => rw [hb] at hr; cases hr; exact hvc
    | cons a r => rw [hb] at hr; cases hr; exact hvc
  simp only [Bool.and_eq_true, decide_eq_true_eq] at hcn
  obtain ⟨k, rfl⟩ : ∃ k : Nat, n = Int.ofNat k := ⟨n.toNat, by simp; omega⟩
  obtain ⟨j, rfl⟩ : ∃ k : Nat, c = Int.ofNat k := ⟨c.toNat, by simp; omega⟩
  have hk : k ≤ 6 := by have := hcn.1.2; simp at this; omega
  have hbody := body105 (f := f) (c := j) hk
  match vals, hargs with
  | [v1, v2], ⟨ha1, ha2, _⟩ =>
    obtain ⟨mb, k1, k2, k3⟩ := view_cx hH ha1 hg
    have hall : All2 (AR (mm1 mb)) [.s (.ptr 0 0 0), .s (.int .i64 (Int.ofNat j))] [v1, v2] := ⟨k3 (mm1 mb) 0 rfl, ha2, trivial⟩
    cases hb : borL f k j with
    | nil =>
      rw [show borL f (Int.ofNat k).toNat (Int.ofNat j).toNat = [] from hb] at hr
      cases hr
      refine ⟨rfl, mm1 mb, [cxO k f], [.s (.ptr 0 0 0), .s (.int .i64 (Int.ofNat j))], ?_⟩
      exact shown_news (hs' := []) (tv := .av (.s .nils)) (base := base) (ro1 k1 k2) hall (by kernel_rfl) (hbody.1 hb) (fun _ => rfl) (by kernel_rfl) (by kernel_rfl) (by kernel_rfl)
    | cons a r =>
      rw [show borL f (Int.ofNat k).toNat (Int.ofNat j).toNat = a :: r from hb] at hr
      cases hr
      refine ⟨rfl, mm1 mb, [cxO k f], [.s (.ptr 0 0 0), .s (.int .i64 (Int.ofNat j))], ?_⟩
      exact shown_news (hs' := [uO (a :: r)]) (tv := .av (.s (.sl 0 0 1 (r.length + 1)))) (base := base) (ro1 k1 k2) hall (by kernel_rfl) (hbody.2 a r hb) (fun _ => rfl) (by kernel_rfl) (by kernel_rfl) (by kernel_rfl)
end Go.Proofs.Yteekkjfjpoaihaa.Eng

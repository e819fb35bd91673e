/- A part of the proof of topChains_holds. -/
import Derived.Test.YteekkjfjpoaihaaOt10
set_option linter.all false
namespace Go.Proofs.Yteekkjfjpoaihaa.Eng
open Go Go.Proofs
/-- a function of a list of rows of bits that is not nil -/
noncomputable def spU (c : List Int → Nat → Bool) (v : List Int → Nat → TV) (news : List Int → Nat → List HO) : Spec where
  run := fun args h base => match args with
    | [a] => match srcOf (.av a) h .u64 1 with
      | some (vc, q, m, rd) => some ⟨vc && (decide (0 < m) && c q m), (v q m).ren (renN (List.range (news q m).length) base), [], (news q m).map fun ho => ho.ren (renN (List.range (news q m).length) base), some rd⟩
      | none => none
    | _ => none
theorem spU_fp {c : List Int → Nat → Bool} {v : List Int → Nat → TV} {news : List Int → Nat → List HO} : SpecFp (spU c v news) := by
  intro args h h' base e hr hf
  simp only [spU] at hr ⊢
  split at hr
  case h_2 => cases hr
  split at hr
  · rename_i hs
    cases hr
    simp only [srcOf_fp hs hf]
  · cases hr
abbrev uX (q : List Int) : List HO := [⟨true, .xvec .u64 1 q⟩]
theorem okU {f : FuncId} {x : XFn} (hx : FunOK PP T f x) {c : List Int → Nat → Bool} {v : List Int → Nat → TV} {news : List Int → Nat → List HO} (hlen : Nat.ble 1 x.nt = true)
    (hrun : ∀ q m, q.length = m → 0 < m → c q m = true → ∃ ts nx, Exec PP T none x.nt 0 x.body (startSt [.s (.sl 0 0 1 m)] (uX q)) .r (mkSt ts (news q m) nx []) ∧ resV (mkSt ts (news q m) nx []).sl.get (mkSt ts (news q m) nx []).hp.get x.res = some (true, v q m) ∧ (v q m).ids.all (fun j => Nat.blt j (news q m).length) = true ∧ (news q m).all (fun ho => !ho.ro && ho.live && !ho.o.isLoop && ho.o.ids.all fun j => Nat.blt j (news q m).length) = true) : SpecOK PP (compC T) f (spU c v news) := by
  refine spec_gen tokP hx fun ctx m hh w args vals base e hH hargs hr hvc => ?_
  simp only [spU] at hr
  split at hr
  case h_2 => cases hr
  rename_i a
  split at hr
  case h_2 => cases hr
  rename_i vc q mm rd hs
  cases hr
  simp only [Bool.and_eq_true, decide_eq_true_eq] at hvc
  obtain ⟨rfl, h0, hc⟩ := hvc
  match vals, hargs with
  | [v1], ⟨ha1, _⟩ =>
    obtain ⟨mb, k1, k2, k3, k4⟩ := view_slice hH ha1 hs
    obtain ⟨ts, nx, r1, r2, r3, r4⟩ := hrun q mm (by omega) h0 hc
    refine ⟨rfl, mm1 mb, uX q, [.s (.sl 0 0 1 mm)], ?_⟩
    exact shown_news (hs' := news q mm) (base := base) (ro1 k1 k2) ⟨k3 (mm1 mb) 0 rfl, trivial⟩ hlen r1 (fun _ => rfl) r2 r3 r4
theorem r116 {q : List Int} {m : Nat} (hq : q.length = m) (h0 : 0 < m) (hm : m ≤ 100) : Exec PP T none x116.nt 0 x116.body (startSt [.s (.sl 0 0 1 m)] (uX q)) .r (mkSt [(2, s1S 0 (0 + m))] [uO ((q.drop (0 * 1)).take (m * 1))] 1 []) := by
  refine exec_orun env0 false 60 [false] [2] (fun _ => rfl) (by kernel_rfl) (by kernel_rfl) (by kernel_rfl) ?_
  rw [(show obOf (orun g0 false 60 x116.body (startSt [.s (.sl 0 0 1 m)] (uX q)) [false]) = (decide (0 < m) && true && true && (decide ((0 + m) * 1 ≤ q.length) && true && decide (0 + m ≤ 1000000000) && true && true && true && true)) from by kernel_rfl)]
  all_goals (first | rfl | (simp; done) | (simp; omega) | (simp [rng64]; done) | (simp [rng64]; omega) | (simp [rng64_eq]; omega))
def nU (q : List Int) (m : Nat) : List HO := [uO q]
noncomputable abbrev spClU : Spec := spU (fun q m => decide (m ≤ 100)) (fun q m => .av (.s (.sl 0 0 1 m))) nU
theorem ok116 : SpecOK PP (compC T) 116 spClU := okU o116 (by kernel_rfl) fun q m hq h0 hc => by
  have hm : m ≤ 100 := by simpa using hc
  have := r116 hq h0 hm
  rw [take_all1 (by omega), Nat.zero_add] at this
  exact ⟨_, 1, this, by kernel_rfl, by kernel_rfl, by kernel_rfl⟩
noncomputable def LRk : List (Nat × Spec) := [(116, spClU)]
theorem LRk_ok : SpecsL LRk := specsL_cons ok116 (spU_fp) o116 (fun p hp => absurd hp (by simp))
noncomputable abbrev gRk : Cal → Option Spec := specsΓ LRk
theorem envRk : EnvOK PP T gRk := envL LRk_ok
def L104 : XC := x104.body.b.b.b.a.b.i.i
def X104 : XC := L104.b.b.a.i
def M104 : XC := X104.b.b.b.b.b.i.i
def lowI (x : Int) : Int := bitop .and .u64 x (IntKind.u64.wrap (0 - x))
abbrev S104 (q : List Int) (m i o : Nat) : St := mkSt [(0, s1S 0 m), (3, iS o), (10, iS m), (11, iS i)] [uO q] 1 []
abbrev U104 (q : List Int) (m i o : Nat) : St := mkSt [(0, s1S 0 m), (3, iS o), (10, iS m), (11, iS i), (4, iS i)] [uO q] 1 []
abbrev V104 (q : List Int) (m i o k : Nat) (w : Int) : St := mkSt [(0, s1S 0 m), (3, iS o), (10, iS m), (11, iS i), (4, iS i), (5, u6 w), (6, iS k)] [uO q] 1 []
theorem a104 {q : List Int} {m : Nat}  : Exec PP T none x104.nt 0 x104.body.a (startSt [.s (.sl 0 0 1 m)] (uX q)) .n (mkSt [(0, s1S 0 m)] (uX q) 1 []) := by
  refine exec_orun env0 false 60 [] [0] (fun _ => rfl) (by kernel_rfl) (by kernel_rfl) (by kernel_rfl) (by kernel_rfl)
theorem b104 {q : List Int} {m : Nat}  : Exec PP T none x104.nt 0 x104.body.b.a (mkSt [(0, s1S 0 m)] (uX q) 1 []) .n (mkSt [(0, s1S 0 m), (3, iS 0)] (uX q) 1 []) := by
  refine exec_orun env0 false 60 [] [0] (fun _ => rfl) (by kernel_rfl) (by kernel_rfl) (by kernel_rfl) (by kernel_rfl)
theorem cc104 {q : List Int} {m : Nat} (hq : q.length = m) (h0 : 0 < m) (hm : m ≤ 100) : Exec PP T none x104.nt 0 x104.body.b.b.a (mkSt [(0, s1S 0 m), (3, iS 0)] (uX q) 1 []) .n (mkSt [(0, s1S 0 m), (3, iS 0)] [uO ((q.drop (0 * 1)).take (m * 1))] 1 []) := by
  refine exec_orun envRk false 60 [] [1] (fun _ => rfl) (by kernel_rfl) (by kernel_rfl) (by kernel_rfl) ?_
  rw [(show obOf (orun gRk false 60 x104.body.b.b.a (mkSt [(0, s1S 0 m), (3, iS 0)] (uX q) 1 []) []) = (decide ((0 + m) * 1 ≤ q.length) && (decide (0 < m) && decide (m ≤ 100)) && true && true && true) from by kernel_rfl)]
  all_goals (first | rfl | (simp; done) | (simp; omega) | (simp [rng64]; done) | (simp [rng64]; omega) | (simp [rng64_eq]; omega))
theorem d104 {q : List Int} {m : Nat}  : Exec PP T none x104.nt 0 x104.body.b.b.b.a.a (mkSt [(0, s1S 0 m), (3, iS 0)] [uO q] 1 []) .n (S104 q m 0 0) := by
  refine exec_orun env0 false 60 [] [0] (fun _ => rfl) (by kernel_rfl) (by kernel_rfl) (by kernel_rfl) (by kernel_rfl)
theorem l104a {q : List Int} {m i o : Nat} (hi : i < m) : Exec PP T none x104.nt 0 L104.a (S104 q m i o) .n (mkSt [(0, s1S 0 m), (3, iS o), (10, iS m), (11, iS i), (12, ⟨true, B true⟩)] [uO q] 1 []) := by
  refine exec_prun env0 [(12, true)] false 60 [0] (by kernel_rfl) (by kernel_rfl) (by kernel_rfl) ?_
  rw [(show obOf (prun [(12, true)] g0 false 60 L104.a (S104 q m i o)) = (decide (Int.ofNat i < Int.ofNat m) == true && true) from by kernel_rfl)]
  all_goals (first | rfl | (simp; done) | (simp; omega) | (simp [rng64]; done) | (simp [rng64]; omega) | (simp [rng64_eq]; omega))
theorem l104b {q : List Int} {m i o : Nat}  : Exec PP T none x104.nt 0 L104.b.a (mkSt [(0, s1S 0 m), (3, iS o), (10, iS m), (11, iS i), (12, ⟨true, B true⟩)] [uO q] 1 []) .n (S104 q m i o) := by
  refine exec_orun env0 false 60 [true] [0] (fun _ => rfl) (by kernel_rfl) (by kernel_rfl) (by kernel_rfl) (by kernel_rfl)
theorem l104x {q : List Int} {m o : Nat}  : Exec PP T none x104.nt 0 L104.a (S104 q m m o) .n (mkSt [(0, s1S 0 m), (3, iS o), (10, iS m), (11, iS m), (12, ⟨true, B false⟩)] [uO q] 1 []) := by
  refine exec_prun env0 [(12, false)] false 60 [0] (by kernel_rfl) (by kernel_rfl) (by kernel_rfl) ?_
  rw [(show obOf (prun [(12, false)] g0 false 60 L104.a (S104 q m m o)) = (decide (Int.ofNat m < Int.ofNat m) == false && true) from by kernel_rfl)]
  all_goals (first | rfl | (simp; done) | (simp; omega) | (simp [rng64]; done) | (simp [rng64]; omega) | (simp [rng64_eq]; omega))
theorem l104y {q : List Int} {m o : Nat}  : Exec PP T none x104.nt 0 L104.b.a (mkSt [(0, s1S 0 m), (3, iS o), (10, iS m), (11, iS m), (12, ⟨true, B false⟩)] [uO q] 1 []) (.x 0) (S104 q m m o) := by
  refine exec_orun env0 false 60 [false] [0] (fun _ => rfl) (by kernel_rfl) (by kernel_rfl) (by kernel_rfl) (by kernel_rfl)
theorem l104c {q : List Int} {m i o : Nat}  : Exec PP T none x104.nt 0 X104.a (S104 q m i o) .n (U104 q m i o) := by
  refine exec_orun env0 false 60 [] [0] (fun _ => rfl) (by kernel_rfl) (by kernel_rfl) (by kernel_rfl) (by kernel_rfl)
theorem l104z {q : List Int} {m i o : Nat} (hq : q.length = m) (hi : i < m) (h : (at1 q i == 0) = true) : Exec PP T none x104.nt 0 X104.b.a (U104 q m i o) (.x 1) (S104 q m i o) := by
  refine exec_prun env0 [(18, true)] false 60 [0] (by kernel_rfl) (by kernel_rfl) (by kernel_rfl) ?_
  rw [(show obOf (prun [(18, true)] g0 false 60 X104.b.a (U104 q m i o)) = (decide (0 ≤ Int.ofNat i) && decide (Int.ofNat i < Int.ofNat m) && (decide (0 + (0 + i) * 1 < q.length) && ((q.getD (0 + (0 + i) * 1) 0 == 0) == true && true)) && true) from by kernel_rfl)]
  simp only [show q.getD (0 + (0 + i) * 1) 0 = at1 q i from rfl, h]
  simp
  omega
theorem l104n {q : List Int} {m i o : Nat} (hq : q.length = m) (hi : i < m) (h : (at1 q i == 0) = false) : Exec PP T none x104.nt 0 X104.b.a (U104 q m i o) .n (U104 q m i o) := by
  refine exec_prun env0 [(18, false)] false 60 [0] (by kernel_rfl) (by kernel_rfl) (by kernel_rfl) ?_
  rw [(show obOf (prun [(18, false)] g0 false 60 X104.b.a (U104 q m i o)) = (decide (0 ≤ Int.ofNat i) && decide (Int.ofNat i < Int.ofNat m) && (decide (0 + (0 + i) * 1 < q.length) && ((q.getD (0 + (0 + i) * 1) 0 == 0) == false && true)) && true) from by kernel_rfl)]
  simp only [show q.getD (0 + (0 + i) * 1) 0 = at1 q i from rfl, h]
  simp
  omega
theorem l104d {q : List Int} {m i o : Nat} (ho : o < 1000) : Exec PP T none x104.nt 0 X104.b.b.a (U104 q m i o) .n (U104 q m i (o + 1)) := by
  refine exec_orun env0 false 60 [] [0] (fun _ => rfl) (by kernel_rfl) (by kernel_rfl) (by kernel_rfl) ?_
  rw [(show obOf (orun g0 false 60 X104.b.b.a (U104 q m i o) []) = (rng64 (Int.ofNat o.succ) && true) from by kernel_rfl)]
  all_goals (first | rfl | (simp; done) | (simp; omega) | (simp [rng64]; done) | (simp [rng64]; omega) | (simp [rng64_eq]; omega))
theorem l104e {q : List Int} {m i o : Nat} (hq : q.length = m) (hi : i < m) : Exec PP T none x104.nt 0 X104.b.b.b.a (U104 q m i o) .n (mkSt [(0, s1S 0 m), (3, iS o), (10, iS m), (11, iS i), (4, iS i), (5, u6 (lowI (at1 q i)))] [uO q] 1 []) := by
  refine exec_orun env0 false 60 [] [0] (fun _ => rfl) (by kernel_rfl) (by kernel_rfl) (by kernel_rfl) ?_
  rw [(show obOf (orun g0 false 60 X104.b.b.b.a (U104 q m i o) []) = (decide (0 ≤ Int.ofNat i) && decide (Int.ofNat i < Int.ofNat m) && (decide (0 + (0 + i) * 1 < q.length) && (decide (0 ≤ Int.ofNat i) && decide (Int.ofNat i < Int.ofNat m) && (decide (0 + (0 + i) * 1 < q.length) && true))) && true) from by kernel_rfl)]
  simp
  omega
theorem l104f {q : List Int} {m i o : Nat} {w : Int} (hi : i < 1000) : Exec PP T none x104.nt 0 X104.b.b.b.b.a (mkSt [(0, s1S 0 m), (3, iS o), (10, iS m), (11, iS i), (4, iS i), (5, u6 w)] [uO q] 1 []) .n (V104 q m i o (i + 1) w) := by
  refine exec_orun env0 false 60 [] [0] (fun _ => rfl) (by kernel_rfl) (by kernel_rfl) (by kernel_rfl) ?_
  rw [(show obOf (orun g0 false 60 X104.b.b.b.b.a (mkSt [(0, s1S 0 m), (3, iS o), (10, iS m), (11, iS i), (4, iS i), (5, u6 w)] [uO q] 1 []) []) = (rng64 (Int.ofNat i.succ) && true) from by kernel_rfl)]
  all_goals (first | rfl | (simp; done) | (simp; omega) | (simp [rng64]; done) | (simp [rng64]; omega) | (simp [rng64_eq]; omega))
theorem m104n {q : List Int} {m i o k : Nat} {w : Int} (hq : q.length = m) (hk : k < m) (hm : m ≤ 100) (h : (bitop .and .u64 (at1 q k) w != 0) = false) : Exec PP T none x104.nt 0 M104 (V104 q m i o k w) .n (V104 q m i o (k + 1) w) := by
  refine exec_prun env0 [(36, true), (45, false)] false 60 [0] (by kernel_rfl) (by kernel_rfl) (by kernel_rfl) ?_
  rw [(show obOf (prun [(36, true), (45, false)] g0 false 60 M104 (V104 q m i o k w)) = (decide (Int.ofNat k < Int.ofNat m) == true && true && true && (decide (0 ≤ Int.ofNat k) && decide (Int.ofNat k < Int.ofNat m) && (decide (0 + (0 + k) * 1 < q.length) && ((bitop BinOp.and IntKind.u64 (q.getD (0 + (0 + k) * 1) 0) w != 0) == false && true)) && true && (rng64 (Int.ofNat k.succ) && true))) from by kernel_rfl)]
  have h' : (bitop .and .u64 (q.getD (0 + (0 + k) * 1) 0) w != 0) = false := h
  simp only [h']
  simp [rng64]
  omega
theorem m104y {q : List Int} {m i o k : Nat} {w : Int} (hq : q.length = m) (hi : i < m) (hk : k < m) (hm : m ≤ 100) (h : (bitop .and .u64 (at1 q k) w != 0) = true) : Exec PP T none x104.nt 0 M104 (V104 q m i o k w) .n (V104 (q.set (0 + (0 + k) * 1) (bitop .xor .u64 (at1 q k) (at1 q i))) m i o (k + 1) w) := by
  refine exec_prun env0 [(36, true), (45, true)] false 60 [0] (by kernel_rfl) (by kernel_rfl) (by kernel_rfl) ?_
  rw [(show obOf (prun [(36, true), (45, true)] g0 false 60 M104 (V104 q m i o k w)) = (decide (Int.ofNat k < Int.ofNat m) == true && true && true && (decide (0 ≤ Int.ofNat k) && decide (Int.ofNat k < Int.ofNat m) && (decide (0 + (0 + k) * 1 < q.length) && ((bitop BinOp.and IntKind.u64 (q.getD (0 + (0 + k) * 1) 0) w != 0) == true && true)) && (decide (0 ≤ Int.ofNat k) && decide (Int.ofNat k < Int.ofNat m) && (decide (0 + (0 + k) * 1 < q.length) && (decide (0 ≤ Int.ofNat i) && decide (Int.ofNat i < Int.ofNat m) && (decide (0 + (0 + i) * 1 < q.length) && (decide (0 ≤ Int.ofNat k) && decide (Int.ofNat k < Int.ofNat m) && (decide (0 + (0 + k) * 1 < q.length) && true && true && true))))) && true) && (rng64 (Int.ofNat k.succ) && true))) from by kernel_rfl)]
  have h' : (bitop .and .u64 (q.getD (0 + (0 + k) * 1) 0) w != 0) = true := h
  simp only [h']
  simp [rng64]
  omega
theorem m104z {q : List Int} {m i o : Nat} {w : Int}  : Exec PP T none x104.nt 0 M104 (V104 q m i o m w) (.x 2) (S104 q m i o) := by
  refine exec_prun env0 [(36, false)] false 60 [0] (by kernel_rfl) (by kernel_rfl) (by kernel_rfl) ?_
  rw [(show obOf (prun [(36, false)] g0 false 60 M104 (V104 q m i o m w)) = (decide (Int.ofNat m < Int.ofNat m) == false && true && true) from by kernel_rfl)]
  all_goals (first | rfl | (simp; done) | (simp; omega) | (simp [rng64]; done) | (simp [rng64]; omega) | (simp [rng64_eq]; omega))
theorem e104 {q : List Int} {m i o : Nat} (hi : i < 1000) : Exec PP T none x104.nt 0 L104.b.b.b (S104 q m i o) .n (S104 q m (i + 1) o) := by
  refine exec_orun env0 false 60 [] [0] (fun _ => rfl) (by kernel_rfl) (by kernel_rfl) (by kernel_rfl) ?_
  rw [(show obOf (orun g0 false 60 L104.b.b.b (S104 q m i o) []) = (rng64 (Int.ofNat i.succ) && true) from by kernel_rfl)]
  all_goals (first | rfl | (simp; done) | (simp; omega) | (simp [rng64]; done) | (simp [rng64]; omega) | (simp [rng64_eq]; omega))
theorem f104 {q : List Int} {m o : Nat}  : Exec PP T none x104.nt 0 x104.body.b.b.b.b (S104 q m m o) .r (mkSt [(2, iS o)] [] 0 []) := by
  refine exec_orun env0 false 60 [] [] (fun _ => rfl) (by kernel_rfl) (by kernel_rfl) (by kernel_rfl) (by kernel_rfl)
/-- one row taken out of those behind -/
def innQ (q : List Int) (i : Nat) (w : Int) : Nat → List Int
  | 0 => q
  | j + 1 => bif bitop .and .u64 (at1 (innQ q i w j) (i + 1 + j)) w != 0 then (innQ q i w j).set (0 + (0 + (i + 1 + j)) * 1) (bitop .xor .u64 (at1 (innQ q i w j) (i + 1 + j)) (at1 (innQ q i w j) i)) else innQ q i w j
theorem innQ_len (q : List Int) (i : Nat) (w : Int) : ∀ j, (innQ q i w j).length = q.length
  | 0 => rfl
  | j + 1 => by
    have := innQ_len q i w j
    unfold innQ
    cases (bitop .and .u64 (at1 (innQ q i w j) (i + 1 + j)) w != 0) <;> simp [this]
def rkS (q : List Int) (m : Nat) : Nat → List Int × Nat
  | 0 => (q, 0)
  | i + 1 => bif at1 (rkS q m i).1 i == 0 then rkS q m i else (innQ (rkS q m i).1 i (lowI (at1 (rkS q m i).1 i)) (m - (i + 1)), (rkS q m i).2 + 1)
theorem rkS_len (q : List Int) (m : Nat) : ∀ i, (rkS q m i).1.length = q.length ∧ (rkS q m i).2 ≤ i
  | 0 => ⟨rfl, Nat.le_refl _⟩
  | i + 1 => by
    have := rkS_len q m i
    unfold rkS
    cases (at1 (rkS q m i).1 i == 0) with
    | true => exact ⟨this.1, by simp; omega⟩
    | false => exact ⟨by simp [innQ_len, this.1], by simp; omega⟩
def rnkI (q : List Int) (m : Nat) : Int := Int.ofNat (rkS q m m).2
theorem inn104 {q : List Int} {m i o : Nat} {w : Int} (hq : q.length = m) (hi : i < m) (hm : m ≤ 100) : Exec PP T none x104.nt 0 (.loop M104) (V104 q m i o (i + 1) w) (.x 2) (S104 (innQ q i w (m - (i + 1))) m i o) := by
  have key := exec_loop_up (P := PP) (T := T) (r := none) (nt := x104.nt) (kp := 0) (x := M104) (fun j => V104 (innQ q i w j) m i o (i + 1 + j) w) (m - (i + 1)) (fun j hj => by
    have hl := innQ_len q i w j
    cases h : (bitop .and .u64 (at1 (innQ q i w j) (i + 1 + j)) w != 0) with
    | false =>
      have e : innQ q i w (j + 1) = innQ q i w j := by show (bif bitop .and .u64 (at1 (innQ q i w j) (i + 1 + j)) w != 0 then _ else _) = _; rw [h]; rfl
      simp only [e]
      exact m104n (by omega) (by omega) hm h
    | true =>
      have e : innQ q i w (j + 1) = (innQ q i w j).set (0 + (0 + (i + 1 + j)) * 1) (bitop .xor .u64 (at1 (innQ q i w j) (i + 1 + j)) (at1 (innQ q i w j) i)) := by show (bif bitop .and .u64 (at1 (innQ q i w j) (i + 1 + j)) w != 0 then _ else _) = _; rw [h]; rfl
      simp only [e]
      exact m104y (by omega) hi (by omega) hm h) (e := .x 2) (S' := S104 (innQ q i w (m - (i + 1))) m i o) (by
    show Exec _ _ _ _ _ _ (V104 (innQ q i w (m - (i + 1))) m i o (i + 1 + (m - (i + 1))) w) _ _
    rw [show i + 1 + (m - (i + 1)) = m by omega]
    exact m104z) (by simp) 0 (by omega)
  exact key
theorem step104 {q : List Int} {m i : Nat} (hq : q.length = m) (hi : i < m) (hm : m ≤ 100) : Exec PP T none x104.nt 0 L104 (S104 (rkS q m i).1 m i (rkS q m i).2) .n (S104 (rkS q m (i + 1)).1 m (i + 1) (rkS q m (i + 1)).2) := by
  obtain ⟨h1, h2⟩ := rkS_len q m i
  have e : rkS q m (i + 1) = bif at1 (rkS q m i).1 i == 0 then rkS q m i else (innQ (rkS q m i).1 i (lowI (at1 (rkS q m i).1 i)) (m - (i + 1)), (rkS q m i).2 + 1) := rfl
  rw [e]
  generalize rkS q m i = p at *
  obtain ⟨p, o⟩ := p
  dsimp only at *
  refine exec_seq (x := L104.a) (y := L104.b) (l104a hi) (exec_seq (x := L104.b.a) (y := L104.b.b) l104b ?_)
  cases h : (at1 p i == 0) with
  | true =>
    rw [cond_true]
    exact exec_seq (x := .block 1 X104) (y := L104.b.b.b) (exec_block (id := 1) (x := X104) (e := .x 1) (exec_seq (x := X104.a) (y := X104.b) l104c (exec_seq_x (x := X104.b.a) (y := X104.b.b) (l104z (by omega) hi h) (by simp)))) (e104 (by omega))
  | false =>
    rw [cond_false]
    exact exec_seq (x := .block 1 X104) (y := L104.b.b.b) (exec_block (id := 1) (x := X104) (e := .n) (exec_seq (x := X104.a) (y := X104.b) l104c (exec_seq (x := X104.b.a) (y := X104.b.b) (l104n (by omega) hi h) (exec_seq (x := X104.b.b.a) (y := X104.b.b.b) (l104d (by omega)) (exec_seq (x := X104.b.b.b.a) (y := X104.b.b.b.b) (l104e (by omega) hi) (exec_seq (x := X104.b.b.b.b.a) (y := .block 2 (.loop M104)) (l104f (by omega)) (exec_block (id := 2) (e := .x 2) (inn104 (by omega) hi hm)))))))) (e104 (by omega))
theorem body104 {q : List Int} {m : Nat} (hq : q.length = m) (h0 : 0 < m) (hm : m ≤ 100) : Exec PP T none x104.nt 0 x104.body (startSt [.s (.sl 0 0 1 m)] (uX q)) .r (mkSt [(2, iS (rnkI q m))] [] 0 []) := by
  have hc := cc104 hq h0 hm
  rw [take_all1 (by omega)] at hc
  refine exec_seq (x := x104.body.a) (y := x104.body.b) a104 (exec_seq (x := x104.body.b.a) (y := x104.body.b.b) b104 (exec_seq (x := x104.body.b.b.a) (y := x104.body.b.b.b) hc (exec_seq (x := x104.body.b.b.b.a) (y := x104.body.b.b.b.b) (exec_seq (x := x104.body.b.b.b.a.a) (y := .block 0 (.loop L104)) d104 (exec_block (id := 0) (e := .x 0) (S1 := S104 (rkS q m m).1 m m (rkS q m m).2) ?_)) f104)))
  exact exec_loop_up (fun i => S104 (rkS q m i).1 m i (rkS q m i).2) m (fun i hi => step104 hq hi hm) (exec_seq (x := L104.a) (y := L104.b) l104x (exec_seq_x (x := L104.b.a) (y := L104.b.b) l104y (by simp))) (by simp) 0 (by omega)
theorem z104   : Exec PP T none x104.nt 0 x104.body (startSt [.s .nils] []) .r (mkSt [(2, iS 0)] [] 0 []) := by
  refine exec_orun envA false 60 [false] [] (fun _ => rfl) (by kernel_rfl) (by kernel_rfl) (by kernel_rfl) (by kernel_rfl)
noncomputable def spRank : Spec where
  run := fun args h base => match args with
    | [.s .nils] => some ⟨true, I 0, [], [], some []⟩
    | args => (spU (fun q m => decide (m ≤ 100)) (fun q m => I (rnkI q m)) (fun _ _ => [])).run args h base
theorem spRank_fp : SpecFp spRank := by
  intro args h h' base e hr hf
  simp only [spRank] at hr ⊢
  split at hr
  · exact hr
  · exact spU_fp args h h' base e hr hf
theorem ok104 : SpecOK PP (compC T) 104 spRank := by
  have h1 := okU (c := fun q m => decide (m ≤ 100)) (v := fun q m => I (rnkI q m)) (news := fun _ _ => []) o104 (by kernel_rfl) fun q m hq h0 hc => by
    have hm : m ≤ 100 := by simpa using hc
    exact ⟨_, 0, body104 hq h0 hm, by kernel_rfl, by kernel_rfl, by kernel_rfl⟩
  have h2 : SpecOK PP (compC T) 104 ⟨fun args h base => match args with | [.s .nils] => some ⟨true, I 0, [], [], some []⟩ | _ => none⟩ := by
    refine spec_gen tokP o104 fun ctx m hh w args vals base e hH hargs hr hvc => ?_
    simp only at hr
    split at hr
    case h_2 => cases hr
    cases hr
    refine ⟨rfl, fun _ => none, [], [.s .nils], ?_⟩
    match vals, hargs with
    | [v], ⟨hv, _⟩ =>
      have hall : All2 (AR fun _ => none) [AV.s SV.nils] [v] := ⟨hv, trivial⟩
      exact shown_news (hs' := []) (tv := I 0) (base := base) ⟨fun j ho hj => by simp at hj, fun j hj => rfl⟩ hall (by kernel_rfl) z104 (fun _ => rfl) (by kernel_rfl) (by kernel_rfl) (by kernel_rfl)
  intro ctx m h w args vals base e hH hargs hfr hup hr hvc
  simp only [spRank] at hr
  split at hr
  · exact h2 ctx m h w _ vals base e hH hargs hfr hup hr hvc
  · exact h1 ctx m h w _ vals base e hH hargs hfr hup hr hvc
end Go.Proofs.Yteekkjfjpoaihaa.Eng
namespace Go.Proofs.Yteekkjfjpoaihaa.Eng
open Go Go.Proofs
/-- own objects, seen in a heap: s tells where each one is there; none: an empty list without a block -/
structure OwnV (cmp : Cmp) (m : MM) (h : Nat → Option HO) (w : World) (upd : List (Nat × HO)) (hs0 : List HO) (m0 : MM) (s : Nat → Option Nat) : Prop where
  obj : ∀ (j : Nat) (o : HO), hs0[j]? = some o → match s j with
    | some i => ∃ o' mb, h i = some o' ∧ m i = some mb ∧ m0 j = some mb ∧ OR cmp m0 mb o.o w ∧ o'.live = true ∧ (o.ro = false → o'.ro = false ∧ ∃ u ∈ upd, u.1 = i)
    | none => m0 j = some ⟨none, 0, 0⟩ ∧ OR cmp m0 ⟨none, 0, 0⟩ o.o w
  inj : ∀ i j k, i < hs0.length → j < hs0.length → s i = some k → s j = some k → i = j
  dom : ∀ j, hs0.length ≤ j → m0 j = none
theorem OwnV.hrel {cmp : Cmp} {ctx : Ctx} {m m0 : MM} {h : Nat → Option HO} {w : World} {upd : List (Nat × HO)} {hs0 : List HO} {s : Nat → Option Nat} (hO : OwnV cmp m h w upd hs0 m0 s) (hH : HRel cmp ctx m h w) : HRel cmp ⟨w, wbOf m upd⟩ m0 (fun j => hs0[j]?) w where
  obj := fun id ho hid => by
    have := hO.obj id ho hid
    split at this
    · rename_i i hs
      obtain ⟨o', mb, h1, h2, h3, h4, h5, h6⟩ := this
      obtain ⟨mb', g1, g2, g3, g4⟩ := hH.obj i o' h1
      rw [h2] at g1
      cases g1
      refine ⟨mb, h3, h4, fun _ => g3 h5, fun hro _ b hb => ?_⟩
      obtain ⟨u, hu, e⟩ := (h6 hro).2
      exact .inr ⟨u, hu, mb, by rw [e]; exact h2, hb⟩
    · obtain ⟨h1, h2⟩ := this
      exact ⟨_, h1, h2, fun _ b hb => (by cases hb), fun _ _ b hb => (by cases hb)⟩
  dist := fun id id' ho ho' mb mb' b hne hid hid' hro hl hl' hm hm' hb => by
    have hlt := (List.getElem?_eq_some_iff.1 hid).1
    have hlt' := (List.getElem?_eq_some_iff.1 hid').1
    have k1 := hO.obj id ho hid
    have k2 := hO.obj id' ho' hid'
    split at k1
    · rename_i i hs
      obtain ⟨o1, mb1, h1, h2, h3, h4, h5, h6⟩ := k1
      rw [h3] at hm
      cases hm
      split at k2
      · rename_i i' hs'
        obtain ⟨o2, mb2, q1, q2, q3, q4, q5, q6⟩ := k2
        rw [q3] at hm'
        cases hm'
        exact hH.dist i i' o1 o2 mb mb' b (fun e => hne (hO.inj id id' i hlt hlt' hs (by rw [hs', e]))) h1 q1 (h6 hro).1 h5 q5 h2 q2 hb
      · rw [k2.1] at hm'
        cases hm'
        intro hb'
        cases hb'
    · rw [k1.1] at hm
      cases hm
      cases hb
  dom := fun id hid => hO.dom id (by rw [List.getElem?_eq_none_iff] at hid; exact hid)
  os := rfl
  tape := rfl
  output := rfl
  size := Nat.le_refl _
  same0 := fun _ _ _ => rfl
/-- from own numbers to the caller's -/
def renO (K B : Nat) (s : Nat → Option Nat) : Nat → Nat := fun j => if K ≤ j then B + (j - K) else (s j).getD 0
/-- a call that turns its own objects: the run in own numbers -/
structure Turns (x : XFn) (A0 : List AV) (hs0 : List HO) (s : Nat → Option Nat) (B : Nat) (val : TV) (upd : List (Nat × HO)) (news : List HO) : Prop where
  len : A0.length ≤ x.nt
  run : ∃ (ts : List (Nat × Slot)) (hs1 : List HO) (nx : Nat) (df : List Nat) (ex : XE) (tv : TV), Exec PP T none x.nt hs0.length x.body (mkSt (slotsOf A0) hs0 hs0.length []) ex (mkSt ts hs1 nx df) ∧ (ex = .n ∨ ex = .r) ∧ dfOk (mkSt ts hs1 nx df).hp.get df = true ∧
    resV (mkSt ts hs1 nx df).sl.get (leaveH (mkSt ts hs1 nx df).hp.get df) x.res = some (true, tv) ∧ tv.ids = [] ∧ val = tv ∧
    (∀ d ∈ df, hs0.length + news.length ≤ d) ∧
    (∀ k o, news[k]? = some o → ∃ o1, hs1[hs0.length + k]? = some o1 ∧ o1.ro = false ∧ o1.live = true ∧ o1.o.isLoop = false ∧ o.o = o1.o.ren (renO hs0.length B s) ∧ ∀ i ∈ o1.o.ids, i < hs0.length + news.length ∧ (i < hs0.length → (s i).isSome = true)) ∧
    (∀ u ∈ upd, (u.2.live = false ∧ ∃ j, j < hs0.length ∧ s j = some u.1) ∨ ∃ j o1, j < hs0.length ∧ s j = some u.1 ∧ hs1[j]? = some o1 ∧ o1.live = true ∧ o1.o.isLoop = false ∧ u.2.o = o1.o.ren (renO hs0.length B s) ∧ ∀ i ∈ o1.o.ids, i < hs0.length + news.length ∧ (i < hs0.length → (s i).isSome = true))
theorem spec_mut {f : FuncId} {x : XFn} (hx : FunOK PP T f x) {sp : Spec}
    (h : ∀ (ctx : Ctx) (m : MM) (h : Nat → Option HO) (w : World) (args : List AV) (vals : List Value) (base : Nat) (e : Eff), HRel (compC T) ctx m h w → All2 (AR m) args vals → sp.run args h base = some e → e.vc = true →
      ∃ m0 hs0 A0 s, OwnV (compC T) m h w e.upd hs0 m0 s ∧ All2 (AR m0) A0 vals ∧ Turns x A0 hs0 s base e.val e.upd e.news) : SpecOK PP (compC T) f sp := by
  obtain ⟨_, fn, hf, hxf⟩ := hx
  intro ctx m hh w args vals base e hH hargs hfr hup hr hvc
  obtain ⟨m0, hs0, A0, s, hO, ha0, hlen, ts, hs1, nx, df, ex, tv, hrun, hex, hd, hres, htv, hval, hdf, hnew, hupd⟩ := h ctx m hh w args vals base e hH hargs hr hvc
  have hH0 := hO.hrel hH
  have hsl : ∀ t s, (mkSt (slotsOf A0) hs0 hs0.length []).sl.get t = some s → argSl A0 t = some s := fun t s hs => by
    have := (alGet_slots A0 0 t s hs).2
    simpa using this
  refine callsIn_exec (kp := hs0.length) (S := mkSt (slotsOf A0) hs0 hs0.length []) (tv := tv) (m := m0) tokP hf hxf hlen hsl rfl hrun hex hd hres (by
    have e : (mkSt (slotsOf A0) hs0 hs0.length []).hp.get = fun j => hs0[j]? := by funext j; rw [mkSt_hp]
    rw [e]
    exact hH0) ha0 fun v w' m1 hk hv hH1 => ?_
  have hdf' : (mkSt ts hs1 nx df).df = df := rfl
  rw [hdf'] at hH1
  have hat : ∀ j, j < hs0.length + e.news.length → leaveH (mkSt ts hs1 nx df).hp.get df j = hs1[j]? := fun j hj => by
    rw [leaveH_other _ _ _ fun hm => by have := hdf j hm; omega, mkSt_hp]
  have hkeep : ∀ j i, j < hs0.length → s j = some i → m1 j = m i ∧ (hh i).isSome = true := fun j i hj hs => by
    have := hO.obj j hs0[j] (by simp [hj])
    rw [hs] at this
    obtain ⟨o', mb, h1, h2, h3, _⟩ := this
    exact ⟨by rw [hk j mb hj h3, h2], by rw [h1]; rfl⟩
  have hren : ∀ j, j < hs0.length + e.news.length → (j < hs0.length → (s j).isSome = true) → subM m m1 (fun k => hs0.length + k) base e.news.length (renO hs0.length base s j) = m1 j := by
    intro j hj hsj
    unfold renO
    by_cases hK : hs0.length ≤ j
    · rw [if_pos hK]
      unfold subM
      rw [if_pos (by omega)]
      show m1 (hs0.length + (base + (j - hs0.length) - base)) = m1 j
      rw [show hs0.length + (base + (j - hs0.length) - base) = j by omega]
    · rw [if_neg hK]
      obtain ⟨i, hi⟩ := Option.isSome_iff_exists.1 (hsj (by omega))
      obtain ⟨g1, g2⟩ := hkeep j i (by omega) hi
      rw [hi, Option.getD_some, g1]
      unfold subM
      rw [if_neg]
      rintro ⟨b1, b2⟩
      have := hfr (i - base) (by omega)
      rw [show base + (i - base) = i by omega] at this
      rw [this] at g2
      cases g2
  refine ⟨v, _, rfl, ?_, sub_stp (N := fun k => hs0.length + k) hH hfr hH1 (fun i j _ _ h => by omega) (fun k hk' => ?_) (fun u hu hl => ?_) (fun u hu => ?_) fun k ho hko => ?_⟩
  · rw [hval]
    have := TR.ren (m' := subM m m1 (fun k => hs0.length + k) base e.news.length) (ρ := fun j => j) hv (fun j hj => by rw [htv] at hj; cases hj)
    rw [TV.ren_id (fun j hj => rfl)] at this
    exact this
  · obtain ⟨o1, h1, h2, h3, _⟩ := hnew k e.news[k] (by simp [hk'])
    exact ⟨o1, by rw [hat _ (by omega)]; exact h1, h2, h3⟩
  · rcases hupd u hu with ⟨h1, _⟩ | ⟨j, o1, h1, h2, h3, h4, _⟩
    · rw [h1] at hl; cases hl
    · exact ⟨j, o1, by rw [hat _ (by omega)]; exact h3, h4, (hkeep j _ h1 h2).1, fun k _ => by omega⟩
  · rcases hupd u hu with ⟨h1, j, h2, h3⟩ | ⟨j, o1, h1, h2, h3, h4, h5, h6, h7⟩
    · have := hO.obj j hs0[j] (by simp [h2])
      rw [h3] at this
      obtain ⟨o', mb, _, g2, _⟩ := this
      refine ⟨mb, g2, ?_⟩
      rw [live_gone h1]
      trivial
    · obtain ⟨mb, g1, g2, _⟩ := hH1.obj j o1 (by rw [hat _ (by omega)]; exact h3)
      refine ⟨mb, by rw [← (hkeep j _ h1 h2).1]; exact g1, ?_⟩
      rw [h6]
      exact g2.ren (fun i hi => hren i (h7 i hi).1 (h7 i hi).2) fun hl => by rw [h5] at hl; cases hl
  · obtain ⟨o1, h1, h2, h3, h4, h5, h6⟩ := hnew k ho hko
    obtain ⟨mb, g1, g2, _⟩ := hH1.obj (hs0.length + k) o1 (by
      have hk' := (List.getElem?_eq_some_iff.1 hko).1
      rw [hat _ (by omega)]; exact h1)
    refine ⟨mb, g1, ?_⟩
    rw [h5]
    exact g2.ren (fun i hi => hren i (h6 i hi).1 (h6 i hi).2) fun hl => by rw [h4] at hl; cases hl
end Go.Proofs.Yteekkjfjpoaihaa.Eng
namespace Go.Proofs.Yteekkjfjpoaihaa.Eng
open Go Go.Proofs
section
variable {P : Program} {T : Tab} {r : Option Nat} {Γ : Cal → Option Spec} {nt kp : Nat}
theorem exec_prunG (hE : EnvOK P T Γ) (pins : List (Nat × Bool)) (inr : Bool) (k : Nat) (ids : List Nat) {c : XC} {S : St} {e : XE} {ts : List (Nat × Slot)} {hs : List HO} {nx : Nat} {df : List Nat}
    (hv : vwG (ts.map (·.1)) ids hs (prun pins Γ inr k c S) = some (e, ts.map (fun p => some ⟨p.2.c, p.2.v.ren fun j => ids.getD j 0⟩), hs.map (fun h => some (bif h.live then h.ren fun j => ids.getD j 0 else goneH)), df.map fun j => ids.getD j 0))
    (hok : mkOkG ts hs ids kp = true) (hdl : df.all (fun j => Nat.blt j hs.length) = true) (hob : obOf (prun pins Γ inr k c S) = true) : Exec P T r nt kp c S e (mkSt ts hs nx df) := by
  unfold vwG at hv
  cases ho : prun pins Γ inr k c S with
  | none => rw [ho] at hv; cases hv
  | some q =>
    obtain ⟨v, e1, S1, os1⟩ := q
    rw [ho] at hv hob
    simp only [Option.map_some, Option.some.injEq, Prod.mk.injEq] at hv
    obtain ⟨rfl, hv⟩ := hv
    exact (prun_snd hE k c S S1 os1 e1 v ho hob).post (weak_viewG hv hok hdl)
end
def F72 : XC := x72.body.b.b.b.a.b.i
def a72 : XC := F72.rfA
def b72 : XC := F72.rfB
abbrev slF : List (Nat × Slot) := [(0, g1S 0), (1, g1S 1), (2, g1S 3), (3, g1S 4), (4, g1S 6), (15, ⟨true, .av (.s (.fn 102 [7]))⟩)]
/-- the objects at a round: the faces now, the list, the result, the copy of the faces, the loop -/
abbrev Hr72 (f : Nat → Bool) (m : Nat) (lo : HO) (l : HO) (b : Bool) (g : Nat → Bool) (sv : SV) : List HO := [⟨false, .row 95 [] 64 f⟩, ⟨true, .row 101 [.mp 2] 0 ff⟩, ⟨true, .map (.bools 64) .bool1 []⟩, ⟨false, .row 22 [sv] 0 ff⟩, ⟨true, .row 30 [.fn 72 [0, 1, 3, 4]] 0 ff⟩, l, ⟨false, .row 4 [.bool b] 0 ff⟩, ⟨true, .row 95 [] 64 g⟩, ⟨true, .dfr⟩, lo]
abbrev lpF (st : LS) : HO := ⟨false, .loop (.al slF) [16] a72 b72 st⟩
abbrev vO (q : List Int) : HO := ⟨false, .ivec 38 .i64 2 q⟩
abbrev prO (s t : Int) : HO := ⟨false, .row 108 [.int .i64 s, .int .i64 t] 0 ff⟩
/-- before a round -/
abbrev Hb72 (f : Nat → Bool) (q : List Int) (m : Nat) : List HO := Hr72 f m (lpF .ready) (vO q) false f (.sl 5 0 2 m)
abbrev id10 : List Nat := [0, 1, 2, 3, 4, 5, 6, 7, 8, 9]
abbrev slP : List (Nat × Slot) := [(0, ⟨true, .av (.s (.yield 9))⟩), (1, g1S 7)]
abbrev P102 (f : Nat → Bool) (q : List Int) (m s : Nat) : St := mkSt (slP ++ [(7, ⟨true, .av (.pb [] 64 f)⟩), (8, iS s)]) (Hb72 f q m) 10 []
abbrev P102' (f : Nat → Bool) (q : List Int) (m s : Nat) (b : Bool) : St := mkSt (slP ++ [(7, ⟨true, .av (.pb [] 64 f)⟩), (8, iS s), (9, ⟨true, B b⟩)]) (Hb72 f q m) 10 []
abbrev X102' (f : Nat → Bool) (q : List Int) (m s : Nat) (b : Bool) : St := mkSt (slP ++ [(7, ⟨true, .av (.pb [] 64 f)⟩), (8, iS s), (3, iS s), (4, ⟨true, B b⟩)]) (Hb72 f q m) 10 []
abbrev Q102 (f : Nat → Bool) (q : List Int) (m s : Nat) (b : Bool) (v : Nat) : St := mkSt (slP ++ [(7, ⟨true, .av (.pb [] 64 f)⟩), (8, iS s), (3, iS s), (4, ⟨true, B b⟩), (12, iS v)]) (Hb72 f q m) 10 []
abbrev Q102' (f : Nat → Bool) (q : List Int) (m s : Nat) (b : Bool) (v : Nat) (c : Bool) : St := mkSt (slP ++ [(7, ⟨true, .av (.pb [] 64 f)⟩), (8, iS s), (3, iS s), (4, ⟨true, B b⟩), (12, iS v), (13, ⟨true, B c⟩)]) (Hb72 f q m) 10 []
abbrev R102 (f : Nat → Bool) (q : List Int) (m s : Nat) (b : Bool) (v : Nat) : St := mkSt (slP ++ [(7, ⟨true, .av (.pb [] 64 f)⟩), (8, iS s), (3, iS s), (4, ⟨true, B b⟩), (12, iS v), (5, iS v)]) (Hb72 f q m) 10 []
abbrev T102 (f : Nat → Bool) (q : List Int) (m s : Nat) (b : Bool) (v : Nat) (t : Int) : St := mkSt (slP ++ [(7, ⟨true, .av (.pb [] 64 f)⟩), (8, iS s), (3, iS s), (4, ⟨true, B b⟩), (12, iS v), (6, g1S 10)]) (Hb72 f q m ++ [prO s t]) 11 []
def L102 : XC := x102.body.b.i.i
def X102 : XC := L102.b.b.a.i
def M102 : XC := X102.b.b.i.i
def Y102 : XC := M102.b.b.a.i
noncomputable def LCp : List (Nat × Spec) := [(103, spCan)]
theorem LCp_ok : SpecsL LCp := specsL_cons ok103 (genS_fp) o103 (fun p hp => absurd hp (by simp))
noncomputable abbrev gCp : Cal → Option Spec := specsΓ LCp
theorem envCp : EnvOK PP T gCp := envL LCp_ok
theorem a102 {f : Nat → Bool} {q : List Int} {m : Nat}  : Exec PP T none x102.nt 10 x102.body.a (mkSt slP (Hb72 f q m) 10 []) .n (P102 f q m 0) := by
  refine exec_orunG env0 false 60 [] id10 (fun _ => rfl) (by kernel_rfl) (by kernel_rfl) (by kernel_rfl) (by kernel_rfl)
theorem l102a {f : Nat → Bool} {q : List Int} {m s : Nat} (hs : s < 64) : Exec PP T none x102.nt 10 L102.a (P102 f q m s) .n (P102' f q m s true) := by
  refine exec_prunG env0 [(9, true)] false 60 id10 (by kernel_rfl) (by kernel_rfl) (by kernel_rfl) ?_
  rw [(show obOf (prun [(9, true)] g0 false 60 L102.a (P102 f q m s)) = (decide (Int.ofNat s < 64) == true && true) from by kernel_rfl)]
  all_goals (first | rfl | (simp; done) | (simp; omega) | (simp [rng64]; done) | (simp [rng64]; omega) | (simp [rng64_eq]; omega))
theorem l102b {f : Nat → Bool} {q : List Int} {m s : Nat}  : Exec PP T none x102.nt 10 L102.b.a (P102' f q m s true) .n (P102 f q m s) := by
  refine exec_orunG env0 false 60 [true] id10 (fun _ => rfl) (by kernel_rfl) (by kernel_rfl) (by kernel_rfl) (by kernel_rfl)
theorem l102c {f : Nat → Bool} {q : List Int} {m s : Nat} (hs : s < 64) (h : f s = false) : Exec PP T none x102.nt 10 X102.a (P102 f q m s) .n (X102' f q m s false) := by
  refine exec_prunG env0 [(11, false)] false 60 id10 (by kernel_rfl) (by kernel_rfl) (by kernel_rfl) ?_
  rw [(show obOf (prun [(11, false)] g0 false 60 X102.a (P102 f q m s)) = (decide (0 + s * 1 < 64) && decide (0 ≤ Int.ofNat s) && decide (Int.ofNat s < 64) && f (0 + s * 1) == false && true) from by kernel_rfl)]
  simp [h]
  omega
theorem l102d {f : Nat → Bool} {q : List Int} {m s : Nat} (hs : s < 64) (h : f s = true) : Exec PP T none x102.nt 10 X102.a (P102 f q m s) .n (X102' f q m s true) := by
  refine exec_prunG env0 [(11, true)] false 60 id10 (by kernel_rfl) (by kernel_rfl) (by kernel_rfl) ?_
  rw [(show obOf (prun [(11, true)] g0 false 60 X102.a (P102 f q m s)) = (decide (0 + s * 1 < 64) && decide (0 ≤ Int.ofNat s) && decide (Int.ofNat s < 64) && f (0 + s * 1) == true && true) from by kernel_rfl)]
  simp [h]
  omega
theorem l102e {f : Nat → Bool} {q : List Int} {m s : Nat} {b : Bool}  : Exec PP T none x102.nt 10 X102.b.a (X102' f q m s b) .n (Q102 f q m s b 0) := by
  refine exec_orunG env0 false 60 [] id10 (fun _ => rfl) (by kernel_rfl) (by kernel_rfl) (by kernel_rfl) (by kernel_rfl)
theorem m102a {f : Nat → Bool} {q : List Int} {m s : Nat} {b : Bool} {v : Nat} (hv : v < 6) : Exec PP T none x102.nt 10 M102.a (Q102 f q m s b v) .n (Q102' f q m s b v true) := by
  refine exec_prunG env0 [(13, true)] false 60 id10 (by kernel_rfl) (by kernel_rfl) (by kernel_rfl) ?_
  rw [(show obOf (prun [(13, true)] g0 false 60 M102.a (Q102 f q m s b v)) = (decide (Int.ofNat v < 6) == true && true) from by kernel_rfl)]
  all_goals (first | rfl | (simp; done) | (simp; omega) | (simp [rng64]; done) | (simp [rng64]; omega) | (simp [rng64_eq]; omega))
theorem m102b {f : Nat → Bool} {q : List Int} {m s : Nat} {b : Bool} {v : Nat}  : Exec PP T none x102.nt 10 M102.b.a (Q102' f q m s b v true) .n (Q102 f q m s b v) := by
  refine exec_orunG env0 false 60 [true] id10 (fun _ => rfl) (by kernel_rfl) (by kernel_rfl) (by kernel_rfl) (by kernel_rfl)
theorem m102x {f : Nat → Bool} {q : List Int} {m s : Nat} {b : Bool}  : Exec PP T none x102.nt 10 M102.a (Q102 f q m s b 6) .n (Q102' f q m s b 6 false) := by
  refine exec_prunG env0 [(13, false)] false 60 id10 (by kernel_rfl) (by kernel_rfl) (by kernel_rfl) (by kernel_rfl)
theorem m102y {f : Nat → Bool} {q : List Int} {m s : Nat} {b : Bool}  : Exec PP T none x102.nt 10 M102.b.a (Q102' f q m s b 6 false) (.x 2) (P102 f q m s) := by
  refine exec_orunG env0 false 60 [false] id10 (fun _ => rfl) (by kernel_rfl) (by kernel_rfl) (by kernel_rfl) (by kernel_rfl)
theorem y102a {f : Nat → Bool} {q : List Int} {m s : Nat} {b : Bool} {v : Nat}  : Exec PP T none x102.nt 10 Y102.a (Q102 f q m s b v) .n (R102 f q m s b v) := by
  refine exec_orunG env0 false 60 [] id10 (fun _ => rfl) (by kernel_rfl) (by kernel_rfl) (by kernel_rfl) (by kernel_rfl)
theorem y102b {f : Nat → Bool} {q : List Int} {m s : Nat} {b : Bool} {v : Nat} (hs : s < 64) (hv : v < 6) : Exec PP T none x102.nt 10 Y102.b.a (R102 f q m s b v) .n (T102 f q m s b v (orI s v)) := by
  refine exec_orunG env0 false 60 [] id11 (fun _ => rfl) (by kernel_rfl) (by kernel_rfl) (by kernel_rfl) ?_
  rw [(show obOf (orun g0 false 60 Y102.b.a (R102 f q m s b v) []) = (decide (0 ≤ IntKind.u64.wrap (Int.ofNat v)) && rng64 (1 * 2 ^ min (IntKind.u64.wrap (Int.ofNat v)).toNat 64) && true) from by kernel_rfl)]
  have ht := or_tab s hs v hv
  have h1 : decide (0 ≤ IntKind.u64.wrap (Int.ofNat v)) = true := (show ∀ v, v < 6 → decide (0 ≤ IntKind.u64.wrap (Int.ofNat v)) = true from of_decide_eq_true (by kernel_rfl)) v hv
  have h2 : rng64 (1 * 2 ^ min (IntKind.u64.wrap (Int.ofNat v)).toNat 64) = true := (show ∀ v, v < 6 → rng64 (1 * 2 ^ min (IntKind.u64.wrap (Int.ofNat v)).toNat 64) = true from of_decide_eq_true (by kernel_rfl)) v hv
  rw [h1, h2]
  rfl
theorem y102f {f : Nat → Bool} {q : List Int} {m s : Nat} {v t : Nat}  : Exec PP T none x102.nt 10 Y102.b.b (T102 f q m s false v (Int.ofNat t)) .n (Q102 f q m s false v) := by
  refine exec_prunG envCp [(22, false)] false 60 id10 (by kernel_rfl) (by kernel_rfl) (by kernel_rfl) (by kernel_rfl)
theorem y102s {f : Nat → Bool} {q : List Int} {m s : Nat} {v : Nat}  : Exec PP T none x102.nt 10 Y102.b.b (T102 f q m s true v (Int.ofNat s)) .n (Q102 f q m s true v) := by
  refine exec_prunG envCp [(28, false)] false 60 id10 (by kernel_rfl) (by kernel_rfl) (by kernel_rfl) ?_
  rw [(show obOf (prun [(28, false)] gCp false 60 Y102.b.b (T102 f q m s true v (Int.ofNat s))) = ((true != ([Int.ofNat s, Int.ofNat s] == [Int.ofNat s, Int.ofNat s] && true)) == false && true && true) from by kernel_rfl)]
  simp
theorem y102n {f : Nat → Bool} {q : List Int} {m s : Nat} {v t : Nat} (hs : s < 64) (ht : t < 64) (h0 : 0 < t) (hne : t ≠ s) (h : canQ f s t = false) : Exec PP T none x102.nt 10 Y102.b.b (T102 f q m s true v (Int.ofNat t)) .n (Q102 f q m s true v) := by
  refine exec_prunG envCp [(28, true), (33, false)] false 60 id10 (by kernel_rfl) (by kernel_rfl) (by kernel_rfl) ?_
  rw [(show obOf (prun [(28, true), (33, false)] gCp false 60 Y102.b.b (T102 f q m s true v (Int.ofNat t))) = ((true != ([Int.ofNat s, Int.ofNat t] == [Int.ofNat s, Int.ofNat s] && true)) == true && (decide (0 ≤ Int.ofNat s) && decide (Int.ofNat s < 64) && decide (0 < Int.ofNat t) && decide (Int.ofNat t < 64) && canQ f s t == false && true) && true) from by kernel_rfl)]
  have h1 : ([Int.ofNat s, Int.ofNat t] == [Int.ofNat s, Int.ofNat s]) = false := by simp; omega
  rw [h1, h]
  simp
  omega
theorem m102e {f : Nat → Bool} {q : List Int} {m s : Nat} {b : Bool} {v : Nat} (hv : v < 6) : Exec PP T none x102.nt 10 M102.b.b.b (Q102 f q m s b v) .n (Q102 f q m s b (v + 1)) := by
  refine exec_orunG env0 false 60 [] id10 (fun _ => rfl) (by kernel_rfl) (by kernel_rfl) (by kernel_rfl) ?_
  rw [(show obOf (orun g0 false 60 M102.b.b.b (Q102 f q m s b v) []) = (rng64 (Int.ofNat v.succ) && true) from by kernel_rfl)]
  all_goals (first | rfl | (simp; done) | (simp; omega) | (simp [rng64]; done) | (simp [rng64]; omega) | (simp [rng64_eq]; omega))
theorem l102i {f : Nat → Bool} {q : List Int} {m s : Nat} (hs : s < 64) : Exec PP T none x102.nt 10 L102.b.b.b (P102 f q m s) .n (P102 f q m (s + 1)) := by
  refine exec_orunG env0 false 60 [] id10 (fun _ => rfl) (by kernel_rfl) (by kernel_rfl) (by kernel_rfl) ?_
  rw [(show obOf (orun g0 false 60 L102.b.b.b (P102 f q m s) []) = (rng64 (Int.ofNat s.succ) && true) from by kernel_rfl)]
  all_goals (first | rfl | (simp; done) | (simp; omega) | (simp [rng64]; done) | (simp [rng64]; omega) | (simp [rng64_eq]; omega))
/-- behind a round: the faces, the list, the result true, the loop left -/
abbrev HE72 (g f : Nat → Bool) (q' : List Int) (m' : Nat) : List HO := Hr72 g m' (lpF (endLS .r)) ⟨false, .gone⟩ true f (.sl 10 0 2 m') ++ [vO q']
abbrev updR (g : Nat → Bool) (k m' : Nat) : List (Nat × HO) := [(9, lpF (endLS .r)), (0, ⟨false, .row 95 [] 64 g⟩), (3, ⟨false, .row 22 [.sl k 0 2 m'] 0 ff⟩), (5, ⟨false, .gone⟩), (6, ⟨false, .row 4 [.bool true] 0 ff⟩)]
/-- a round at its place -/
noncomputable abbrev spRd (f : Nat → Bool) (q : List Int) (m s t : Nat) (g : Nat → Bool) (q' : List Int) (m' : Nat) : Spec := spAt [arV (Int.ofNat s) (Int.ofNat t)] (mkSt [] (Hb72 f q m ++ [prO (Int.ofNat s) (Int.ofNat t)]) 11 []).hp.get 19 (B false) (updR g 19 m') [vO q']
noncomputable def LRd (sp : Spec) : Cal → Option Spec := fun c => match c with
  | .f f => bif Nat.beq f 103 then some spCan else none
  | .y j => bif Nat.beq j 9 then some sp else none
theorem envRd {sp : Spec} (h : YieldOK PP (compC T) 9 sp) (hfp : SpecFp sp) : EnvOK PP T (LRd sp) where
  tok := tokP
  eqok := eqokP
  G := ⟨fun f sp' hf => by
    simp only [LRd] at hf
    cases hb : Nat.beq f 103 with
    | false => rw [hb] at hf; cases hf
    | true =>
      rw [hb, cond_true] at hf
      cases hf
      rw [Nat.eq_of_beq_eq_true hb]
      exact ok103, fun j sp' hj => by
    simp only [LRd] at hj
    cases hb : Nat.beq j 9 with
    | false => rw [hb] at hj; cases hj
    | true =>
      rw [hb, cond_true] at hj
      cases hj
      rw [Nat.eq_of_beq_eq_true hb]
      exact h⟩
  B := fun f sp' hf => by
    simp only [LRd] at hf
    cases hb : Nat.beq f 103 with
    | false => rw [hb] at hf; cases hf
    | true =>
      rw [Nat.eq_of_beq_eq_true hb]
      exact o103.1
  F := fun c sp' hc => by
    cases c with
    | f f =>
      simp only [LRd] at hc
      cases hb : Nat.beq f 103 with
      | false => rw [hb] at hc; cases hc
      | true =>
        rw [hb, cond_true] at hc
        cases hc
        exact genS_fp
    | y j =>
      simp only [LRd] at hc
      cases hb : Nat.beq j 9 with
      | false => rw [hb] at hc; cases hc
      | true =>
        rw [hb, cond_true] at hc
        cases hc
        exact hfp
  mix := mixP
theorem y102y {f g : Nat → Bool} {q q' : List Int} {m m' s v t : Nat} (hy : YieldOK PP (compC T) 9 (spRd f q m s t g q' m')) (hs : s < 64) (ht : t < 64) (h0 : 0 < t) (hne : t ≠ s) (h : canQ f s t = true) : Exec PP T none x102.nt 10 Y102.b.b (T102 f q m s true v (Int.ofNat t)) .r (mkSt [] (HE72 g f q' m') 11 []) := by
  refine exec_prunG (envRd hy spAt_fp) [(28, true), (33, true)] false 60 [0, 1, 2, 3, 4, 5, 6, 7, 8, 9, 19] (by kernel_rfl) (by kernel_rfl) (by kernel_rfl) ?_
  rw [(show obOf (prun [(28, true), (33, true)] (LRd (spRd f q m s t g q' m')) false 60 Y102.b.b (T102 f q m s true v (Int.ofNat t))) = ((true != ([Int.ofNat s, Int.ofNat t] == [Int.ofNat s, Int.ofNat s] && true)) == true && (decide (0 ≤ Int.ofNat s) && decide (Int.ofNat s < 64) && decide (0 < Int.ofNat t) && decide (Int.ofNat t < 64) && canQ f s t == true && (atB [arV (Int.ofNat s) (Int.ofNat t)] [arV (Int.ofNat s) (Int.ofNat t)] (mkSt [] (Hb72 f q m ++ [prO (Int.ofNat s) (Int.ofNat t)]) 11 []).hp.get (mkSt [] (Hb72 f q m ++ [prO (Int.ofNat s) (Int.ofNat t)]) 11 []).hp.get 19 19 && true && true && true)) && true) from by kernel_rfl)]
  have h1 : ([Int.ofNat s, Int.ofNat t] == [Int.ofNat s, Int.ofNat s]) = false := by simp; omega
  rw [h1, h]
  simp
  omega
def pvK (f : Nat → Bool) (s v : Nat) : Bool := f s && !(Nat.beq (s ||| 2 ^ v) s) && canQ f s (s ||| 2 ^ v)
theorem or_pos {s v : Nat} : 0 < s ||| 2 ^ v := by
  have h : 2 ^ v ≤ s ||| 2 ^ v := Nat.right_le_or
  have := Nat.two_pow_pos v
  omega
theorem pre102 {f : Nat → Bool} {q : List Int} {m s v : Nat} {b : Bool} (hs : s < 64) (hv : v < 6) {e : XE} {S' : St} (he : e ≠ .n → True) (h : Exec PP T none x102.nt 10 Y102.b.b (T102 f q m s b v (Int.ofNat (s ||| 2 ^ v))) e S') : Exec PP T none x102.nt 10 Y102 (Q102 f q m s b v) e S' := by
  have h1 := y102b (f := f) (q := q) (m := m) (b := b) hs hv
  rw [(or_tab s hs v hv).1] at h1
  exact exec_seq (x := Y102.a) (y := Y102.b) y102a (exec_seq (x := Y102.b.a) (y := Y102.b.b) h1 h)
theorem miss102 {f : Nat → Bool} {q : List Int} {m s v : Nat} (hs : s < 64) (hv : v < 6) (h : pvK f s v = false) : Exec PP T none x102.nt 10 M102 (Q102 f q m s (f s) v) .n (Q102 f q m s (f s) (v + 1)) := by
  have ht := (or_tab s hs v hv).2
  have hp : 0 < s ||| 2 ^ v := or_pos
  refine exec_seq (x := M102.a) (y := M102.b) (m102a hv) (exec_seq (x := M102.b.a) (y := M102.b.b) m102b (exec_seq (x := .block 3 Y102) (y := M102.b.b.b) (exec_block (id := 3) (x := Y102) (e := .n) (pre102 hs hv (fun _ => trivial) ?_)) (m102e hv)))
  unfold pvK at h
  cases hf : f s with
  | false => exact y102f
  | true =>
    rw [hf] at h
    by_cases hne : (s ||| 2 ^ v) = s
    · rw [hne]
      exact y102s
    · rw [beqF hne] at h
      exact y102n hs ht hp hne (by simpa using h)
theorem row102 {f : Nat → Bool} {q : List Int} {m s : Nat} (hs : s < 64) (h : ∀ v, v < 6 → pvK f s v = false) : Exec PP T none x102.nt 10 L102 (P102 f q m s) .n (P102 f q m (s + 1)) := by
  refine exec_seq (x := L102.a) (y := L102.b) (l102a hs) (exec_seq (x := L102.b.a) (y := L102.b.b) l102b (exec_seq (x := .block 1 X102) (y := L102.b.b.b) (exec_block (id := 1) (x := X102) (e := .n) ?_) (l102i hs)))
  have ha : Exec PP T none x102.nt 10 X102.a (P102 f q m s) .n (X102' f q m s (f s)) := by
    cases hf : f s with
    | false => exact l102c hs hf
    | true => exact l102d hs hf
  refine exec_seq (x := X102.a) (y := X102.b) ha (exec_seq (x := X102.b.a) (y := .block 2 (.loop M102)) l102e (exec_block (id := 2) (e := .x 2) ?_))
  exact exec_loop_up (fun v => Q102 f q m s (f s) v) 6 (fun v hv => miss102 hs hv (h v hv)) (exec_seq (x := M102.a) (y := M102.b) m102x (exec_seq_x (x := M102.b.a) (y := M102.b.b) m102y (by simp))) (by simp) 0 (by omega)
theorem hit102 {f g : Nat → Bool} {q q' : List Int} {m m' s v : Nat} (hy : YieldOK PP (compC T) 9 (spRd f q m s (s ||| 2 ^ v) g q' m')) (hs : s < 64) (hv : v < 6) (h : ∀ u, u < v → pvK f s u = false) (hk : pvK f s v = true) : Exec PP T none x102.nt 10 L102 (P102 f q m s) .r (mkSt [] (HE72 g f q' m') 11 []) := by
  have ht := (or_tab s hs v hv).2
  have hp : 0 < s ||| 2 ^ v := or_pos
  refine exec_seq (x := L102.a) (y := L102.b) (l102a hs) (exec_seq (x := L102.b.a) (y := L102.b.b) l102b (exec_seq_x (x := .block 1 X102) (y := L102.b.b.b) (exec_block (id := 1) (x := X102) (e := .r) ?_) (by simp)))
  have ha : Exec PP T none x102.nt 10 X102.a (P102 f q m s) .n (X102' f q m s (f s)) := by
    cases hf : f s with
    | false => exact l102c hs hf
    | true => exact l102d hs hf
  refine exec_seq (x := X102.a) (y := X102.b) ha (exec_seq (x := X102.b.a) (y := .block 2 (.loop M102)) l102e (exec_block (id := 2) (e := .r) ?_))
  refine exec_loop_up (fun v => Q102 f q m s (f s) v) v (fun u hu => miss102 hs (by omega) (h u hu)) ?_ (by simp) 0 (by omega)
  refine exec_seq (x := M102.a) (y := M102.b) (m102a hv) (exec_seq (x := M102.b.a) (y := M102.b.b) m102b (exec_seq_x (x := .block 3 Y102) (y := M102.b.b.b) (exec_block (id := 3) (x := Y102) (e := .r) (pre102 hs hv (fun _ => trivial) ?_)) (by simp)))
  unfold pvK at hk
  simp only [Bool.and_eq_true, Bool.not_eq_true'] at hk
  obtain ⟨⟨k1, k2⟩, k3⟩ := hk
  rw [k1]
  exact y102y hy hs ht hp (fun e => by rw [beqT e] at k2; cases k2) k3
theorem body102 {f g : Nat → Bool} {q q' : List Int} {m m' s v : Nat} (hy : YieldOK PP (compC T) 9 (spRd f q m s (s ||| 2 ^ v) g q' m')) (hs : s < 64) (hv : v < 6) (h0 : ∀ r, r < s → ∀ u, u < 6 → pvK f r u = false) (h : ∀ u, u < v → pvK f s u = false) (hk : pvK f s v = true) : Exec PP T none x102.nt 10 x102.body (mkSt slP (Hb72 f q m) 10 []) .r (mkSt [] (HE72 g f q' m') 11 []) := by
  refine exec_seq (x := x102.body.a) (y := .block 0 (.loop L102)) a102 (exec_block (id := 0) (e := .r) ?_)
  exact exec_loop_up (fun s => P102 f q m s) s (fun r hr => row102 (by omega) (h0 r hr)) (hit102 hy hs hv h hk) (by simp) 0 (by omega)
end Go.Proofs.Yteekkjfjpoaihaa.Eng
namespace Go.Proofs.Yteekkjfjpoaihaa.Eng
open Go Go.Proofs
abbrev Fl := Bool × (Nat → Bool) × Nat × Nat × Nat × Nat × Nat × Option (Nat × Nat × List Int)
/-- what fall sees: the faces, where its objects are, the list -/
def flR (args : List AV) (h : Nat → Option HO) : Option Fl := match args with
  | [.s (.ptr g0 0 0), .s (.ptr g1 0 0), .s (.ptr g3 0 0), .s (.ptr g4 0 0)] => match h g0, h g1, h g3, h g4 with
    | some ⟨false, .row 95 [] 64 f⟩, some ⟨_, .row 101 [.mp g2] 0 _⟩, some ⟨false, .row 22 [sv] 0 _⟩, some ⟨_, .row 30 [.fn 72 [a, b, c, d]] 0 _⟩ =>
      match h g2 with
      | some ⟨_, .map (.bools 64) .bool1 []⟩ => match sv with
        | .nils => some (Nat.beq a g0 && Nat.beq b g1 && Nat.beq c g3 && Nat.beq d g4, f, g0, g1, g2, g3, g4, none)
        | .sl g5 0 2 m => match h g5 with
          | some ⟨false, .ivec 38 .i64 2 q⟩ => some (Nat.beq a g0 && Nat.beq b g1 && Nat.beq c g3 && Nat.beq d g4 && Nat.beq q.length (m * 2), f, g0, g1, g2, g3, g4, some (g5, m, q))
          | _ => none
        | _ => none
      | _ => none
    | _, _, _, _ => none
  | _ => none
/-- from the faces M to the faces Mf, by the pairs L, c of them -/
noncomputable def spFl (M Mf : Nat) (L : List Int) (c : Nat) : Spec where
  run := fun args h base => match flR args h with
    | some (vc, f, g0, _, _, g3, _, o) => match L with
      | [] => some ⟨vc && eqB 64 f (bitF M), B true, [], [], none⟩
      | a :: r => match o with
        | none => some ⟨vc && eqB 64 f (bitF M) && Nat.ble (0 + c) 90, B true, [(g0, ⟨false, .row 95 [] 64 (bitF Mf)⟩), (g3, ⟨false, .row 22 [.sl (base + 0) 0 2 (0 + c)] 0 ff⟩)], [vO (a :: r)], none⟩
        | some (g5, m, q) => some ⟨vc && eqB 64 f (bitF M) && Nat.ble (m + c) 90, B true, [(g0, ⟨false, .row 95 [] 64 (bitF Mf)⟩), (g3, ⟨false, .row 22 [.sl (base + 0) 0 2 (m + c)] 0 ff⟩), (g5, ⟨false, .gone⟩)], [vO (q ++ a :: r)], none⟩
    | none => none
theorem spFl_fp {M Mf : Nat} {L : List Int} {c : Nat} : SpecFp (spFl M Mf L c) := by
  intro args h h' base e hr hf
  have : h' = h := by
    simp only [spFl] at hr
    split at hr
    · split at hr
      · cases hr; exact hf
      · split at hr
        · cases hr; exact hf
        · cases hr; exact hf
    · cases hr
  rw [this]
  exact hr
abbrev HP72 (f g : Nat → Bool) (m : Nat) (l : HO) (b : Bool) (st : LS) (sv : SV) (s t : Nat) : List HO := Hr72 f m (lpF st) l b g sv ++ [⟨true, .row 108 [.int .i64 (Int.ofNat s), .int .i64 (Int.ofNat t)] 0 ff⟩]
abbrev id11n : List Nat := [0, 1, 2, 3, 4, 5, 6, 7, 8, 9, 10]
abbrev slF16 (s t : Nat) : List (Nat × Slot) := (16, ⟨true, .av (arV (Int.ofNat s) (Int.ofNat t))⟩) :: slF
abbrev P0 (f : Nat → Bool) (q : List Int) (m s t : Nat) : St := mkSt (slF16 s t) (HP72 f f m (vO q) false .ready (.sl 5 0 2 m) s t) 19 []
abbrev P1 (f g : Nat → Bool) (q : List Int) (m s t : Nat) (st : LS) : St := mkSt ((5, g1S 11) :: slF) (HP72 f g m (vO q) false st (.sl 5 0 2 m) s t ++ [prO (Int.ofNat s) (Int.ofNat t)]) 12 []
noncomputable abbrev P1b (f : Nat → Bool) (q : List Int) (m s t : Nat) : St := { P1 f f q m s t .ready with hp := (P1 f f q m s t .ready).hp.set 9 (lpF .busy) }
theorem q1_72 {r : Option Nat} {nt : Nat} {f : Nat → Bool} {q : List Int} {m s t : Nat} : Exec PP T r nt 11 a72 (P0 f q m s t) .n (P1 f f q m s t .ready) := by
  refine exec_orunG env0 true 60 [] (id11n ++ [19]) (fun h => (by cases h)) (by kernel_rfl) (by kernel_rfl) (by kernel_rfl) (by kernel_rfl)
theorem q2_72 {r : Option Nat} {nt : Nat} {f : Nat → Bool} {q : List Int} {m s t : Nat} : Exec PP T r nt 11 b72.i.a (P1b f q m s t) .n (P1 f f q m s t .busy) := by
  refine exec_orunG env0 true 60 [] (id11n ++ [11]) (fun h => (by cases h)) (by kernel_rfl) (by kernel_rfl) (by kernel_rfl) (by kernel_rfl)
def rm2 (f : Nat → Bool) (s t : Nat) : Nat → Bool := fun j => bif j.beq (0 - ([] : List SV).length + (0 + t * 1)) then false else bif j.beq (0 - ([] : List SV).length + (0 + s * 1)) then false else f j
theorem rm2_bit {M s t : Nat} (hs : bitF M s = true) (ht : bitF M t = true) (hne : t ≠ s) : rm2 (bitF M) s t = bitF (M ^^^ 2 ^ s ^^^ 2 ^ t) := by
  funext j
  unfold rm2 bitF at *
  rw [Nat.testBit_xor, Nat.testBit_xor, Nat.testBit_two_pow, Nat.testBit_two_pow]
  simp only [List.length_nil]
  by_cases h1 : j = t
  · subst h1
    rw [show 0 - 0 + (0 + j * 1) = j by omega, beqT rfl, cond_true, ht]
    simp
    omega
  · rw [show 0 - 0 + (0 + t * 1) = t by omega, beqF h1, cond_false]
    by_cases h2 : j = s
    · subst h2
      rw [show 0 - 0 + (0 + j * 1) = j by omega, beqT rfl, cond_true, hs]
      simp
      omega
    · rw [show 0 - 0 + (0 + s * 1) = s by omega, beqF h2, cond_false]
      simp [show ¬ s = j from fun e => h2 e.symm, show ¬ t = j from fun e => h1 e.symm]
theorem q3_72 {r : Option Nat} {nt : Nat} {f g : Nat → Bool} {q : List Int} {m s t : Nat} (hs : s < 64) (ht : t < 64) : Exec PP T r nt 11 b72.i.b.a (P1 f g q m s t .busy) .n (P1 (rm2 f s t) g q m s t .busy) := by
  refine exec_orunG env0 true 60 [] (id11n ++ [11]) (fun h => (by cases h)) (by kernel_rfl) (by kernel_rfl) (by kernel_rfl) ?_
  rw [(show obOf (orun g0 true 60 b72.i.b.a (P1 f g q m s t .busy) []) = (decide (0 ≤ Int.ofNat s) && decide (Int.ofNat s < 64) && (decide (0 + (0 + s * 1) < 64) && true && true && (decide (0 ≤ Int.ofNat t) && decide (Int.ofNat t < 64) && (decide (0 + (0 + t * 1) < 64) && true && true && true))) && true) from by kernel_rfl)]
  simp
  omega
abbrev P2 (f g : Nat → Bool) (q : List Int) (m s t : Nat) : St := mkSt slF (HP72 f g m ⟨false, .gone⟩ false .busy (.sl 11 0 2 m) s t ++ [vO q]) 12 []
abbrev P3 (f g : Nat → Bool) (q : List Int) (m s t : Nat) : St := mkSt [] (HP72 f g m ⟨false, .gone⟩ true .busy (.sl 11 0 2 m) s t ++ [vO q]) 12 []
theorem q4_72 {r : Option Nat} {nt : Nat} {f g : Nat → Bool} {q : List Int} {m s t : Nat} (hq : q.length = m * 2) (hm : m ≤ 100) : Exec PP T r nt 11 b72.i.b.b.a (P1 f g q m s t .busy) .n (P2 f g (q.take (m * 2) ++ [Int.ofNat s, Int.ofNat t]) (m + 1) s t) := by
  refine exec_orunG env0 true 60 [] (id11n ++ [13]) (fun h => (by cases h)) (by kernel_rfl) (by kernel_rfl) (by kernel_rfl) ?_
  rw [(show obOf (orun g0 true 60 b72.i.b.b.a (P1 f g q m s t .busy) []) = (decide (2 ≤ Nat.succ 1) && decide (m * 2 ≤ q.length) && decide (m.succ ≤ 1000000000) && true && true && true) from by kernel_rfl)]
  simp [bndL, hq]
  omega
theorem q5_72a {r : Option Nat} {nt : Nat} {g : Nat → Bool} {q : List Int} {M Mf m s t : Nat} (hf : SpecOK PP (compC T) 72 (spFl M Mf [] 0)) (hq : q.length = m * 2) (hm : m ≤ 100) : Exec PP T r nt 11 b72.i.b.b.b.a (P2 (bitF M) g q m s t) .r (P3 (bitF M) g q m s t) := by
  refine exec_orunG (envM hf spFl_fp o72) true 60 [true] (id11n ++ [11]) (fun h => (by cases h)) (by kernel_rfl) (by kernel_rfl) (by kernel_rfl) ?_
  rw [(show obOf (orun (gM 72 (spFl M Mf [] 0)) true 60 b72.i.b.b.b.a (P2 (bitF M) g q m s t) [true]) = (q.length.beq (m * 2) && eqB 64 (bitF M) (bitF M) && true && true) from by kernel_rfl)]
  simp [eqB_refl, hq, hm]
theorem q5_72b {r : Option Nat} {nt : Nat} {g : Nat → Bool} {q : List Int} {M Mf m s t : Nat} {a : Int} {l : List Int} {c : Nat} (hf : SpecOK PP (compC T) 72 (spFl M Mf (a :: l) c)) (hq : q.length = m * 2) (hm : m + c ≤ 90) : Exec PP T r nt 11 b72.i.b.b.b.a (P2 (bitF M) g q m s t) .r (P3 (bitF Mf) g (q ++ a :: l) (m + c) s t) := by
  refine exec_orunG (envM hf spFl_fp o72) true 60 [true] (id11n ++ [12]) (fun h => (by cases h)) (by kernel_rfl) (by kernel_rfl) (by kernel_rfl) ?_
  rw [(show obOf (orun (gM 72 (spFl M Mf (a :: l) c)) true 60 b72.i.b.b.b.a (P2 (bitF M) g q m s t) [true]) = (q.length.beq (m * 2) && eqB 64 (bitF M) (bitF M) && (m + c).ble 90 && true && true && true && true) from by kernel_rfl)]
  simp [eqB_refl, hq, hm]
/-- what follows the first pair: the faces, the list, how many -/
theorem q6_72 {r : Option Nat} {nt : Nat} {q : List Int} {M Mf m s t : Nat} {L : List Int} {c : Nat} (hL : L = [] → Mf = M ^^^ 2 ^ s ^^^ 2 ^ t ∧ c = 0) (hf : SpecOK PP (compC T) 72 (spFl (M ^^^ 2 ^ s ^^^ 2 ^ t) Mf L c)) (hq : q.length = m * 2) (hm : m + 1 + c ≤ 90) (hs : s < 64) (ht : t < 64) (h1 : bitF M s = true) (h2 : bitF M t = true) (hne : t ≠ s) :
    Exec PP T r nt 11 b72 (P1b (bitF M) q m s t) .r (P3 (bitF Mf) (bitF M) (q ++ Int.ofNat s :: Int.ofNat t :: L) (m + 1 + c) s t) := by
  have e3 := q3_72 (r := r) (nt := nt) (f := bitF M) (g := bitF M) (q := q) (m := m) hs ht
  rw [rm2_bit h1 h2 hne] at e3
  have e4 := q4_72 (r := r) (nt := nt) (f := bitF (M ^^^ 2 ^ s ^^^ 2 ^ t)) (g := bitF M) (s := s) (t := t) hq (by omega)
  rw [List.take_of_length_le (by omega)] at e4
  refine exec_block (id := 1) (x := b72.i) (e := .r) (exec_seq (x := b72.i.a) (y := b72.i.b) q2_72 (exec_seq (x := b72.i.b.a) (y := b72.i.b.b) e3 (exec_seq (x := b72.i.b.b.a) (y := b72.i.b.b.b) e4 (exec_seq_x (x := b72.i.b.b.b.a) (y := b72.i.b.b.b.b) ?_ (by simp)))))
  cases L with
  | nil =>
    obtain ⟨rfl, rfl⟩ := hL rfl
    exact q5_72a hf (by simp [hq]; omega) (by omega)
  | cons a l =>
    have := q5_72b (r := r) (nt := nt) (g := bitF M) (q := q ++ [Int.ofNat s, Int.ofNat t]) (m := m + 1) (s := s) (t := t) hf (by simp [hq]; omega) (by omega)
    refine exec_eq this ?_
    rw [List.append_assoc]
    rfl
abbrev H1R (g f : Nat → Bool) (q : List Int) (m s t : Nat) : List HO := HP72 g f m ⟨false, .gone⟩ true (endLS .r) (.sl 11 0 2 m) s t ++ [vO q]
theorem atOK_R {f g : Nat → Bool} {q q' : List Int} {m m' s t : Nat} : AtOK (mkSt [] (Hb72 f q m ++ [prO (Int.ofNat s) (Int.ofNat t)]) 11 []).hp.get (mkSt [] (HP72 f f m (vO q) false .ready (.sl 5 0 2 m) s t) 11 []).hp 11 19 (updR g 19 m') [vO q'] (H1R g f q' m' s t) where
  start := fun j o hj => by
    rw [mkSt_hp] at hj
    rw [mkSt_hp]
    match j, hj with
    | 0, hj => cases hj; exact ⟨_, rfl, rfl, fun _ => ⟨rfl, fun _ => ⟨_, .tail _ (.head _), rfl⟩⟩⟩
    | 1, hj => cases hj; exact ⟨_, rfl, rfl, fun h => by cases h⟩
    | 2, hj => cases hj; exact ⟨_, rfl, rfl, fun h => by cases h⟩
    | 3, hj => cases hj; exact ⟨_, rfl, rfl, fun _ => ⟨rfl, fun _ => ⟨_, .tail _ (.tail _ (.head _)), rfl⟩⟩⟩
    | 4, hj => cases hj; exact ⟨_, rfl, rfl, fun h => by cases h⟩
    | 5, hj => cases hj; exact ⟨_, rfl, rfl, fun _ => ⟨rfl, fun _ => ⟨_, .tail _ (.tail _ (.tail _ (.head _))), rfl⟩⟩⟩
    | 6, hj => cases hj; exact ⟨_, rfl, rfl, fun _ => ⟨rfl, fun _ => ⟨_, .tail _ (.tail _ (.tail _ (.tail _ (.head _)))), rfl⟩⟩⟩
    | 7, hj => cases hj; exact ⟨_, rfl, rfl, fun h => by cases h⟩
    | 8, hj => cases hj; exact ⟨_, rfl, rfl, fun h => by cases h⟩
    | 9, hj => cases hj; exact ⟨_, rfl, rfl, fun _ => ⟨rfl, fun _ => ⟨_, .head _, rfl⟩⟩⟩
    | 10, hj => cases hj; exact ⟨_, rfl, rfl, fun h => by cases h⟩
    | j + 11, hj => simp at hj
  keep := fun j hj => by
    rw [mkSt_hp]
    simp
    omega
  len := rfl
  new := rfl
  news_eq := rfl
  upd_eq := fun u hu => by
    simp only [List.mem_cons, List.not_mem_nil, or_false] at hu
    rcases hu with rfl | rfl | rfl | rfl | rfl
    · exact .inr ⟨(by show 9 < 11; omega), _, rfl, rfl, rfl, fun _ j hj => by
        have : j = 0 ∨ j = 1 ∨ j = 3 ∨ j = 4 ∨ j = 6 ∨ j = 7 := by simpa [AO.ids, Sto.vals, TV.ids, AV.ids, SV.ids] using hj
        omega⟩
    · exact .inr ⟨(by show 0 < 11; omega), _, rfl, rfl, rfl, fun h => by cases h⟩
    · exact .inr ⟨(by show 3 < 11; omega), _, rfl, rfl, rfl, fun h => by cases h⟩
    · exact .inl ⟨rfl, rfl⟩
    · exact .inr ⟨(by show 6 < 11; omega), _, rfl, rfl, rfl, fun h => by cases h⟩
  ids := fun j o hj i hi => by
    show i < 12
    match j, hj with
    | 0, hj => cases hj; simp [AO.ids, SV.ids] at hi
    | 1, hj => cases hj; simp [AO.ids, SV.ids] at hi; omega
    | 2, hj => cases hj; simp [AO.ids, SV.ids] at hi
    | 3, hj => cases hj; simp [AO.ids, SV.ids] at hi; omega
    | 4, hj =>
      cases hj
      have : i = 0 ∨ i = 1 ∨ i = 3 ∨ i = 4 := by simpa [AO.ids, SV.ids] using hi
      omega
    | 5, hj => cases hj; simp [AO.ids, SV.ids] at hi
    | 6, hj => cases hj; simp [AO.ids, SV.ids] at hi
    | 7, hj => cases hj; simp [AO.ids, SV.ids] at hi
    | 8, hj => cases hj; simp [AO.ids, SV.ids] at hi
    | 9, hj =>
      cases hj
      have : i = 0 ∨ i = 1 ∨ i = 3 ∨ i = 4 ∨ i = 6 ∨ i = 7 := by simpa [AO.ids, Sto.vals, TV.ids, AV.ids, SV.ids] using hi
      omega
    | 10, hj => cases hj; simp [AO.ids, SV.ids] at hi
    | 11, hj => cases hj; simp [AO.ids, SV.ids] at hi
    | j + 12, hj => simp at hj
theorem ok_R {q : List Int} {M Mf m s t : Nat} {L : List Int} {c : Nat} (hL : L = [] → Mf = M ^^^ 2 ^ s ^^^ 2 ^ t ∧ c = 0) (hf : SpecOK PP (compC T) 72 (spFl (M ^^^ 2 ^ s ^^^ 2 ^ t) Mf L c)) (hq : q.length = m * 2) (hm : m + 1 + c ≤ 90) (hs : s < 64) (ht : t < 64) (h1 : bitF M s = true) (h2 : bitF M t = true) (hne : t ≠ s) :
    YieldOK PP (compC T) 9 (spRd (bitF M) q m s t (bitF Mf) (q ++ Int.ofNat s :: Int.ofNat t :: L) (m + 1 + c)) :=
  yield_at (S := (mkSt [] (HP72 (bitF M) (bitF M) m (vO q) false .ready (.sl 5 0 2 m) s t) 11 []).hp) (K := 11) (slS := .al (slF16 s t)) (ex := .r) (bv := false) (S1 := P1 (bitF M) (bitF M) q m s t .ready) (S2 := P3 (bitF Mf) (bitF M) (q ++ Int.ofNat s :: Int.ofNat t :: L) (m + 1 + c) s t) atOK_R (fun j hj => by
    rw [mkSt_hp, List.getElem?_eq_none_iff] at hj
    rw [mkSt_hp]
    exact List.getElem?_eq_none (by simpa using hj)) (by decide) rfl rfl (fun u s' hs' => by
    simp only [setPs]
    have hs' : alGet (slF16 s t) u = some s' := hs'
    rw [alGet_cons] at hs'
    by_cases h : u = 16
    · subst h
      rw [beqT rfl, cond_true] at hs'
      rw [if_pos rfl]; exact hs'
    · rw [beqF (fun e => h e.symm), cond_false] at hs'
      rw [if_neg h]; exact hs') (fun l nt => q1_72) rfl (fun l nt => q6_72 hL hf hq hm hs ht h1 h2 hne) rfl (fun j => mkSt_set (by simp) _ j) rfl
end Go.Proofs.Yteekkjfjpoaihaa.Eng
namespace Go.Proofs.Yteekkjfjpoaihaa.Eng
open Go Go.Proofs
theorem F72_eq : F72 = .rf (.t 15) [16] a72 b72 := by kernel_rfl
/-- the objects of fall at its start; ro: nothing is turned -/
abbrev HF0 (ro : Bool) (f : Nat → Bool) (q : List Int) (m : Nat) : List HO := [⟨ro, .row 95 [] 64 f⟩, ⟨true, .row 101 [.mp 2] 0 ff⟩, ⟨true, .map (.bools 64) .bool1 []⟩, ⟨ro, .row 22 [.sl 5 0 2 m] 0 ff⟩, ⟨true, .row 30 [.fn 72 [0, 1, 3, 4]] 0 ff⟩, ⟨ro, .ivec 38 .i64 2 q⟩]
abbrev A72 : List AV := [.s (.ptr 0 0 0), .s (.ptr 1 0 0), .s (.ptr 3 0 0), .s (.ptr 4 0 0)]
abbrev slA72 : List (Nat × Slot) := [(0, g1S 0), (1, g1S 1), (2, g1S 3), (3, g1S 4), (4, g1S 6)]
abbrev clO (b : Bool) : HO := ⟨false, .row 4 [.bool b] 0 ff⟩
noncomputable def LLs : List (Nat × Spec) := [(73, spList)]
theorem LLs_ok : SpecsL LLs := specsL_cons ok73 (genS_fp) o73 (fun p hp => absurd hp (by simp))
noncomputable abbrev gLs : Cal → Option Spec := specsΓ LLs
theorem envLs : EnvOK PP T gLs := envL LLs_ok
theorem a72f {ro : Bool} {f : Nat → Bool} {q : List Int} {m : Nat}  : Exec PP T none x72.nt 6 x72.body.a (mkSt (slotsOf A72) (HF0 ro f q m) 6 []) .n (mkSt slA72 (HF0 ro f q m ++ [clO false]) 7 []) := by
  refine exec_orunG env0 false 60 [] [0, 1, 2, 3, 4, 5, 6] (fun _ => rfl) (by kernel_rfl) (by kernel_rfl) (by kernel_rfl) (by kernel_rfl)
theorem b72t {f : Nat → Bool} {q : List Int} {m : Nat} (h : (lstF f 64).length = 2) : Exec PP T none x72.nt 6 x72.body.b.a (mkSt slA72 (HF0 true f q m ++ [clO false]) 7 []) .r (mkSt [(4, g1S 6)] (HF0 true f q m ++ [clO true]) 7 []) := by
  refine exec_prunG envLs [(10, true)] false 60 [0, 1, 2, 3, 4, 5, 6] (by kernel_rfl) (by kernel_rfl) (by kernel_rfl) ?_
  rw [(show obOf (prun [(10, true)] gLs false 60 x72.body.b.a (mkSt slA72 (HF0 true f q m ++ [clO false]) 7 [])) = ((Int.ofNat (lstF f 64).length == 2) == true && true && true) from by kernel_rfl)]
  simp [h]
theorem b72f {f : Nat → Bool} {q : List Int} {m : Nat} (h : (lstF f 64).length ≠ 2) : Exec PP T none x72.nt 6 x72.body.b.a (mkSt slA72 (HF0 false f q m ++ [clO false]) 7 []) .n (mkSt slA72 (HF0 false f q m ++ [clO false]) 7 []) := by
  refine exec_prunG envLs [(10, false)] false 60 [0, 1, 2, 3, 4, 5, 6] (by kernel_rfl) (by kernel_rfl) (by kernel_rfl) ?_
  rw [(show obOf (prun [(10, false)] gLs false 60 x72.body.b.a (mkSt slA72 (HF0 false f q m ++ [clO false]) 7 [])) = ((Int.ofNat (lstF f 64).length == 2) == false && true && true) from by kernel_rfl)]
  simp
  omega
theorem c72f {f : Nat → Bool} {q : List Int} {m : Nat}  : Exec PP T none x72.nt 6 x72.body.b.b.a (mkSt slA72 (HF0 false f q m ++ [clO false]) 7 []) .n (mkSt slA72 (HF0 false f q m ++ [clO false]) 7 []) := by
  refine exec_orunG env0 false 60 [false] [0, 1, 2, 3, 4, 5, 6] (fun _ => rfl) (by kernel_rfl) (by kernel_rfl) (by kernel_rfl) (by kernel_rfl)
theorem d72f {f : Nat → Bool} {q : List Int} {m : Nat}  : Exec PP T none x72.nt 6 x72.body.b.b.b.a.a (mkSt slA72 (HF0 false f q m ++ [clO false]) 7 []) .n (mkSt slF (HF0 false f q m ++ [clO false, ⟨false, .row 95 [] 64 f⟩]) 8 []) := by
  refine exec_orunG envA false 60 [] [0, 1, 2, 3, 4, 5, 6, 7] (fun _ => rfl) (by kernel_rfl) (by kernel_rfl) (by kernel_rfl) (by kernel_rfl)
abbrev S8 (f : Nat → Bool) (q : List Int) (m : Nat) : St := mkSt slF (HF0 false f q m ++ [clO false, ⟨false, .row 95 [] 64 f⟩]) 8 []
noncomputable abbrev H8 (f : Nat → Bool) (q : List Int) (m : Nat) : Sto HO := rfH (S8 f q m) [16] a72 b72
abbrev AQ72 : List AV := [.s (.yield 9), .s (.ptr 7 0 0)]
noncomputable abbrev spQ72 (f : Nat → Bool) (q : List Int) (m : Nat) (g : Nat → Bool) (q' : List Int) (m' : Nat) : Spec := spAt AQ72 (H8 f q m).get 10 (.tup []) (updR g 10 m') [vO q']
theorem atOK_Q72 {f g : Nat → Bool} {q q' : List Int} {m m' : Nat} : AtOK (H8 f q m).get (mkSt [] (Hb72 f q m) 10 []).hp 10 10 (updR g 10 m') [vO q'] (HE72 g f q' m') where
  start := fun j o hj => by
    rw [mkSt_hp] at hj
    match j, hj with
    | 0, hj => cases hj; exact ⟨⟨false, .row 95 [] 64 f⟩, by kernel_rfl, rfl, fun _ => ⟨rfl, fun _ => ⟨_, .tail _ (.head _), rfl⟩⟩⟩
    | 1, hj => cases hj; exact ⟨⟨true, .row 101 [.mp 2] 0 ff⟩, by kernel_rfl, rfl, fun h => by cases h⟩
    | 2, hj => cases hj; exact ⟨⟨true, .map (.bools 64) .bool1 []⟩, by kernel_rfl, rfl, fun h => by cases h⟩
    | 3, hj => cases hj; exact ⟨⟨false, .row 22 [.sl 5 0 2 m] 0 ff⟩, by kernel_rfl, rfl, fun _ => ⟨rfl, fun _ => ⟨_, .tail _ (.tail _ (.head _)), rfl⟩⟩⟩
    | 4, hj => cases hj; exact ⟨⟨true, .row 30 [.fn 72 [0, 1, 3, 4]] 0 ff⟩, by kernel_rfl, rfl, fun h => by cases h⟩
    | 5, hj => cases hj; exact ⟨vO q, by kernel_rfl, rfl, fun _ => ⟨rfl, fun _ => ⟨_, .tail _ (.tail _ (.tail _ (.head _))), rfl⟩⟩⟩
    | 6, hj => cases hj; exact ⟨clO false, by kernel_rfl, rfl, fun _ => ⟨rfl, fun _ => ⟨_, .tail _ (.tail _ (.tail _ (.tail _ (.head _)))), rfl⟩⟩⟩
    | 7, hj => cases hj; exact ⟨⟨false, .row 95 [] 64 f⟩, by kernel_rfl, rfl, fun h => by cases h⟩
    | 8, hj => cases hj; exact ⟨⟨false, .dfr⟩, by kernel_rfl, rfl, fun h => by cases h⟩
    | 9, hj => cases hj; exact ⟨lpF .ready, by kernel_rfl, rfl, fun _ => ⟨rfl, fun _ => ⟨_, .head _, rfl⟩⟩⟩
    | j + 10, hj => simp at hj
  keep := fun j hj => by
    rw [mkSt_hp]
    simp
    omega
  len := rfl
  new := rfl
  news_eq := rfl
  upd_eq := fun u hu => by
    simp only [List.mem_cons, List.not_mem_nil, or_false] at hu
    rcases hu with rfl | rfl | rfl | rfl | rfl
    · exact .inr ⟨(by show 9 < 10; omega), _, rfl, rfl, rfl, fun _ j hj => by
        have : j = 0 ∨ j = 1 ∨ j = 3 ∨ j = 4 ∨ j = 6 ∨ j = 7 := by simpa [AO.ids, Sto.vals, TV.ids, AV.ids, SV.ids] using hj
        omega⟩
    · exact .inr ⟨(by show 0 < 10; omega), _, rfl, rfl, rfl, fun h => by cases h⟩
    · exact .inr ⟨(by show 3 < 10; omega), _, rfl, rfl, rfl, fun h => by cases h⟩
    · exact .inl ⟨rfl, rfl⟩
    · exact .inr ⟨(by show 6 < 10; omega), _, rfl, rfl, rfl, fun h => by cases h⟩
  ids := fun j o hj i hi => by
    show i < 11
    match j, hj with
    | 0, hj => cases hj; simp [AO.ids, SV.ids] at hi
    | 1, hj => cases hj; simp [AO.ids, SV.ids] at hi; omega
    | 2, hj => cases hj; simp [AO.ids, SV.ids] at hi
    | 3, hj => cases hj; simp [AO.ids, SV.ids] at hi; omega
    | 4, hj =>
      cases hj
      have : i = 0 ∨ i = 1 ∨ i = 3 ∨ i = 4 := by simpa [AO.ids, SV.ids] using hi
      omega
    | 5, hj => cases hj; simp [AO.ids, SV.ids] at hi
    | 6, hj => cases hj; simp [AO.ids, SV.ids] at hi
    | 7, hj => cases hj; simp [AO.ids, SV.ids] at hi
    | 8, hj => cases hj; simp [AO.ids, SV.ids] at hi
    | 9, hj =>
      cases hj
      have : i = 0 ∨ i = 1 ∨ i = 3 ∨ i = 4 ∨ i = 6 ∨ i = 7 := by simpa [AO.ids, Sto.vals, TV.ids, AV.ids, SV.ids] using hi
      omega
    | 10, hj => cases hj; simp [AO.ids, SV.ids] at hi
    | j + 11, hj => simp at hj
theorem ok_Q72 {f g : Nat → Bool} {q q' : List Int} {m m' : Nat} (hb : Exec PP T none x102.nt 10 x102.body (mkSt slP (Hb72 f q m) 10 []) .r (mkSt [] (HE72 g f q' m') 11 [])) : SpecOK PP (compC T) 102 (spQ72 f q m g q' m') := by
  refine spec_at (S := (mkSt [] (Hb72 f q m) 10 []).hp) (K := 10) (ts := []) (nx := 11) (ex := .r) o102 atOK_Q72 (fun j o hj i hi => ?_) (fun i hi => ?_) (by kernel_rfl) hb (.inr rfl) (by kernel_rfl)
  · rw [mkSt_hp] at hj ⊢
    have : i < 10 := by
      match j, hj with
      | 0, hj => cases hj; simp [AO.ids, SV.ids] at hi
      | 1, hj => cases hj; simp [AO.ids, SV.ids] at hi; omega
      | 2, hj => cases hj; simp [AO.ids, SV.ids] at hi
      | 3, hj => cases hj; simp [AO.ids, SV.ids] at hi; omega
      | 4, hj =>
        cases hj
        have : i = 0 ∨ i = 1 ∨ i = 3 ∨ i = 4 := by simpa [AO.ids, SV.ids] using hi
        omega
      | 5, hj => cases hj; simp [AO.ids, SV.ids] at hi
      | 6, hj => cases hj; simp [AO.ids, SV.ids] at hi
      | 7, hj => cases hj; simp [AO.ids, SV.ids] at hi
      | 8, hj => cases hj; simp [AO.ids, SV.ids] at hi
      | 9, hj =>
        cases hj
        have : i = 0 ∨ i = 1 ∨ i = 3 ∨ i = 4 ∨ i = 6 ∨ i = 7 := by simpa [AO.ids, Sto.vals, TV.ids, AV.ids, SV.ids] using hi
        omega
      | j + 10, hj => simp at hj
    simp
    omega
  · rw [mkSt_hp]
    have : i = 9 ∨ i = 7 := by simpa [AV.ids, SV.ids] using hi
    simp
    omega
/-- the objects of fall at its end -/
abbrev HF1 (g : Nat → Bool) (q' : List Int) (m' : Nat) : List HO := [⟨false, .row 95 [] 64 g⟩, ⟨true, .row 101 [.mp 2] 0 ff⟩, ⟨true, .map (.bools 64) .bool1 []⟩, ⟨false, .row 22 [.sl 6 0 2 m'] 0 ff⟩, ⟨true, .row 30 [.fn 72 [0, 1, 3, 4]] 0 ff⟩, ⟨false, .gone⟩, vO q', clO true, ⟨false, .dfr⟩]
noncomputable abbrev eQ72 (f : Nat → Bool) (q : List Int) (m : Nat) (g : Nat → Bool) (q' : List Int) (m' : Nat) : Eff := ⟨atB AQ72 AQ72 (H8 f q m).get (H8 f q m).get 10 10, .tup [], updR g 10 m', [vO q'], none⟩
theorem rf72 {f g : Nat → Bool} {q q' : List Int} {m m' : Nat} (hb : Exec PP T none x102.nt 10 x102.body (mkSt slP (Hb72 f q m) 10 []) .r (mkSt [] (HE72 g f q' m') 11 [])) : Exec PP T none x72.nt 6 F72 (S8 f q m) .r (mkSt [(4, g1S 7)] (HF1 g q' m') 9 [8]) := by
  rw [F72_eq]
  have hE : EnvOK PP T (specsΓ [(102, spQ72 f q m g q' m')]) := envL (specsL_cons (ok_Q72 hb) spAt_fp o102 (fun p hp => absurd hp (by simp)))
  have key := exec_rf (nt := x72.nt) (kp := 6) hE (f := .t 15) (ps := [16]) (asg := a72) (body := b72) (S := S8 f q m) (fid := 102) (caps := [7]) (sp := spQ72 f q m g q' m') (e := eQ72 f q m g q' m') (sl2 := .al slF) (ps2 := [16]) (asg2 := a72) (body2 := b72) (st := endLS .r) (ex := .r)
    (by kernel_rfl) (by kernel_rfl) (by kernel_rfl) (by kernel_rfl) rfl (atB_t rfl rfl rfl) (by kernel_rfl) (by kernel_rfl) (by kernel_rfl) rfl
  exact key.post (weak_viewG (ids := [0, 1, 2, 3, 4, 5, 10, 6, 8]) (by kernel_rfl) (by kernel_rfl) (by kernel_rfl))
theorem body72t {f : Nat → Bool} {q : List Int} {m : Nat} (h : (lstF f 64).length = 2) : Exec PP T none x72.nt 6 x72.body (mkSt (slotsOf A72) (HF0 true f q m) 6 []) .r (mkSt [(4, g1S 6)] (HF0 true f q m ++ [clO true]) 7 []) :=
  exec_seq (x := x72.body.a) (y := x72.body.b) a72f (exec_seq_x (x := x72.body.b.a) (y := x72.body.b.b) (b72t h) (by simp))
theorem body72f {f g : Nat → Bool} {q q' : List Int} {m m' : Nat} (h : (lstF f 64).length ≠ 2) (hb : Exec PP T none x102.nt 10 x102.body (mkSt slP (Hb72 f q m) 10 []) .r (mkSt [] (HE72 g f q' m') 11 [])) : Exec PP T none x72.nt 6 x72.body (mkSt (slotsOf A72) (HF0 false f q m) 6 []) .r (mkSt [(4, g1S 7)] (HF1 g q' m') 9 [8]) :=
  exec_seq (x := x72.body.a) (y := x72.body.b) a72f (exec_seq (x := x72.body.b.a) (y := x72.body.b.b) (b72f h) (exec_seq (x := x72.body.b.b.a) (y := x72.body.b.b.b) c72f (exec_seq_x (x := x72.body.b.b.b.a) (y := x72.body.b.b.b.b) (exec_seq (x := x72.body.b.b.b.a.a) (y := .block 0 F72) d72f (exec_block (id := 0) (e := .r) (rf72 hb))) (by simp))))
end Go.Proofs.Yteekkjfjpoaihaa.Eng
namespace Go.Proofs.Yteekkjfjpoaihaa.Eng
open Go Go.Proofs
theorem flR_spec {args : List AV} {h : Nat → Option HO} {f : Nat → Bool} {g0 g1 g2 g3 g4 : Nat} {o : Option (Nat × Nat × List Int)} (hr : flR args h = some (true, f, g0, g1, g2, g3, g4, o)) :
    args = [.s (.ptr g0 0 0), .s (.ptr g1 0 0), .s (.ptr g3 0 0), .s (.ptr g4 0 0)] ∧ h g0 = some ⟨false, .row 95 [] 64 f⟩ ∧ (∃ r x, h g1 = some ⟨r, .row 101 [.mp g2] 0 x⟩) ∧ (∃ r, h g2 = some ⟨r, .map (.bools 64) .bool1 []⟩) ∧ (∃ r x, h g4 = some ⟨r, .row 30 [.fn 72 [g0, g1, g3, g4]] 0 x⟩) ∧
    ((o = none ∧ ∃ x, h g3 = some ⟨false, .row 22 [.nils] 0 x⟩) ∨ ∃ g5 m q x, o = some (g5, m, q) ∧ h g3 = some ⟨false, .row 22 [.sl g5 0 2 m] 0 x⟩ ∧ h g5 = some ⟨false, .ivec 38 .i64 2 q⟩ ∧ q.length = m * 2) := by
  unfold flR at hr
  split at hr
  case h_2 => cases hr
  split at hr
  case h_2 => cases hr
  rename_i e0 e1 e3 e4
  split at hr
  case h_2 => cases hr
  rename_i e2
  split at hr
  · simp only [Option.some.injEq, Prod.mk.injEq, Bool.and_eq_true, Nat.beq_eq] at hr
    obtain ⟨⟨⟨⟨rfl, rfl⟩, rfl⟩, rfl⟩, rfl, rfl, rfl, rfl, rfl, rfl, rfl⟩ := hr
    exact ⟨rfl, e0, ⟨_, _, e1⟩, ⟨_, e2⟩, ⟨_, _, e4⟩, .inl ⟨rfl, _, e3⟩⟩
  · split at hr
    case h_2 => cases hr
    rename_i e5
    simp only [Option.some.injEq, Prod.mk.injEq, Bool.and_eq_true, Nat.beq_eq] at hr
    obtain ⟨⟨⟨⟨⟨rfl, rfl⟩, rfl⟩, rfl⟩, hq⟩, rfl, rfl, rfl, rfl, rfl, rfl, rfl⟩ := hr
    exact ⟨rfl, e0, ⟨_, _, e1⟩, ⟨_, e2⟩, ⟨_, _, e4⟩, .inr ⟨_, _, _, _, rfl, e3, e5, hq⟩⟩
  · cases hr
theorem or_row1 {cmp : Cmp} {m m0 : MM} {mb : MB} {ty : TypeId} {sv sv' : SV} {x : Nat → Bool} {w : World} (h : OR cmp m mb (.row ty [sv] 0 x) w) (hs : ∀ v, SR m sv v → SR m0 sv' v) : OR cmp m0 mb (.row ty [sv'] 0 ff) w := by
  obtain ⟨b, cs, h1, h2, h3, vs, a, b', c⟩ := h
  refine ⟨b, cs, h1, h2, h3, vs, ?_, b', c⟩
  match vs, a with
  | [u], ⟨hu, _⟩ => exact ⟨hs u hu, trivial⟩
theorem or_row0 {cmp : Cmp} {m m0 : MM} {mb : MB} {ty : TypeId} {k : Nat} {f g : Nat → Bool} {w : World} (h : OR cmp m mb (.row ty [] k f) w) (hfg : eqB k f g = true) : OR cmp m0 mb (.row ty [] k g) w := by
  obtain ⟨b, cs, h1, h2, h3, vs, a, b', c⟩ := h
  refine ⟨b, cs, h1, h2, h3, vs, ?_, b', by rw [c, eqB_cells hfg]⟩
  match vs, a with
  | [], _ => trivial
def sO (g0 g1 g2 g3 g4 : Nat) (o : Option (Nat × Nat × List Int)) : Nat → Option Nat
  | 0 => some g0
  | 1 => some g1
  | 2 => some g2
  | 3 => some g3
  | 4 => some g4
  | 5 => o.map (·.1)
  | _ => none
def qO (o : Option (Nat × Nat × List Int)) : List Int := match o with | none => [] | some (_, _, q) => q
def mO (o : Option (Nat × Nat × List Int)) : Nat := match o with | none => 0 | some (_, m, _) => m
def kdO : Option HO → Nat
  | some ⟨_, .row ty _ _ _⟩ => bif Nat.beq ty 95 then 0 else bif Nat.beq ty 101 then 1 else bif Nat.beq ty 22 then 3 else bif Nat.beq ty 30 then 4 else 9
  | some ⟨_, .map _ _ _⟩ => 2
  | some ⟨_, .ivec _ _ _ _⟩ => 5
  | _ => 9
theorem own72 {ctx : Ctx} {m : MM} {h : Nat → Option HO} {w : World} {args : List AV} {vals : List Value} {f : Nat → Bool} {g0 g1 g2 g3 g4 M : Nat} {o : Option (Nat × Nat × List Int)} {ro : Bool} {upd : List (Nat × HO)} (hH : HRel (compC T) ctx m h w) (hargs : All2 (AR m) args vals)
    (hr : flR args h = some (true, f, g0, g1, g2, g3, g4, o)) (hf : eqB 64 f (bitF M) = true) (hu : ro = false → (∃ u ∈ upd, u.1 = g0) ∧ (∃ u ∈ upd, u.1 = g3) ∧ ∀ g5 k q, o = some (g5, k, q) → ∃ u ∈ upd, u.1 = g5) :
    ∃ m0, OwnV (compC T) m h w upd (HF0 ro (bitF M) (qO o) (mO o)) m0 (sO g0 g1 g2 g3 g4 o) ∧ All2 (AR m0) A72 vals ∧ (qO o).length = mO o * 2 := by
  obtain ⟨rfl, e0, ⟨r1, x1, e1⟩, ⟨r2, e2⟩, ⟨r4, x4', e4⟩, e3⟩ := flR_spec hr
  let m0 : MM := fun j => if j < 6 then (match sO g0 g1 g2 g3 g4 o j with | some i => m i | none => some ⟨none, 0, 0⟩) else none
  obtain ⟨b0, k0, l0, _⟩ := hH.obj _ _ e0
  obtain ⟨b1, k1, l1, _⟩ := hH.obj _ _ e1
  obtain ⟨b2, k2, l2, _⟩ := hH.obj _ _ e2
  obtain ⟨b4, k4, l4, _⟩ := hH.obj _ _ e4
  have m00 : m0 0 = some b0 := k0
  have m01 : m0 1 = some b1 := k1
  have m02 : m0 2 = some b2 := k2
  have m04 : m0 4 = some b4 := k4
  have m0g0 : m0 0 = m g0 := rfl
  have m0g1 : m0 1 = m g1 := rfl
  have m0g2 : m0 2 = m g2 := rfl
  have m0g3 : m0 3 = m g3 := rfl
  have m0g4 : m0 4 = m g4 := rfl
  have s4 : ∀ v, SR m (.fn 72 [g0, g1, g3, g4]) v → SR m0 (.fn 72 [0, 1, 3, 4]) v := fun v hv => by
    have := SR.unren (m := m) (m' := m0) (ρ := fun j => (sO g0 g1 g2 g3 g4 o j).getD 0) (x := .fn 72 [0, 1, 3, 4]) hv (fun j hj => by
      have : j = 0 ∨ j = 1 ∨ j = 3 ∨ j = 4 := by simpa [SV.ids] using hj
      rcases this with rfl | rfl | rfl | rfl <;> rfl)
    exact this
  have o0 := or_row0 (m0 := m0) l0 hf
  have o1 := or_row1 (m0 := m0) (sv' := .mp 2) l1 (fun v hv => by
    obtain ⟨mb, b, p1, p2⟩ := hv
    exact ⟨mb, b, by rw [m0g2]; exact p1, p2⟩)
  have o2 : OR (compC T) m0 b2 (.map (.bools 64) .bool1 []) w := l2
  have o4 := or_row1 (m0 := m0) l4 s4
  have hpt : ∀ (i j : Nat) (v : Value), m0 j = m i → SR m (.ptr i 0 0) v → SR m0 (.ptr j 0 0) v := fun i j v hij hv => by
    obtain ⟨mb, b, p1, p2⟩ := hv
    exact ⟨mb, b, by rw [hij]; exact p1, p2⟩
  have hall : All2 (AR m0) A72 vals := by
    match vals, hargs with
    | [v0, v1, v3, v4], ⟨q0, q1, q3, q4, _⟩ => exact ⟨hpt g0 0 v0 rfl q0, hpt g1 1 v1 rfl q1, hpt g3 3 v3 rfl q3, hpt g4 4 v4 rfl q4, trivial⟩
  rcases e3 with ⟨rfl, x3, e3⟩ | ⟨g5, k, q, x3, rfl, e3, e5, hq⟩
  · obtain ⟨b3, k3, l3, _⟩ := hH.obj _ _ e3
    have m05 : m0 5 = some ⟨none, 0, 0⟩ := rfl
    have o3 := or_row1 (m0 := m0) (sv' := .sl 5 0 2 0) l3 (fun v hv => ⟨_, m05, Nat.le_refl _, .inl ⟨rfl, hv, rfl, rfl, rfl⟩⟩)
    refine ⟨m0, ⟨fun j ob hj => ?_, fun i j c hi hj h1 h2 => ?_, fun j hj => if_neg (by have : 6 ≤ j := hj; omega)⟩, hall, rfl⟩
    · match j, hj with
      | 0, hj => cases hj; exact ⟨_, b0, e0, k0, m00, o0, rfl, fun hro => ⟨rfl, (hu hro).1⟩⟩
      | 1, hj => cases hj; exact ⟨_, b1, e1, k1, m01, o1, rfl, fun hro => (by cases hro)⟩
      | 2, hj => cases hj; exact ⟨_, b2, e2, k2, m02, o2, rfl, fun hro => (by cases hro)⟩
      | 3, hj => cases hj; exact ⟨_, b3, e3, k3, (show m0 3 = some b3 from k3), o3, rfl, fun hro => ⟨rfl, (hu hro).2.1⟩⟩
      | 4, hj => cases hj; exact ⟨_, b4, e4, k4, m04, o4, rfl, fun hro => (by cases hro)⟩
      | 5, hj => cases hj; exact ⟨m05, .inl ⟨rfl, rfl, rfl⟩⟩
      | j + 6, hj => simp at hj
    · have kd : ∀ j c, j < 6 → sO g0 g1 g2 g3 g4 none j = some c → kdO (h c) = j := fun j c hj hs => by
        match j, hj, hs with
        | 0, _, hs => cases hs; rw [e0]; rfl
        | 1, _, hs => cases hs; rw [e1]; rfl
        | 2, _, hs => cases hs; rw [e2]; rfl
        | 3, _, hs => cases hs; rw [e3]; rfl
        | 4, _, hs => cases hs; rw [e4]; rfl
        | 5, _, hs => cases hs
        | j + 6, hj, _ => omega
      rw [← kd i c hi h1, ← kd j c hj h2]
  · obtain ⟨b3, k3, l3, _⟩ := hH.obj _ _ e3
    obtain ⟨b5, k5, l5, _⟩ := hH.obj _ _ e5
    have m05 : m0 5 = m g5 := rfl
    have o3 := or_row1 (m0 := m0) (sv' := .sl 5 0 2 k) l3 (fun v hv => by
      obtain ⟨mb, p1, p2⟩ := hv
      exact ⟨mb, by rw [m05]; exact p1, p2⟩)
    have o5 : OR (compC T) m0 b5 (.ivec 38 .i64 2 q) w := l5
    refine ⟨m0, ⟨fun j ob hj => ?_, fun i j c hi hj h1 h2 => ?_, fun j hj => if_neg (by have : 6 ≤ j := hj; omega)⟩, hall, hq⟩
    · match j, hj with
      | 0, hj => cases hj; exact ⟨_, b0, e0, k0, m00, o0, rfl, fun hro => ⟨rfl, (hu hro).1⟩⟩
      | 1, hj => cases hj; exact ⟨_, b1, e1, k1, m01, o1, rfl, fun hro => (by cases hro)⟩
      | 2, hj => cases hj; exact ⟨_, b2, e2, k2, m02, o2, rfl, fun hro => (by cases hro)⟩
      | 3, hj => cases hj; exact ⟨_, b3, e3, k3, (show m0 3 = some b3 from k3), o3, rfl, fun hro => ⟨rfl, (hu hro).2.1⟩⟩
      | 4, hj => cases hj; exact ⟨_, b4, e4, k4, m04, o4, rfl, fun hro => (by cases hro)⟩
      | 5, hj => cases hj; exact ⟨_, b5, e5, k5, (show m0 5 = some b5 from k5), o5, rfl, fun hro => ⟨rfl, (hu hro).2.2 _ _ _ rfl⟩⟩
      | j + 6, hj => simp at hj
    · have kd : ∀ j c, j < 6 → sO g0 g1 g2 g3 g4 (some (g5, k, q)) j = some c → kdO (h c) = j := fun j c hj hs => by
        match j, hj, hs with
        | 0, _, hs => cases hs; rw [e0]; rfl
        | 1, _, hs => cases hs; rw [e1]; rfl
        | 2, _, hs => cases hs; rw [e2]; rfl
        | 3, _, hs => cases hs; rw [e3]; rfl
        | 4, _, hs => cases hs; rw [e4]; rfl
        | 5, _, hs => cases hs; rw [e5]; rfl
        | j + 6, hj, _ => omega
      rw [← kd i c hi h1, ← kd j c hj h2]
end Go.Proofs.Yteekkjfjpoaihaa.Eng
namespace Go.Proofs.Yteekkjfjpoaihaa.Eng
open Go Go.Proofs
def sKf (f : Nat → Bool) (s : Nat) : Bool := Nat.blt (fstN (pvK f s) 6) 6
/-- the first pair's lesser face, its corner -/
def fpS (f : Nat → Bool) : Nat := fstN (sKf f) 64
def fpV (f : Nat → Bool) : Nat := fstN (pvK f (fpS f)) 6
/-- the greedy way: the faces left, the pairs taken, how many -/
def fallM : Nat → Nat → Option (Nat × List Int × Nat)
  | 0, _ => none
  | k + 1, M => bif Nat.beq (lstF (bitF M) 64).length 2 then some (M, [], 0) else
      bif Nat.blt (fpS (bitF M)) 64 then
        match fallM k (M ^^^ 2 ^ fpS (bitF M) ^^^ 2 ^ (fpS (bitF M) ||| 2 ^ fpV (bitF M))) with
        | some (Mf, L, c) => some (Mf, Int.ofNat (fpS (bitF M)) :: Int.ofNat (fpS (bitF M) ||| 2 ^ fpV (bitF M)) :: L, c + 1)
        | none => none
      else none
theorem blt_of {a b : Nat} (h : Nat.blt a b = true) : a < b := Nat.le_of_ble_eq_true h
theorem blt_not {a b : Nat} (h : Nat.blt a b = false) : ¬ a < b := fun hlt => by rw [blt_lt hlt] at h; cases h
theorem ok72 : ∀ (k M Mf : Nat) (L : List Int) (c : Nat), fallM k M = some (Mf, L, c) → L.length = c * 2 ∧ (L = [] → Mf = M ∧ c = 0) ∧ SpecOK PP (compC T) 72 (spFl M Mf L c)
  | 0, M, Mf, L, c, h => by cases h
  | k + 1, M, Mf, L, c, h => by
    unfold fallM at h
    cases h2 : Nat.beq (lstF (bitF M) 64).length 2 with
    | true =>
      rw [h2, cond_true] at h
      cases h
      have hl := Nat.eq_of_beq_eq_true h2
      refine ⟨rfl, fun _ => ⟨rfl, rfl⟩, spec_mut o72 fun ctx m h w args vals base e hH hargs hr hvc => ?_⟩
      simp only [spFl] at hr
      split at hr
      case h_2 => cases hr
      rename_i vc f g0 g1 g2 g3 g4 o hfl
      cases hr
      simp only [Bool.and_eq_true] at hvc
      obtain ⟨rfl, hf⟩ := hvc
      obtain ⟨m0, h1, h2, h3⟩ := own72 (M := M) (ro := true) (upd := []) hH hargs hfl hf (fun h => by cases h)
      refine ⟨m0, _, A72, _, h1, h2, ⟨by decide, [(4, g1S 6)], HF0 true (bitF M) (qO o) (mO o) ++ [clO true], 7, [], .r, B true, body72t hl, .inr rfl, rfl, by kernel_rfl, rfl, rfl, fun d hd => (by cases hd), fun j ob hj => (by simp at hj), fun u hu => (by cases hu)⟩⟩
    | false =>
      rw [h2, cond_false] at h
      cases h3 : Nat.blt (fpS (bitF M)) 64 with
      | false => rw [h3, cond_false] at h; cases h
      | true =>
      rw [h3, cond_true] at h
      have hs := blt_of h3
      obtain ⟨_, p1, p2⟩ := fstN_spec (sKf (bitF M)) 64
      have hsk : sKf (bitF M) (fpS (bitF M)) = true := p2 hs
      have hv : fpV (bitF M) < 6 := blt_of hsk
      obtain ⟨_, r1, r2⟩ := fstN_spec (pvK (bitF M) (fpS (bitF M))) 6
      have hk : pvK (bitF M) (fpS (bitF M)) (fpV (bitF M)) = true := r2 hv
      have h0 : ∀ r, r < fpS (bitF M) → ∀ u, u < 6 → pvK (bitF M) r u = false := fun r hr u hu => by
        have a := p1 r hr
        have b := blt_not a
        exact (fstN_spec (pvK (bitF M) r) 6).2.1 u (by omega)
      have hvv : ∀ u, u < fpV (bitF M) → pvK (bitF M) (fpS (bitF M)) u = false := r1
      clear p1 p2 r1 r2 hsk
      generalize fpS (bitF M) = s at *
      generalize fpV (bitF M) = v at *
      have ht := (or_tab s hs v hv).2
      have hk' := hk
      unfold pvK at hk'
      simp only [Bool.and_eq_true, Bool.not_eq_true'] at hk'
      obtain ⟨⟨j1, j2⟩, j3⟩ := hk'
      have hne : (s ||| 2 ^ v) ≠ s := fun e => by rw [beqT e] at j2; cases j2
      have j4 : bitF M (s ||| 2 ^ v) = true := by
        unfold canQ at j3
        cases hc : (Nat.blt 0 s && canA (bitF M) s (s ||| 2 ^ v)) with
        | false => rw [hc] at j3; cases j3
        | true =>
          unfold canA at hc
          simp only [Bool.and_eq_true] at hc
          exact hc.2.1.1.2
      split at h
      case h_2 => cases h
      rename_i Mf' L' c' hrec
      cases h
      obtain ⟨i1, i2, i3⟩ := ok72 k _ _ _ _ hrec
      have hne2 : ((lstF (bitF M) 64).length) ≠ 2 := fun e => by rw [beqT e] at h2; cases h2
      refine ⟨by simp [i1]; omega, fun h => (by cases h), spec_mut o72 fun ctx m h w args vals base e hH hargs hr hvc => ?_⟩
      simp only [spFl] at hr
      split at hr
      case h_2 => cases hr
      rename_i vc f g0 g1 g2 g3 g4 o hfl
      cases o with
      | none =>
        cases hr
        simp only [Bool.and_eq_true] at hvc
        obtain ⟨⟨rfl, hf⟩, hc⟩ := hvc
        have hc := Nat.le_of_ble_eq_true hc
        obtain ⟨m0, k1, k2, k3⟩ := own72 (M := M) (ro := false) (upd := [(g0, ⟨false, .row 95 [] 64 (bitF Mf)⟩), (g3, ⟨false, .row 22 [.sl (base + 0) 0 2 (0 + (c' + 1))] 0 ff⟩)]) hH hargs hfl hf (fun _ => ⟨⟨_, .head _, rfl⟩, ⟨_, .tail _ (.head _), rfl⟩, fun _ _ _ h => (by cases h)⟩)
        have hy : YieldOK PP (compC T) 9 (spRd (bitF M) [] 0 s (s ||| 2 ^ v) (bitF Mf) ([] ++ Int.ofNat s :: Int.ofNat (s ||| 2 ^ v) :: L') (0 + 1 + c')) := ok_R (c := c') (fun e => i2 e) i3 rfl (by omega) hs ht j1 j4 hne
        have hb := body72f hne2 (body102 hy hs hv h0 hvv hk)
        rw [show 0 + 1 + c' = 0 + (c' + 1) by omega] at hb
        refine ⟨m0, _, A72, _, k1, k2, ⟨by decide, [(4, g1S 7)], _, 9, [8], .r, B true, hb, .inr rfl, by kernel_rfl, by kernel_rfl, rfl, rfl, fun d hd => ?_, fun j ob hj => ?_, fun u hu => ?_⟩⟩
        · simp only [List.mem_cons, List.not_mem_nil, or_false] at hd
          subst hd
          show 6 + 1 ≤ 8
          omega
        · match j, hj with
          | 0, hj => cases hj; exact ⟨_, rfl, rfl, rfl, rfl, rfl, fun i hi => by simp [AO.ids] at hi⟩
          | j + 1, hj => simp at hj
        · simp only [List.mem_cons, List.not_mem_nil, or_false] at hu
          rcases hu with rfl | rfl
          · exact .inr ⟨0, _, by show 0 < 6; omega, rfl, rfl, rfl, rfl, rfl, fun i hi => by simp [AO.ids] at hi⟩
          · exact .inr ⟨3, _, by show 3 < 6; omega, rfl, rfl, rfl, rfl, rfl, fun i hi => by
              have : i = 6 := by simpa [AO.ids, SV.ids] using hi
              subst this
              exact ⟨by show 6 < 6 + 1; omega, fun h => absurd h (by show ¬ 6 < 6; omega)⟩⟩
      | some p =>
        obtain ⟨g5, m', q⟩ := p
        cases hr
        simp only [Bool.and_eq_true] at hvc
        obtain ⟨⟨rfl, hf⟩, hc⟩ := hvc
        have hc := Nat.le_of_ble_eq_true hc
        obtain ⟨m0, k1, k2, k3⟩ := own72 (M := M) (ro := false) (upd := [(g0, ⟨false, .row 95 [] 64 (bitF Mf)⟩), (g3, ⟨false, .row 22 [.sl (base + 0) 0 2 (m' + (c' + 1))] 0 ff⟩), (g5, ⟨false, .gone⟩)]) hH hargs hfl hf (fun _ => ⟨⟨_, .head _, rfl⟩, ⟨_, .tail _ (.head _), rfl⟩, fun _ _ _ h => (by cases h; exact ⟨_, .tail _ (.tail _ (.head _)), rfl⟩)⟩)
        have hy : YieldOK PP (compC T) 9 (spRd (bitF M) q m' s (s ||| 2 ^ v) (bitF Mf) (q ++ Int.ofNat s :: Int.ofNat (s ||| 2 ^ v) :: L') (m' + 1 + c')) := ok_R (c := c') (fun e => i2 e) i3 k3 (by omega) hs ht j1 j4 hne
        have hb := body72f hne2 (body102 hy hs hv h0 hvv hk)
        rw [show m' + 1 + c' = m' + (c' + 1) by omega] at hb
        refine ⟨m0, _, A72, _, k1, k2, ⟨by decide, [(4, g1S 7)], _, 9, [8], .r, B true, hb, .inr rfl, by kernel_rfl, by kernel_rfl, rfl, rfl, fun d hd => ?_, fun j ob hj => ?_, fun u hu => ?_⟩⟩
        · simp only [List.mem_cons, List.not_mem_nil, or_false] at hd
          subst hd
          show 6 + 1 ≤ 8
          omega
        · match j, hj with
          | 0, hj => cases hj; exact ⟨_, rfl, rfl, rfl, rfl, rfl, fun i hi => by simp [AO.ids] at hi⟩
          | j + 1, hj => simp at hj
        · simp only [List.mem_cons, List.not_mem_nil, or_false] at hu
          rcases hu with rfl | rfl | rfl
          · exact .inr ⟨0, _, by show 0 < 6; omega, rfl, rfl, rfl, rfl, rfl, fun i hi => by simp [AO.ids] at hi⟩
          · exact .inr ⟨3, _, by show 3 < 6; omega, rfl, rfl, rfl, rfl, rfl, fun i hi => by
              have : i = 6 := by simpa [AO.ids, SV.ids] using hi
              subst this
              exact ⟨by show 6 < 6 + 1; omega, fun h => absurd h (by show ¬ 6 < 6; omega)⟩⟩
          · exact .inl ⟨rfl, 5, by show 5 < 6; omega, rfl⟩
end Go.Proofs.Yteekkjfjpoaihaa.Eng

/- A part of the proof of topChains_holds. -/
import Derived.Test.YteekkjfjpoaihaaOt08
set_option linter.all false
namespace Go.Proofs.Yteekkjfjpoaihaa.Eng
open Go Go.Proofs
def L17 : XC := x17.body.b.a.b.i.i
abbrev S17 (q : List Int) (m : Nat) (a b : Int) (i : Nat) : St := mkSt [(0, lsS 0 m), (1, iS a), (2, iS b), (7, iS i)] [⟨true, .xvec .i64 2 q⟩] 1 []
def relP (q : List Int) (a b : Int) (i : Nat) : Bool := (ra q i == a && rb q i == b) || (ra q i == b && rb q i == a)
def relQ (q : List Int) (m : Nat) (a b : Int) : Bool := Nat.blt (fstN (relP q a b) m) m
theorem a17 {q : List Int} {m : Nat} {a b : Int}  : Exec PP T none x17.nt 0 x17.body.a (startSt [.s (.sl 0 0 2 m), .s (.int .i64 a), .s (.int .i64 b)] [⟨true, .xvec .i64 2 q⟩]) .n (mkSt [(0, lsS 0 m), (1, iS a), (2, iS b)] [⟨true, .xvec .i64 2 q⟩] 1 []) := by
  refine exec_orun env0 false 60 [] [0] (fun _ => rfl) (by kernel_rfl) (by kernel_rfl) (by kernel_rfl) (by kernel_rfl)
theorem b17 {q : List Int} {m : Nat} {a b : Int}  : Exec PP T none x17.nt 0 x17.body.b.a.a (mkSt [(0, lsS 0 m), (1, iS a), (2, iS b)] [⟨true, .xvec .i64 2 q⟩] 1 []) .n (S17 q m a b 0) := by
  refine exec_orun env0 false 60 [] [0] (fun _ => rfl) (by kernel_rfl) (by kernel_rfl) (by kernel_rfl) (by kernel_rfl)
theorem l17 {q : List Int} {m : Nat} {a b : Int} {i : Nat} (hq : q.length = m * 2) (hm : m ≤ 1000000000) (hi : i < m) (h : relP q a b i = false) : Exec PP T none x17.nt 0 L17 (S17 q m a b i) .n (S17 q m a b (i + 1)) := by
  refine exec_orun env0 false 60 [true, false] [0] (fun _ => rfl) (by kernel_rfl) (by kernel_rfl) (by kernel_rfl) ?_
  rw [(show obOf (orun g0 false 60 L17 (S17 q m a b i) [true, false]) = ((fun b0_ : Bool => decide (Int.ofNat i < Int.ofNat m) && true && (decide (0 ≤ Int.ofNat i) && decide (Int.ofNat i < Int.ofNat m) && (decide (((0 + (0 + i) * 2).add 0).succ.succ ≤ q.length) && ((!(false != b0_) == false || true) && ((!(false != b0_) == false || true) && ((!(false != b0_) == false || (false != b0_) == false && ((false != b0_) == false && true) && (decide (0 ≤ Int.ofNat i) && decide (Int.ofNat i < Int.ofNat m))) && ((!(false != b0_) == false || (false != b0_) == false && true && decide (((0 + (0 + i) * 2).add 0).succ.succ ≤ q.length)) && ((!(false != b0_) == false || true) && ((!(false != b0_) == false || true) && ((!(false != b0_) == false || (false != b0_) == false && ((false != b0_) == false && true) && true) && ((!(false != b0_) == false || (false != b0_) == false && ((false != b0_) == false && true) && true) && ((bif false != b0_ then true else (false != b0_) == false) && true && true)))))))))) && ((!bif false != b0_ then true else false != ([q.getD (0 + (0 + i) * 2 + 0) 0, q.getD ((0 + (0 + i) * 2).add 0).succ 0] == [b, a] && true)) && true) && (rng64 (Int.ofNat i.succ) && true))) ([q.getD (0 + (0 + i) * 2 + 0) 0, q.getD ((0 + (0 + i) * 2).add 0).succ 0] == [a, b] && true)) from by kernel_rfl)]
  dsimp only
  try dsimp only
  simp only [ra_f, rb_f, beq_two]
  unfold relP at h
  have i1 : ((0 + (0 + i) * 2).add 0).succ.succ ≤ q.length := by simp; omega
  simp only [decide_eq_true i1]
  generalize (ra q i == a && rb q i == b) = K at *
  generalize (ra q i == b && rb q i == a) = Z at *
  cases K <;> cases Z <;> first | (simp at h; done) | (simp [rng64]; omega)
theorem h17 {q : List Int} {m : Nat} {a b : Int} {i : Nat} (hq : q.length = m * 2) (hm : m ≤ 1000000000) (hi : i < m) (h : relP q a b i = true) : Exec PP T none x17.nt 0 L17 (S17 q m a b i) .r (RB 6 true) := by
  refine exec_orun env0 false 60 [true, true] [] (fun _ => rfl) (by kernel_rfl) (by kernel_rfl) (by kernel_rfl) ?_
  rw [(show obOf (orun g0 false 60 L17 (S17 q m a b i) [true, true]) = ((fun b0_ : Bool => decide (Int.ofNat i < Int.ofNat m) && true && (decide (0 ≤ Int.ofNat i) && decide (Int.ofNat i < Int.ofNat m) && (decide (((0 + (0 + i) * 2).add 0).succ.succ ≤ q.length) && ((!(false != b0_) == false || true) && ((!(false != b0_) == false || true) && ((!(false != b0_) == false || (false != b0_) == false && ((false != b0_) == false && true) && (decide (0 ≤ Int.ofNat i) && decide (Int.ofNat i < Int.ofNat m))) && ((!(false != b0_) == false || (false != b0_) == false && true && decide (((0 + (0 + i) * 2).add 0).succ.succ ≤ q.length)) && ((!(false != b0_) == false || true) && ((!(false != b0_) == false || true) && ((!(false != b0_) == false || (false != b0_) == false && ((false != b0_) == false && true) && true) && ((!(false != b0_) == false || (false != b0_) == false && ((false != b0_) == false && true) && true) && ((bif false != b0_ then true else (false != b0_) == false) && true && true)))))))))) && ((bif false != b0_ then true else false != ([q.getD (0 + (0 + i) * 2 + 0) 0, q.getD ((0 + (0 + i) * 2).add 0).succ 0] == [b, a] && true)) && true))) ([q.getD (0 + (0 + i) * 2 + 0) 0, q.getD ((0 + (0 + i) * 2).add 0).succ 0] == [a, b] && true)) from by kernel_rfl)]
  dsimp only
  try dsimp only
  simp only [ra_f, rb_f, beq_two]
  unfold relP at h
  have i1 : ((0 + (0 + i) * 2).add 0).succ.succ ≤ q.length := by simp; omega
  simp only [decide_eq_true i1]
  generalize (ra q i == a && rb q i == b) = K at *
  generalize (ra q i == b && rb q i == a) = Z at *
  cases K <;> cases Z <;> first | (simp at h; done) | (simp; omega)
theorem z17 {q : List Int} {m : Nat} {a b : Int}  : Exec PP T none x17.nt 0 L17 (S17 q m a b m) (.x 0) (S17 q m a b m) := by
  refine exec_orun env0 false 60 [false] [0] (fun _ => rfl) (by kernel_rfl) (by kernel_rfl) (by kernel_rfl) ?_
  rw [(show obOf (orun g0 false 60 L17 (S17 q m a b m) [false]) = (!decide (Int.ofNat m < Int.ofNat m) && true) from by kernel_rfl)]
  all_goals (first | rfl | (simp; done) | (simp; omega) | (simp [rng64]; done) | (simp [rng64]; omega) | (simp [rng64_eq]; omega))
theorem e17 {q : List Int} {m : Nat} {a b : Int}  : Exec PP T none x17.nt 0 x17.body.b.b (S17 q m a b m) .r (RB 6 false) := by
  refine exec_orun env0 false 60 [] [] (fun _ => rfl) (by kernel_rfl) (by kernel_rfl) (by kernel_rfl) (by kernel_rfl)
theorem body17 {q : List Int} {m : Nat} {a b : Int} (hq : q.length = m * 2) (hm : m ≤ 1000000000) : Exec PP T none x17.nt 0 x17.body (startSt [.s (.sl 0 0 2 m), .s (.int .i64 a), .s (.int .i64 b)] [⟨true, .xvec .i64 2 q⟩]) .r (RB 6 (relQ q m a b)) := by
  refine exec_seq (x := x17.body.a) (y := x17.body.b) a17 ?_
  unfold relQ
  rcases exec_loop_find (S17 q m a b) (relP q a b) m (eh := .r) (Sh := fun _ => RB 6 true) (fun i hi h => l17 hq hm hi h) (fun i hi h => h17 hq hm hi h) (by simp) z17 (by simp) with ⟨h1, h2⟩ | ⟨h1, h2⟩
  · rw [blt_lt h1]
    exact exec_seq_x (x := x17.body.b.a) (y := x17.body.b.b) (exec_seq (x := x17.body.b.a.a) (y := .block 0 (.loop L17)) b17 (exec_block (e := .r) h2)) (by simp)
  · rw [show Nat.blt (fstN (relP q a b) m) m = false by rw [h1]; exact blt_self m]
    exact exec_seq (x := x17.body.b.a) (y := x17.body.b.b) (exec_seq (x := x17.body.b.a.a) (y := .block 0 (.loop L17)) b17 (exec_block (e := .x 0) h2)) e17
def vRel : List PA → TV := fun pas => match pas with | [.sl _ q m, .int a, .int b] => B (relQ q m a b) | _ => anyT
noncomputable abbrev spRel : Spec := genS [.sl 2, .int, .int] (fun _ => true) vRel fun _ => []
theorem ok17 : SpecOK PP (compC T) 17 spRel := ok_gen o17 (by kernel_rfl) fun pas hf hc => match pas, hf with
  | [.sl _ q m, .int a, .int b], ⟨⟨rfl, hq, hm⟩, _, _, _⟩ => ⟨_, 0, .r, body17 hq hm, fun _ => rfl, by kernel_rfl, by kernel_rfl, by kernel_rfl⟩
def L73 : XC := x73.body.b.b.a.b.i.i
abbrev S73 (f : Nat → Bool) (q : List Int) (m s : Nat) : St := mkSt [(3, s1S 0 m), (6, ⟨true, .av (.pb [] 64 f)⟩), (7, iS s)] [⟨false, .ivec 3 .i64 1 q⟩] 1 []
theorem a73 {f : Nat → Bool}  : Exec PP T none x73.nt 0 x73.body.a (startSt [.pb [] 64 f] []) .n (mkSt [(1, g1S 0)] [⟨false, .row 95 [] 64 f⟩] 1 []) := by
  refine exec_orun env0 false 60 [] [0] (fun _ => rfl) (by kernel_rfl) (by kernel_rfl) (by kernel_rfl) (by kernel_rfl)
theorem b73q {f : Nat → Bool}  : Exec PP T none x73.nt 0 x73.body.b.a (mkSt [(1, g1S 0)] [⟨false, .row 95 [] 64 f⟩] 1 []) .n (mkSt [(1, g1S 0), (3, ⟨true, .av (.s .nils)⟩)] [⟨false, .row 95 [] 64 f⟩] 1 []) := by
  refine exec_orun env0 false 60 [] [0] (fun _ => rfl) (by kernel_rfl) (by kernel_rfl) (by kernel_rfl) (by kernel_rfl)
theorem b73 {f : Nat → Bool} : Exec PP T none x73.nt 0 x73.body.b.a (mkSt [(1, g1S 0)] [⟨false, .row 95 [] 64 f⟩] 1 []) .n (mkSt [(3, s1S 1 0), (1, g1S 0)] [⟨false, .row 95 [] 64 f⟩, ⟨false, .ivec 3 .i64 1 []⟩] 2 []) := b73q.post (weak_nil 3 3 .i64 1 rfl rfl rfl)
theorem cc73 {f : Nat → Bool}  : Exec PP T none x73.nt 0 x73.body.b.b.a.a (mkSt [(3, s1S 1 0), (1, g1S 0)] [⟨false, .row 95 [] 64 f⟩, ⟨false, .ivec 3 .i64 1 []⟩] 2 []) .n (S73 f [] 0 0) := by
  refine exec_orun env0 false 60 [] [1] (fun _ => rfl) (by kernel_rfl) (by kernel_rfl) (by kernel_rfl) (by kernel_rfl)
theorem l73f {f : Nat → Bool} {q : List Int} {m s : Nat} (hs : s < 64) (h : f s = false) : Exec PP T none x73.nt 0 L73 (S73 f q m s) .n (S73 f q m (s + 1)) := by
  refine exec_orun env0 false 60 [true, false] [0] (fun _ => rfl) (by kernel_rfl) (by kernel_rfl) (by kernel_rfl) ?_
  rw [(show obOf (orun g0 false 60 L73 (S73 f q m s) [true, false]) = (decide (Int.ofNat s < 64) && true && (decide (0 + s * 1 < 64) && decide (0 ≤ Int.ofNat s) && decide (Int.ofNat s < 64) && true && (!f (0 + s * 1) && true) && (rng64 (Int.ofNat s.succ) && true))) from by kernel_rfl)]
  rw [show 0 + s * 1 = s by omega, h]
  simp [rng64]
  omega
theorem l73t {f : Nat → Bool} {q : List Int} {m s : Nat} (hq : q.length = m * 1) (hm : m ≤ 100) (hs : s < 64) (h : f s = true) : Exec PP T none x73.nt 0 L73 (S73 f q m s) .n (S73 f (q.take (m * 1) ++ [Int.ofNat s]) (m + 1) (s + 1)) := by
  refine exec_orun env0 false 60 [true, true] [2] (fun _ => rfl) (by kernel_rfl) (by kernel_rfl) (by kernel_rfl) ?_
  rw [(show obOf (orun g0 false 60 L73 (S73 f q m s) [true, true]) = (decide (Int.ofNat s < 64) && true && (decide (0 + s * 1 < 64) && decide (0 ≤ Int.ofNat s) && decide (Int.ofNat s < 64) && true && (f (0 + s * 1) && (decide (1 ≤ 1) && decide (m * 1 ≤ q.length) && decide (m.succ ≤ 1000000000) && true && true && true)) && (rng64 (Int.ofNat s.succ) && true))) from by kernel_rfl)]
  rw [show 0 + s * 1 = s by omega, h]
  simp [rng64, hq]
  omega
theorem z73 {f : Nat → Bool} {q : List Int} {m : Nat}  : Exec PP T none x73.nt 0 L73 (S73 f q m 64) (.x 0) (S73 f q m 64) := by
  refine exec_orun env0 false 60 [false] [0] (fun _ => rfl) (by kernel_rfl) (by kernel_rfl) (by kernel_rfl) (by kernel_rfl)
theorem d73 {f : Nat → Bool} {q : List Int} {m s : Nat}  : Exec PP T none x73.nt 0 x73.body.b.b.b (S73 f q m s) .r (mkSt [(2, s1S 0 m)] [⟨false, .ivec 3 .i64 1 q⟩] 1 []) := by
  refine exec_orun env0 false 60 [] [0] (fun _ => rfl) (by kernel_rfl) (by kernel_rfl) (by kernel_rfl) (by kernel_rfl)
/-- numbers below k with a property, as ints -/
def lstF (f : Nat → Bool) (k : Nat) : List Int := ((List.range k).filter f).map Int.ofNat
theorem lstF_t {f : Nat → Bool} {k : Nat} (h : f k = true) : lstF f (k + 1) = lstF f k ++ [Int.ofNat k] := by simp [lstF, List.range_succ, List.filter_append, h]
theorem lstF_f {f : Nat → Bool} {k : Nat} (h : f k = false) : lstF f (k + 1) = lstF f k := by simp [lstF, List.range_succ, List.filter_append, h]
theorem lstF_len (f : Nat → Bool) (k : Nat) : (lstF f k).length ≤ k := by
  unfold lstF
  rw [List.length_map]
  have := List.length_filter_le f (List.range k)
  simpa using this
abbrev sS73 (f : Nat → Bool) (s : Nat) : St := S73 f (lstF f s) (lstF f s).length s
theorem take_all {q : List Int} : q.take (q.length * 1) = q := by rw [Nat.mul_one, List.take_length]
theorem body73 {f : Nat → Bool} : Exec PP T none x73.nt 0 x73.body (startSt [.pb [] 64 f] []) .r (mkSt [(2, s1S 0 (lstF f 64).length)] [⟨false, .ivec 3 .i64 1 (lstF f 64)⟩] 1 []) := by
  refine exec_seq (x := x73.body.a) (y := x73.body.b) a73 (exec_seq (x := x73.body.b.a) (y := x73.body.b.b) b73 (exec_seq (x := x73.body.b.b.a) (y := x73.body.b.b.b) (exec_seq (x := x73.body.b.b.a.a) (y := .block 0 (.loop L73)) cc73 (exec_block (e := .x 0) (S1 := sS73 f 64) ?_)) d73))
  exact exec_loop_up (fun s => sS73 f s) 64 (fun s hs => by
    have hl := lstF_len f s
    cases h : f s with
    | false =>
      show Exec _ _ _ _ _ _ (sS73 f s) _ (sS73 f (s + 1))
      unfold sS73
      rw [lstF_f h]
      exact l73f hs h
    | true =>
      have := l73t (q := lstF f s) (m := (lstF f s).length) (by simp) (by omega) hs h
      rw [take_all, ← lstF_t h] at this
      refine exec_eq this ?_
      unfold sS73
      rw [show (lstF f s).length + 1 = (lstF f (s + 1)).length by rw [lstF_t h]; simp]) z73 (by simp) 0 (by omega)
def lList : List PA → List Int := fun pas => match pas with | [.bs _ f] => lstF f 64 | _ => []
def vList1 : List PA → TV := fun pas => .av (.s (.sl 0 0 1 (lList pas).length))
def nList1 : List PA → List HO := fun pas => [⟨false, .ivec 3 .i64 1 (lList pas)⟩]
noncomputable abbrev spList : Spec := genS [.bs 64] (fun _ => true) vList1 nList1
theorem ok73 : SpecOK PP (compC T) 73 spList := ok_gen o73 (by kernel_rfl) fun pas hf hc => match pas, hf with
  | [.bs _ f], ⟨rfl, _⟩ => ⟨_, 1, .r, body73, fun _ => rfl, by kernel_rfl, by kernel_rfl, by kernel_rfl⟩
def L97 : XC := x97.body.b.i.b.b.a.b.i.i
def M97 : XC := L97.b.b.a.i.b.b.a.b.i.i
def orI (s v : Nat) : Int := bitop .or .i64 (Int.ofNat s) (1 * 2 ^ (min (IntKind.u64.wrap (Int.ofNat v)).toNat 64))
theorem or_tab : ∀ s, s < 64 → ∀ v, v < 6 → orI s v = Int.ofNat (s ||| 2 ^ v) ∧ s ||| 2 ^ v < 64 := of_decide_eq_true (by kernel_rfl)
def grR (f : Nat → Bool) (s v : Nat) : Bool := bif (orI s v != Int.ofNat s) then f (0 + (0 + (orI s v).toNat * 1)) else false
abbrev S97 (f : Nat → Bool) (q : List Int) (m s : Nat) : St := mkSt [(1, g1S 0), (3, s1S 1 m), (8, ⟨true, .av (.pb [] 64 f)⟩), (9, iS s)] [⟨false, .row 95 [] 64 f⟩, ⟨false, .ivec 3 .i64 1 q⟩] 2 []
abbrev P97 (f : Nat → Bool) (q : List Int) (m s : Nat) : St := mkSt [(1, g1S 0), (3, s1S 1 m), (8, ⟨true, .av (.pb [] 64 f)⟩), (9, iS s), (10, ⟨true, B (decide (Int.ofNat s < 64))⟩)] [⟨false, .row 95 [] 64 f⟩, ⟨false, .ivec 3 .i64 1 q⟩] 2 []
abbrev T97 (f : Nat → Bool) (q : List Int) (m s : Nat) : St := mkSt [(1, g1S 0), (3, s1S 1 m), (8, ⟨true, .av (.pb [] 64 f)⟩), (9, iS s), (4, iS s), (5, ⟨true, B (f s)⟩)] [⟨false, .row 95 [] 64 f⟩, ⟨false, .ivec 3 .i64 1 q⟩] 2 []
abbrev V97 (f : Nat → Bool) (q : List Int) (m s : Nat) : St := mkSt [(1, g1S 0), (3, s1S 1 m), (8, ⟨true, .av (.pb [] 64 f)⟩), (9, iS s), (4, iS s)] [⟨false, .row 95 [] 64 f⟩, ⟨false, .ivec 3 .i64 1 q⟩] 2 []
abbrev U97 (f : Nat → Bool) (q : List Int) (m s v : Nat) : St := mkSt [(1, g1S 0), (3, s1S 1 m), (8, ⟨true, .av (.pb [] 64 f)⟩), (9, iS s), (4, iS s), (15, iS v)] [⟨false, .row 95 [] 64 f⟩, ⟨false, .ivec 3 .i64 1 q⟩] 2 []
theorem a97 {f : Nat → Bool}  : Exec PP T none x97.nt 0 x97.body.a (startSt [.pb [] 64 f] []) .n (mkSt [(1, g1S 0)] [⟨false, .row 95 [] 64 f⟩] 1 []) := by
  refine exec_orun env0 false 60 [] [0] (fun _ => rfl) (by kernel_rfl) (by kernel_rfl) (by kernel_rfl) (by kernel_rfl)
theorem b97q {f : Nat → Bool}  : Exec PP T none x97.nt 0 x97.body.b.i.a (mkSt [(1, g1S 0)] [⟨false, .row 95 [] 64 f⟩] 1 []) .n (mkSt [(1, g1S 0), (3, ⟨true, .av (.s .nils)⟩)] [⟨false, .row 95 [] 64 f⟩] 1 []) := by
  refine exec_orun env0 false 60 [] [0] (fun _ => rfl) (by kernel_rfl) (by kernel_rfl) (by kernel_rfl) (by kernel_rfl)
theorem b97 {f : Nat → Bool} : Exec PP T none x97.nt 0 x97.body.b.i.a (mkSt [(1, g1S 0)] [⟨false, .row 95 [] 64 f⟩] 1 []) .n (mkSt [(3, s1S 1 0), (1, g1S 0)] [⟨false, .row 95 [] 64 f⟩, ⟨false, .ivec 3 .i64 1 []⟩] 2 []) := b97q.post (weak_nil 3 3 .i64 1 rfl rfl rfl)
theorem cc97 {f : Nat → Bool}  : Exec PP T none x97.nt 0 x97.body.b.i.b.b.a.a (mkSt [(3, s1S 1 0), (1, g1S 0)] [⟨false, .row 95 [] 64 f⟩, ⟨false, .ivec 3 .i64 1 []⟩] 2 []) .n (S97 f [] 0 0) := by
  refine exec_orun env0 false 60 [] [0, 1] (fun _ => rfl) (by kernel_rfl) (by kernel_rfl) (by kernel_rfl) (by kernel_rfl)
theorem l97a {f : Nat → Bool} {q : List Int} {m s : Nat}  : Exec PP T none x97.nt 0 L97.a (S97 f q m s) .n (P97 f q m s) := by
  refine exec_orun env0 false 60 [] [0, 1] (fun _ => rfl) (by kernel_rfl) (by kernel_rfl) (by kernel_rfl) (by kernel_rfl)
theorem l97b {f : Nat → Bool} {q : List Int} {m s : Nat} (hs : s < 64) : Exec PP T none x97.nt 0 L97.b.a (P97 f q m s) .n (S97 f q m s) := by
  refine exec_orun env0 false 60 [true] [0, 1] (fun _ => rfl) (by kernel_rfl) (by kernel_rfl) (by kernel_rfl) ?_
  rw [(show obOf (orun g0 false 60 L97.b.a (P97 f q m s) [true]) = (decide (Int.ofNat s < 64) && true) from by kernel_rfl)]
  all_goals (first | rfl | (simp; done) | (simp; omega) | (simp [rng64]; done) | (simp [rng64]; omega) | (simp [rng64_eq]; omega))
theorem l97x {f : Nat → Bool} {q : List Int} {m : Nat}  : Exec PP T none x97.nt 0 L97.b.a (P97 f q m 64) (.x 0) (S97 f q m 64) := by
  refine exec_orun env0 false 60 [false] [0, 1] (fun _ => rfl) (by kernel_rfl) (by kernel_rfl) (by kernel_rfl) (by kernel_rfl)
theorem l97c {f : Nat → Bool} {q : List Int} {m s : Nat} (hs : s < 64) : Exec PP T none x97.nt 0 L97.b.b.a.i.a (S97 f q m s) .n (mkSt [(1, g1S 0), (3, s1S 1 m), (8, ⟨true, .av (.pb [] 64 f)⟩), (9, iS s), (4, iS s), (5, ⟨true, B (f (0 + s * 1))⟩)] [⟨false, .row 95 [] 64 f⟩, ⟨false, .ivec 3 .i64 1 q⟩] 2 []) := by
  refine exec_orun env0 false 60 [] [0, 1] (fun _ => rfl) (by kernel_rfl) (by kernel_rfl) (by kernel_rfl) ?_
  rw [(show obOf (orun g0 false 60 L97.b.b.a.i.a (S97 f q m s) []) = (decide (0 + s * 1 < 64) && decide (0 ≤ Int.ofNat s) && decide (Int.ofNat s < 64) && true) from by kernel_rfl)]
  all_goals (first | rfl | (simp; done) | (simp; omega) | (simp [rng64]; done) | (simp [rng64]; omega) | (simp [rng64_eq]; omega))
theorem l97f {f : Nat → Bool} {q : List Int} {m s : Nat} (h : f s = false) : Exec PP T none x97.nt 0 L97.b.b.a.i.b.a (T97 f q m s) (.x 1) (S97 f q m s) := by
  refine exec_orun env0 false 60 [true] [0, 1] (fun _ => rfl) (by kernel_rfl) (by kernel_rfl) (by kernel_rfl) ?_
  rw [(show obOf (orun g0 false 60 L97.b.b.a.i.b.a (T97 f q m s) [true]) = (!f s && true) from by kernel_rfl)]
  rw [h]
  rfl
theorem l97t {f : Nat → Bool} {q : List Int} {m s : Nat} (h : f s = true) : Exec PP T none x97.nt 0 L97.b.b.a.i.b.a (T97 f q m s) .n (V97 f q m s) := by
  refine exec_orun env0 false 60 [false] [0, 1] (fun _ => rfl) (by kernel_rfl) (by kernel_rfl) (by kernel_rfl) ?_
  rw [(show obOf (orun g0 false 60 L97.b.b.a.i.b.a (T97 f q m s) [false]) = (!!f s && true) from by kernel_rfl)]
  rw [h]
  rfl
theorem l97d {f : Nat → Bool} {q : List Int} {m s : Nat}  : Exec PP T none x97.nt 0 L97.b.b.a.i.b.b.a.a (V97 f q m s) .n (U97 f q m s 0) := by
  refine exec_orun env0 false 60 [] [0, 1] (fun _ => rfl) (by kernel_rfl) (by kernel_rfl) (by kernel_rfl) (by kernel_rfl)
theorem m97f {f : Nat → Bool} {q : List Int} {m s v : Nat} (hs : s < 64) (hv : v < 6) (h : grR f s v = false) : Exec PP T none x97.nt 0 M97 (U97 f q m s v) .n (U97 f q m s (v + 1)) := by
  refine exec_orun env0 false 60 [true, false] [0, 1] (fun _ => rfl) (by kernel_rfl) (by kernel_rfl) (by kernel_rfl) ?_
  rw [(show obOf (orun g0 false 60 M97 (U97 f q m s v) [true, false]) = ((fun b0_ : Bool => decide (Int.ofNat v < 6) && true && (decide (0 ≤ IntKind.u64.wrap (Int.ofNat v)) && rng64 (1 * 2 ^ min (IntKind.u64.wrap (Int.ofNat v)).toNat 64) && true && ((!b0_ == true || true) && ((!b0_ == true || b0_ == true && true && (decide (0 ≤ bitop BinOp.or IntKind.i64 (Int.ofNat s) (1 * 2 ^ min (IntKind.u64.wrap (Int.ofNat v)).toNat 64)) && decide (bitop BinOp.or IntKind.i64 (Int.ofNat s) (1 * 2 ^ min (IntKind.u64.wrap (Int.ofNat v)).toNat 64) < 64))) && ((!b0_ == true || b0_ == true && true && decide (0 + (0 + (bitop BinOp.or IntKind.i64 (Int.ofNat s) (1 * 2 ^ min (IntKind.u64.wrap (Int.ofNat v)).toNat 64)).toNat * 1) < 64)) && ((bif bitop BinOp.or IntKind.i64 (Int.ofNat s) (1 * 2 ^ min (IntKind.u64.wrap (Int.ofNat v)).toNat 64) != Int.ofNat s then b0_ == true else true) && true && true))) && ((!bif bitop BinOp.or IntKind.i64 (Int.ofNat s) (1 * 2 ^ min (IntKind.u64.wrap (Int.ofNat v)).toNat 64) != Int.ofNat s then f (0 + (0 + (bitop BinOp.or IntKind.i64 (Int.ofNat s) (1 * 2 ^ min (IntKind.u64.wrap (Int.ofNat v)).toNat 64)).toNat * 1)) else false) && true)) && (rng64 (Int.ofNat v.succ) && true))) (bitop BinOp.or IntKind.i64 (Int.ofNat s) (1 * 2 ^ min (IntKind.u64.wrap (Int.ofNat v)).toNat 64) != Int.ofNat s)) from by kernel_rfl)]
  dsimp only
  have ht := or_tab s hs v hv
  have hw : IntKind.u64.wrap (Int.ofNat v) = Int.ofNat v := (show ∀ v, v < 6 → IntKind.u64.wrap (Int.ofNat v) = Int.ofNat v from of_decide_eq_true (by kernel_rfl)) v hv
  have hp : rng64 (1 * 2 ^ min (Int.ofNat v).toNat 64) = true := (show ∀ v, v < 6 → rng64 (1 * 2 ^ min (Int.ofNat v).toNat 64) = true from of_decide_eq_true (by kernel_rfl)) v hv
  unfold grR orI at h
  unfold orI at ht
  rw [hw] at h ht ⊢
  rw [hp]
  rw [ht.1] at h ⊢
  have i1 : decide (0 ≤ Int.ofNat (s ||| 2 ^ v)) = true := by simp
  have i2 : decide (Int.ofNat (s ||| 2 ^ v) < 64) = true := by have := ht.2; simp; omega
  have i3 : decide (0 + (0 + (Int.ofNat (s ||| 2 ^ v)).toNat * 1) < 64) = true := by have := ht.2; simp; omega
  rw [i1, i2, i3]
  generalize (Int.ofNat (s ||| 2 ^ v) != Int.ofNat s) = K at *
  generalize f (0 + (0 + (Int.ofNat (s ||| 2 ^ v)).toNat * 1)) = Z at *
  cases K <;> cases Z <;> first | (simp at h; done) | (simp [rng64_eq]; omega)
theorem m97t {f : Nat → Bool} {q : List Int} {m s v : Nat} (hs : s < 64) (hv : v < 6) (h : grR f s v = true) : Exec PP T none x97.nt 0 M97 (U97 f q m s v) (.x 1) (S97 f q m s) := by
  refine exec_orun env0 false 60 [true, true] [0, 1] (fun _ => rfl) (by kernel_rfl) (by kernel_rfl) (by kernel_rfl) ?_
  rw [(show obOf (orun g0 false 60 M97 (U97 f q m s v) [true, true]) = ((fun b0_ : Bool => decide (Int.ofNat v < 6) && true && (decide (0 ≤ IntKind.u64.wrap (Int.ofNat v)) && rng64 (1 * 2 ^ min (IntKind.u64.wrap (Int.ofNat v)).toNat 64) && true && ((!b0_ == true || true) && ((!b0_ == true || b0_ == true && true && (decide (0 ≤ bitop BinOp.or IntKind.i64 (Int.ofNat s) (1 * 2 ^ min (IntKind.u64.wrap (Int.ofNat v)).toNat 64)) && decide (bitop BinOp.or IntKind.i64 (Int.ofNat s) (1 * 2 ^ min (IntKind.u64.wrap (Int.ofNat v)).toNat 64) < 64))) && ((!b0_ == true || b0_ == true && true && decide (0 + (0 + (bitop BinOp.or IntKind.i64 (Int.ofNat s) (1 * 2 ^ min (IntKind.u64.wrap (Int.ofNat v)).toNat 64)).toNat * 1) < 64)) && ((bif bitop BinOp.or IntKind.i64 (Int.ofNat s) (1 * 2 ^ min (IntKind.u64.wrap (Int.ofNat v)).toNat 64) != Int.ofNat s then b0_ == true else true) && true && true))) && ((bif bitop BinOp.or IntKind.i64 (Int.ofNat s) (1 * 2 ^ min (IntKind.u64.wrap (Int.ofNat v)).toNat 64) != Int.ofNat s then f (0 + (0 + (bitop BinOp.or IntKind.i64 (Int.ofNat s) (1 * 2 ^ min (IntKind.u64.wrap (Int.ofNat v)).toNat 64)).toNat * 1)) else false) && true)))) (bitop BinOp.or IntKind.i64 (Int.ofNat s) (1 * 2 ^ min (IntKind.u64.wrap (Int.ofNat v)).toNat 64) != Int.ofNat s)) from by kernel_rfl)]
  dsimp only
  have ht := or_tab s hs v hv
  have hw : IntKind.u64.wrap (Int.ofNat v) = Int.ofNat v := (show ∀ v, v < 6 → IntKind.u64.wrap (Int.ofNat v) = Int.ofNat v from of_decide_eq_true (by kernel_rfl)) v hv
  have hp : rng64 (1 * 2 ^ min (Int.ofNat v).toNat 64) = true := (show ∀ v, v < 6 → rng64 (1 * 2 ^ min (Int.ofNat v).toNat 64) = true from of_decide_eq_true (by kernel_rfl)) v hv
  unfold grR orI at h
  unfold orI at ht
  rw [hw] at h ht ⊢
  rw [hp]
  rw [ht.1] at h ⊢
  have i1 : decide (0 ≤ Int.ofNat (s ||| 2 ^ v)) = true := by simp
  have i2 : decide (Int.ofNat (s ||| 2 ^ v) < 64) = true := by have := ht.2; simp; omega
  have i3 : decide (0 + (0 + (Int.ofNat (s ||| 2 ^ v)).toNat * 1) < 64) = true := by have := ht.2; simp; omega
  rw [i1, i2, i3]
  generalize (Int.ofNat (s ||| 2 ^ v) != Int.ofNat s) = K at *
  generalize f (0 + (0 + (Int.ofNat (s ||| 2 ^ v)).toNat * 1)) = Z at *
  cases K <;> cases Z <;> first | (simp at h; done) | (simp [rng64_eq]; omega)
theorem m97x {f : Nat → Bool} {q : List Int} {m s : Nat}  : Exec PP T none x97.nt 0 M97 (U97 f q m s 6) (.x 2) (V97 f q m s) := by
  refine exec_orun env0 false 60 [false] [0, 1] (fun _ => rfl) (by kernel_rfl) (by kernel_rfl) (by kernel_rfl) (by kernel_rfl)
theorem l97p {f : Nat → Bool} {q : List Int} {m s : Nat} (hq : q.length = m * 1) (hm : m ≤ 100) : Exec PP T none x97.nt 0 L97.b.b.a.i.b.b.b (V97 f q m s) .n (S97 f (q.take (m * 1) ++ [Int.ofNat s]) (m + 1) s) := by
  refine exec_orun env0 false 60 [] [0, 3] (fun _ => rfl) (by kernel_rfl) (by kernel_rfl) (by kernel_rfl) ?_
  rw [(show obOf (orun g0 false 60 L97.b.b.a.i.b.b.b (V97 f q m s) []) = (decide (1 ≤ 1) && decide (m * 1 ≤ q.length) && decide (m.succ ≤ 1000000000) && true && true && true) from by kernel_rfl)]
  all_goals (first | rfl | (simp; done) | (simp; omega) | (simp [rng64]; done) | (simp [rng64]; omega) | (simp [rng64_eq]; omega))
theorem l97e {f : Nat → Bool} {q : List Int} {m s : Nat} (hs : s < 64) : Exec PP T none x97.nt 0 L97.b.b.b (S97 f q m s) .n (S97 f q m (s + 1)) := by
  refine exec_orun env0 false 60 [] [0, 1] (fun _ => rfl) (by kernel_rfl) (by kernel_rfl) (by kernel_rfl) ?_
  rw [(show obOf (orun g0 false 60 L97.b.b.b (S97 f q m s) []) = (rng64 (Int.ofNat s.succ) && true) from by kernel_rfl)]
  all_goals (first | rfl | (simp; done) | (simp; omega) | (simp [rng64]; done) | (simp [rng64]; omega) | (simp [rng64_eq]; omega))
theorem d97 {f : Nat → Bool} {q : List Int} {m s : Nat}  : Exec PP T none x97.nt 0 x97.body.b.i.b.b.b (S97 f q m s) .r (mkSt [(2, s1S 0 m)] [⟨false, .ivec 3 .i64 1 q⟩] 1 []) := by
  refine exec_orun env0 false 60 [] [1] (fun _ => rfl) (by kernel_rfl) (by kernel_rfl) (by kernel_rfl) (by kernel_rfl)
def gP (f : Nat → Bool) (s : Nat) : Bool := f s && !(Nat.blt (fstN (grR f s) 6) 6)
abbrev sS97 (f : Nat → Bool) (s : Nat) : St := S97 f (lstF (gP f) s) (lstF (gP f) s).length s
theorem b1_97 {f : Nat → Bool} {s : Nat} (hs : s < 64) : Exec PP T none x97.nt 0 (.block 1 L97.b.b.a.i) (sS97 f s) .n (S97 f (lstF (gP f) (s + 1)) (lstF (gP f) (s + 1)).length s) := by
  have hl := lstF_len (gP f) s
  have hc := l97c (f := f) (q := lstF (gP f) s) (m := (lstF (gP f) s).length) hs
  rw [show 0 + s * 1 = s by omega] at hc
  cases h : f s with
  | false =>
    have hg : gP f s = false := by unfold gP; rw [h]; rfl
    rw [lstF_f hg]
    exact exec_block (id := 1) (x := L97.b.b.a.i) (e := .x 1) (exec_seq (x := L97.b.b.a.i.a) (y := L97.b.b.a.i.b) hc (exec_seq_x (x := L97.b.b.a.i.b.a) (y := L97.b.b.a.i.b.b) (l97f h) (by simp)))
  | true =>
    rcases exec_loop_find (fun v => U97 f (lstF (gP f) s) (lstF (gP f) s).length s v) (grR f s) 6 (eh := .x 1) (Sh := fun _ => sS97 f s) (fun v hv k => m97f hs hv k) (fun v hv k => m97t hs hv k) (by simp) m97x (by simp) with ⟨h1, h2⟩ | ⟨h1, h2⟩
    · have hg : gP f s = false := by unfold gP; rw [blt_lt h1, h]; rfl
      rw [lstF_f hg]
      refine exec_block (id := 1) (x := L97.b.b.a.i) (e := .x 1) (exec_seq (x := L97.b.b.a.i.a) (y := L97.b.b.a.i.b) hc (exec_seq (x := L97.b.b.a.i.b.a) (y := L97.b.b.a.i.b.b) (l97t h) (exec_seq_x (x := L97.b.b.a.i.b.b.a) (y := L97.b.b.a.i.b.b.b) (exec_seq (x := L97.b.b.a.i.b.b.a.a) (y := .block 2 (.loop M97)) l97d ?_) (by simp))))
      exact exec_block (id := 2) (e := .x 1) h2
    · have hg : gP f s = true := by unfold gP; rw [show Nat.blt (fstN (grR f s) 6) 6 = false by rw [h1]; rfl, h]; rfl
      have hp := l97p (f := f) (q := lstF (gP f) s) (m := (lstF (gP f) s).length) (s := s) (by simp) (by omega)
      rw [take_all, ← lstF_t hg] at hp
      have hp2 := exec_eq hp (S2 := S97 f (lstF (gP f) (s + 1)) (lstF (gP f) (s + 1)).length s) (by rw [show (lstF (gP f) s).length + 1 = (lstF (gP f) (s + 1)).length by rw [lstF_t hg]; simp])
      exact exec_block (id := 1) (x := L97.b.b.a.i) (e := .n) (exec_seq (x := L97.b.b.a.i.a) (y := L97.b.b.a.i.b) hc (exec_seq (x := L97.b.b.a.i.b.a) (y := L97.b.b.a.i.b.b) (l97t h) (exec_seq (x := L97.b.b.a.i.b.b.a) (y := L97.b.b.a.i.b.b.b) (exec_seq (x := L97.b.b.a.i.b.b.a.a) (y := .block 2 (.loop M97)) l97d (exec_block (id := 2) (e := .x 2) h2)) hp2)))
theorem body97 {f : Nat → Bool} : Exec PP T none x97.nt 0 x97.body (startSt [.pb [] 64 f] []) .r (mkSt [(2, s1S 0 (lstF (gP f) 64).length)] [⟨false, .ivec 3 .i64 1 (lstF (gP f) 64)⟩] 1 []) := by
  refine exec_seq (x := x97.body.a) (y := .scope x97.body.b.i) a97 (exec_scope (exec_seq (x := x97.body.b.i.a) (y := .seq (.label 0) x97.body.b.i.b.b) b97 (exec_seq exec_label (exec_seq (x := x97.body.b.i.b.b.a) (y := x97.body.b.i.b.b.b) (exec_seq (x := x97.body.b.i.b.b.a.a) (y := .block 0 (.loop L97)) cc97 (exec_block (e := .x 0) (S1 := sS97 f 64) ?_)) d97))))
  exact exec_loop_up (fun s => sS97 f s) 64 (fun s hs => exec_seq (x := L97.a) (y := L97.b) l97a (exec_seq (x := L97.b.a) (y := L97.b.b) (l97b hs) (exec_seq (x := .block 1 L97.b.b.a.i) (y := L97.b.b.b) (b1_97 hs) (l97e hs)))) (exec_seq (x := L97.a) (y := L97.b) l97a (exec_seq_x (x := L97.b.a) (y := L97.b.b) l97x (by simp))) (by simp) 0 (by omega)
def lGr : List PA → List Int := fun pas => match pas with | [.bs _ f] => lstF (gP f) 64 | _ => []
def vGr : List PA → TV := fun pas => .av (.s (.sl 0 0 1 (lGr pas).length))
def nGr : List PA → List HO := fun pas => [⟨false, .ivec 3 .i64 1 (lGr pas)⟩]
noncomputable abbrev spGr : Spec := genS [.bs 64] (fun _ => true) vGr nGr
theorem ok97 : SpecOK PP (compC T) 97 spGr := ok_gen o97 (by kernel_rfl) fun pas hf hc => match pas, hf with
  | [.bs _ f], ⟨rfl, _⟩ => ⟨_, 1, .r, body97, fun _ => rfl, by kernel_rfl, by kernel_rfl, by kernel_rfl⟩
noncomputable def Lg68 : List (Nat × Spec) := [(97, spGr)]
theorem Lg68_ok : SpecsL Lg68 := specsL_cons ok97 (genS_fp) o97 (fun p hp => absurd hp (by simp))
noncomputable abbrev gg68 : Cal → Option Spec := specsΓ Lg68
theorem envg68 : EnvOK PP T gg68 := envL Lg68_ok
def fewC (l : List Int) : Bool := decide (1 ≤ l.length) && decide (l.length ≤ 10) && !(l.getD 0 0 == 0)
theorem a68 {f : Nat → Bool}  : Exec PP T none x68.nt 0 x68.body.a (startSt [.pb [] 64 f] []) .n (mkSt [(1, g1S 0)] [⟨false, .row 95 [] 64 f⟩] 1 []) := by
  refine exec_orun env0 false 60 [] [0] (fun _ => rfl) (by kernel_rfl) (by kernel_rfl) (by kernel_rfl) (by kernel_rfl)
theorem b68 {f : Nat → Bool}  : Exec PP T none x68.nt 0 x68.body.b.a (mkSt [(1, g1S 0)] [⟨false, .row 95 [] 64 f⟩] 1 []) .n (mkSt [(4, s1S 0 (lstF (gP f) 64).length)] [⟨false, .ivec 3 .i64 1 (lstF (gP f) 64)⟩] 1 []) := by
  refine exec_orun envg68 false 60 [] [1] (fun _ => rfl) (by kernel_rfl) (by kernel_rfl) (by kernel_rfl) (by kernel_rfl)
theorem cc68 {l : List Int} {m : Nat} (hl : l.length = m) (h1 : 1 ≤ m) (hm : m ≤ 10) (h : (l.getD 0 0 == 0) = false) : Exec PP T none x68.nt 0 x68.body.b.b.a (mkSt [(4, s1S 0 m)] [⟨false, .ivec 3 .i64 1 l⟩] 1 []) .n (mkSt [(4, s1S 0 m)] [⟨false, .ivec 3 .i64 1 l⟩] 1 []) := by
  refine exec_orun env0 false 60 [false, false] [0] (fun _ => rfl) (by kernel_rfl) (by kernel_rfl) (by kernel_rfl) ?_
  rw [(show obOf (orun g0 false 60 x68.body.b.b.a (mkSt [(4, s1S 0 m)] [⟨false, .ivec 3 .i64 1 l⟩] 1 []) [false, false]) = ((!(Int.ofNat m == 0) == false || true) && ((!(Int.ofNat m == 0) == false || (Int.ofNat m == 0) == false && true && decide (0 < Int.ofNat m)) && ((!(Int.ofNat m == 0) == false || (Int.ofNat m == 0) == false && true && decide (0 < l.length)) && ((!(Int.ofNat m == 0) == false || (Int.ofNat m == 0) == false && true && true) && ((bif Int.ofNat m == 0 then true else (Int.ofNat m == 0) == false) && true && true)))) && ((!bif Int.ofNat m == 0 then true else l.getD 0 0 == 0) && (!decide (Int.ofNat m > 10) && true))) from by kernel_rfl)]
  have h0 : (Int.ofNat m == 0) = false := by simp; omega
  rw [h0, h]
  simp [hl]
  omega
theorem d68 {l : List Int} {m : Nat}  : Exec PP T none x68.nt 0 x68.body.b.b.b (mkSt [(4, s1S 0 m)] [⟨false, .ivec 3 .i64 1 l⟩] 1 []) .r (mkSt [(2, s1S 0 m), (3, iS 0)] [⟨false, .ivec 3 .i64 1 l⟩] 1 []) := by
  refine exec_orun env0 false 60 [] [0] (fun _ => rfl) (by kernel_rfl) (by kernel_rfl) (by kernel_rfl) (by kernel_rfl)
theorem body68 {f : Nat → Bool} (h : fewC (lstF (gP f) 64) = true) : Exec PP T none x68.nt 0 x68.body (startSt [.pb [] 64 f] []) .r (mkSt [(2, s1S 0 (lstF (gP f) 64).length), (3, iS 0)] [⟨false, .ivec 3 .i64 1 (lstF (gP f) 64)⟩] 1 []) := by
  unfold fewC at h
  simp only [Bool.and_eq_true, decide_eq_true_eq, Bool.not_eq_true'] at h
  exact exec_seq (x := x68.body.a) (y := x68.body.b) a68 (exec_seq (x := x68.body.b.a) (y := x68.body.b.b) b68 (exec_seq (x := x68.body.b.b.a) (y := x68.body.b.b.b) (cc68 rfl h.1.1 h.1.2 h.2) d68))
def lFe8 : List PA → List Int := fun pas => match pas with | [.bs _ f] => lstF (gP f) 64 | _ => []
def vFe8 : List PA → TV := fun pas => .tup [.s (.sl 0 0 1 (lFe8 pas).length), .s (.int .i64 0)]
def nFe8 : List PA → List HO := fun pas => [⟨false, .ivec 3 .i64 1 (lFe8 pas)⟩]
noncomputable abbrev spFe8 : Spec := genS [.bs 64] (fun pas => fewC (lFe8 pas)) vFe8 nFe8
theorem ok68 : SpecOK PP (compC T) 68 spFe8 := ok_gen o68 (by kernel_rfl) fun pas hf hc => match pas, hf with
  | [.bs _ f], ⟨rfl, _⟩ => ⟨_, 1, .r, body68 hc, fun _ => rfl, by kernel_rfl, by kernel_rfl, by kernel_rfl⟩
end Go.Proofs.Yteekkjfjpoaihaa.Eng
namespace Go.Proofs.Yteekkjfjpoaihaa.Eng
open Go Go.Proofs
section
variable {P : Program} {T : Tab} {r : Option Nat} {Γ : Cal → Option Spec} {nt kp : Nat}
noncomputable def vwD1 (d : Nat) (ts ids : List Nat) (hs : List HO) (q : Option (Bool × XE × St × List Bool)) : Option (XE × (List (Option Slot) × List (Option HO) × List Nat) × Option (Tr HO) × Option HO) :=
  q.map fun q => (q.2.1, viewG ts ids hs q.2.2.1, spine q.2.2.1.hp, q.2.2.1.hp.get d)
/-- a run that puts one more block aside -/
theorem exec_orunD1 (hE : EnvOK P T Γ) (inr : Bool) (k : Nat) (os : List Bool) (d : Nat) (ids : List Nat) {K : Nat} (hr : inr = false → r = none) {c : XC} {S : St} {e : XE} {ts : List (Nat × Slot)} {hs : List HO} {nx : Nat}
    (hv : vwD1 d (ts.map (·.1)) ids hs (orun Γ inr k c S os) = some (e, (ts.map (fun p => some ⟨p.2.c, p.2.v.ren fun j => ids.getD j 0⟩), hs.map (fun h => some (bif h.live then h.ren fun j => ids.getD j 0 else goneH)), d :: dL K), some (dT K), some ⟨false, .dfr⟩))
    (hok : mkOkG ts hs ids 0 = true) (hl : Nat.ble hs.length 62 = true) (hid : ids.all (fun j => Nat.blt j 62 && !(Nat.beq j d)) = true) (hd : Nat.blt d 62 = true) (hnl : hs.all (fun h => !h.o.isLoop) = true) (hob : obOf (orun Γ inr k c S os) = true) : Exec P T r nt 0 c S e (stD ts hs nx (dT (K + 1)) (dL (K + 1))) := by
  unfold vwD1 at hv
  cases ho : orun Γ inr k c S os with
  | none => rw [ho] at hv; cases hv
  | some q =>
    obtain ⟨v, e1, S1, os1⟩ := q
    rw [ho] at hv hob
    simp only [Option.map_some, Option.some.injEq, Prod.mk.injEq, viewG] at hv
    obtain ⟨rfl, ⟨h3, h4, h5⟩, h6, h7⟩ := hv
    have hlen : ids.length = hs.length := by
      simp only [mkOkG, Bool.and_eq_true] at hok
      exact Nat.eq_of_beq_eq_true hok.1.2
    have hd := Nat.le_of_ble_eq_true hd
    refine (orun_snd hE hr k c S S1 os os1 e1 v ho hob).1.post (weak_D (ids := ids) (fun z => if z = K then d else dN z) hok (Nat.le_of_ble_eq_true hl) (fun p hp => ?_) (fun j h hj => ?_) (fun x ho hx => ?_) (fun z z' _ _ _ _ h => ?_) (fun j h hj => ?_) ⟨K :: (List.range K).reverse, dL_succ K, ?_, fun z hz => ?_⟩)
    · rw [List.map_map] at h3
      exact List.map_inj_left.1 h3 p hp
    · have hlt : j < hs.length := (List.getElem?_eq_some_iff.1 hj).1
      have e : ids[j]? = some (ids.getD j 0) := by
        have : j < ids.length := by omega
        simp [this]
      have hz : (ids.zip hs)[j]? = some (ids.getD j 0, h) := by
        rw [List.getElem?_zip_eq_some]
        exact ⟨e, hj⟩
      have := congrArg (fun l => l[j]?) h4
      simp only [List.getElem?_map, hz, hj, Option.map_some, Option.some.injEq] at this
      unfold lookH at this
      refine ⟨fun hl => ?_, fun hl => ?_⟩
      · rw [hl, cond_true, cond_true] at this
        exact this
      · rw [hl, cond_false] at this
        cases hg : S1.hp.get (ids.getD j 0) with
        | none => rw [hg] at this; cases this
        | some x => rfl
    · have hj : ∀ j h, hs[j]? = some h → ids.getD j 0 < 62 ∧ ids.getD j 0 ≠ d := fun j h hj => by
        have hlt : j < hs.length := (List.getElem?_eq_some_iff.1 hj).1
        have hm : ids.getD j 0 ∈ ids := by
          have : j < ids.length := by omega
          simp [this]
        have := List.all_eq_true.1 hid _ hm
        simp only [Bool.and_eq_true, Bool.not_eq_true'] at this
        exact ⟨Nat.le_of_ble_eq_true this.1, fun e => by rw [beqT e] at this; cases this.2⟩
      rw [dT_get] at hx
      split at hx
      case isFalse => cases hx
      rename_i hzk
      cases hx
      by_cases e : x = K
      · subst e
        refine ⟨rfl, ?_, fun j h hj' _ => ?_⟩
        · rw [if_pos rfl]; exact h7
        · rw [if_pos rfl]; exact (hj j h hj').2
      · rw [if_neg e]
        refine ⟨rfl, ?_, fun j h hj' _ he => ?_⟩
        · rw [spine_get h6, dT_get, if_pos (by omega)]
        · have := (hj j h hj').1
          unfold dN at he
          omega
    · have h : (if z = K then d else dN z) = (if z' = K then d else dN z') := h
      by_cases e : z = K <;> by_cases e' : z' = K
      · omega
      · rw [if_pos e, if_neg e'] at h; unfold dN at h; omega
      · rw [if_neg e, if_pos e'] at h; unfold dN at h; omega
      · rw [if_neg e, if_neg e'] at h; unfold dN at h; omega
    · simpa using List.all_eq_true.1 hnl h (List.mem_of_getElem? hj)
    · rw [h5, List.map_cons, if_pos rfl]
      congr 1
      unfold dL
      refine List.map_congr_left fun z hz => ?_
      have hzk : z < K := by simpa using hz
      rw [if_neg (by omega)]
    · rw [dT_get, if_pos]
      · rfl
      · rcases List.mem_cons.1 hz with rfl | h
        · omega
        · have : z < K := by simpa using h
          omega
/-- what stands in a state, none aside, is such a state -/
theorem weak_D0 {ts : List (Nat × Slot)} {hs : List HO} {nx : Nat} (hok : mkOkG ts hs (List.range hs.length) 0 = true) (hl : Nat.ble hs.length 62 = true) (hnl : hs.all (fun h => !h.o.isLoop) = true) (hv : ∀ p ∈ ts, (mkSt ts hs nx []).sl.get p.1 = some ⟨p.2.c, p.2.v.ren fun j => (List.range hs.length).getD j 0⟩) (hh : ∀ (j : Nat) (h : HO), hs[j]? = some h → h.ren (fun j => (List.range hs.length).getD j 0) = h) : Weak T 0 (mkSt ts hs nx []) (stD ts hs nx (dT 0) (dL 0)) := by
  refine weak_D (ids := List.range hs.length) dN hok (Nat.le_of_ble_eq_true hl) hv (fun j h hj => ?_) (fun z ho hz => by rw [dT_get] at hz; simp at hz) (fun z z' ho ho' hz => by rw [dT_get] at hz; simp at hz) (fun j h hj => by simpa using List.all_eq_true.1 hnl h (List.mem_of_getElem? hj)) ⟨[], rfl, rfl, fun z hz => by cases hz⟩
  have hlt : j < hs.length := (List.getElem?_eq_some_iff.1 hj).1
  have e : (List.range hs.length).getD j 0 = j := by simp [hlt]
  rw [e, mkSt_hp, hj]
  exact ⟨fun _ => by rw [hh j h hj], fun _ => rfl⟩
end
end Go.Proofs.Yteekkjfjpoaihaa.Eng
namespace Go.Proofs.Yteekkjfjpoaihaa.Eng
open Go Go.Proofs
def L69 : XC := x69.body.b.b.a.b.i.i
abbrev H69 (M : Nat) (q : List Int) : List HO := [⟨false, .row 95 [] 64 ff⟩, ⟨false, .row 95 [] 64 (bitF M)⟩, ⟨true, .xvec .i64 1 q⟩]
abbrev t69 (m i : Nat) : List (Nat × Slot) := [(2, g1S 0), (3, g1S 1), (7, s1S 2 m), (8, iS m), (9, iS i)]
noncomputable abbrev S69 (M : Nat) (q : List Int) (m i k : Nat) : St := stD (t69 m i) (H69 M q) 3 (dT k) (dL k)
noncomputable abbrev Q69 (M : Nat) (q : List Int) (m i k : Nat) : St := stD ((10, ⟨true, B (decide (Int.ofNat i < Int.ofNat m))⟩) :: t69 m i) (H69 M q) 3 (dT k) (dL k)
noncomputable abbrev P69 (M : Nat) (q : List Int) (m i k : Nat) (s : Int) : St := stD ((5, iS s) :: t69 m i) (H69 M q) 3 (dT k) (dL k)
def updF (f : Nat → Bool) (p : Nat) : Nat → Bool := fun j => bif Nat.beq j p then true else f j
def unM (M : Nat) (l : List Nat) : Nat := l.foldl (fun M p => M ||| 2 ^ p) M
/-- the parts of a set, rising -/
def subs (s : Nat) : List Nat := (List.range (s + 1)).filter fun p => Nat.beq (Nat.land p s) p
theorem updF_bit {M p : Nat} : updF (bitF M) p = bitF (M ||| 2 ^ p) := by
  funext j
  unfold updF bitF
  rw [Nat.testBit_or, Nat.testBit_two_pow]
  by_cases h : j = p
  · subst h; rw [beqT rfl]; simp
  · rw [beqF h, cond_false]; simp [show ¬ p = j from fun e => h e.symm]
theorem updF_un : ∀ (l : List Nat) (M : Nat), l.foldl updF (bitF M) = bitF (unM M l)
  | [], _ => rfl
  | p :: l, M => by
    show l.foldl updF (updF (bitF M) p) = _
    rw [updF_bit, updF_un l]
    rfl
noncomputable abbrev N69 (M : Nat) (l : List Nat) (q : List Int) (m i k : Nat) : St := stD (t69 m i) [⟨false, .row 95 [] 64 ff⟩, ⟨false, .row 95 [] 64 (l.foldl updF (bitF M))⟩, ⟨true, .xvec .i64 1 q⟩] 3 (dT k) (dL k)
theorem one69 (s : Nat) (hs : s < 32) {M : Nat} {q : List Int} {m i k : Nat} : Exec PP T none x69.nt 0 L69.b.b.a.i.b (P69 M q m i k (Int.ofNat s)) .n (S69 (unM M (subs s)) q m i (k + 1)) := by
  have key : Exec PP T none x69.nt 0 L69.b.b.a.i.b (P69 M q m i k (Int.ofNat s)) .n (N69 M (subs s) q m i (k + 1)) := by
    match s, hs with
    | 0, _ => exact exec_orunD1 envA false 60 [] 11 [0, 1, 2] (fun _ => rfl) (by kernel_rfl) (by kernel_rfl) (by kernel_rfl) (by kernel_rfl) (by kernel_rfl) (by kernel_rfl) (by kernel_rfl)
    | 1, _ => exact exec_orunD1 envA false 60 [] 11 [0, 1, 2] (fun _ => rfl) (by kernel_rfl) (by kernel_rfl) (by kernel_rfl) (by kernel_rfl) (by kernel_rfl) (by kernel_rfl) (by kernel_rfl)
    | 2, _ => exact exec_orunD1 envA false 60 [] 11 [0, 1, 2] (fun _ => rfl) (by kernel_rfl) (by kernel_rfl) (by kernel_rfl) (by kernel_rfl) (by kernel_rfl) (by kernel_rfl) (by kernel_rfl)
    | 3, _ => exact exec_orunD1 envA false 60 [] 11 [0, 1, 2] (fun _ => rfl) (by kernel_rfl) (by kernel_rfl) (by kernel_rfl) (by kernel_rfl) (by kernel_rfl) (by kernel_rfl) (by kernel_rfl)
    | 4, _ => exact exec_orunD1 envA false 60 [] 11 [0, 1, 2] (fun _ => rfl) (by kernel_rfl) (by kernel_rfl) (by kernel_rfl) (by kernel_rfl) (by kernel_rfl) (by kernel_rfl) (by kernel_rfl)
    | 5, _ => exact exec_orunD1 envA false 60 [] 11 [0, 1, 2] (fun _ => rfl) (by kernel_rfl) (by kernel_rfl) (by kernel_rfl) (by kernel_rfl) (by kernel_rfl) (by kernel_rfl) (by kernel_rfl)
    | 6, _ => exact exec_orunD1 envA false 60 [] 11 [0, 1, 2] (fun _ => rfl) (by kernel_rfl) (by kernel_rfl) (by kernel_rfl) (by kernel_rfl) (by kernel_rfl) (by kernel_rfl) (by kernel_rfl)
    | 7, _ => exact exec_orunD1 envA false 60 [] 11 [0, 1, 2] (fun _ => rfl) (by kernel_rfl) (by kernel_rfl) (by kernel_rfl) (by kernel_rfl) (by kernel_rfl) (by kernel_rfl) (by kernel_rfl)
    | 8, _ => exact exec_orunD1 envA false 60 [] 11 [0, 1, 2] (fun _ => rfl) (by kernel_rfl) (by kernel_rfl) (by kernel_rfl) (by kernel_rfl) (by kernel_rfl) (by kernel_rfl) (by kernel_rfl)
    | 9, _ => exact exec_orunD1 envA false 60 [] 11 [0, 1, 2] (fun _ => rfl) (by kernel_rfl) (by kernel_rfl) (by kernel_rfl) (by kernel_rfl) (by kernel_rfl) (by kernel_rfl) (by kernel_rfl)
    | 10, _ => exact exec_orunD1 envA false 60 [] 11 [0, 1, 2] (fun _ => rfl) (by kernel_rfl) (by kernel_rfl) (by kernel_rfl) (by kernel_rfl) (by kernel_rfl) (by kernel_rfl) (by kernel_rfl)
    | 11, _ => exact exec_orunD1 envA false 60 [] 11 [0, 1, 2] (fun _ => rfl) (by kernel_rfl) (by kernel_rfl) (by kernel_rfl) (by kernel_rfl) (by kernel_rfl) (by kernel_rfl) (by kernel_rfl)
    | 12, _ => exact exec_orunD1 envA false 60 [] 11 [0, 1, 2] (fun _ => rfl) (by kernel_rfl) (by kernel_rfl) (by kernel_rfl) (by kernel_rfl) (by kernel_rfl) (by kernel_rfl) (by kernel_rfl)
    | 13, _ => exact exec_orunD1 envA false 60 [] 11 [0, 1, 2] (fun _ => rfl) (by kernel_rfl) (by kernel_rfl) (by kernel_rfl) (by kernel_rfl) (by kernel_rfl) (by kernel_rfl) (by kernel_rfl)
    | 14, _ => exact exec_orunD1 envA false 60 [] 11 [0, 1, 2] (fun _ => rfl) (by kernel_rfl) (by kernel_rfl) (by kernel_rfl) (by kernel_rfl) (by kernel_rfl) (by kernel_rfl) (by kernel_rfl)
    | 15, _ => exact exec_orunD1 envA false 60 [] 11 [0, 1, 2] (fun _ => rfl) (by kernel_rfl) (by kernel_rfl) (by kernel_rfl) (by kernel_rfl) (by kernel_rfl) (by kernel_rfl) (by kernel_rfl)
    | 16, _ => exact exec_orunD1 envA false 60 [] 11 [0, 1, 2] (fun _ => rfl) (by kernel_rfl) (by kernel_rfl) (by kernel_rfl) (by kernel_rfl) (by kernel_rfl) (by kernel_rfl) (by kernel_rfl)
    | 17, _ => exact exec_orunD1 envA false 60 [] 11 [0, 1, 2] (fun _ => rfl) (by kernel_rfl) (by kernel_rfl) (by kernel_rfl) (by kernel_rfl) (by kernel_rfl) (by kernel_rfl) (by kernel_rfl)
    | 18, _ => exact exec_orunD1 envA false 60 [] 11 [0, 1, 2] (fun _ => rfl) (by kernel_rfl) (by kernel_rfl) (by kernel_rfl) (by kernel_rfl) (by kernel_rfl) (by kernel_rfl) (by kernel_rfl)
    | 19, _ => exact exec_orunD1 envA false 60 [] 11 [0, 1, 2] (fun _ => rfl) (by kernel_rfl) (by kernel_rfl) (by kernel_rfl) (by kernel_rfl) (by kernel_rfl) (by kernel_rfl) (by kernel_rfl)
    | 20, _ => exact exec_orunD1 envA false 60 [] 11 [0, 1, 2] (fun _ => rfl) (by kernel_rfl) (by kernel_rfl) (by kernel_rfl) (by kernel_rfl) (by kernel_rfl) (by kernel_rfl) (by kernel_rfl)
    | 21, _ => exact exec_orunD1 envA false 60 [] 11 [0, 1, 2] (fun _ => rfl) (by kernel_rfl) (by kernel_rfl) (by kernel_rfl) (by kernel_rfl) (by kernel_rfl) (by kernel_rfl) (by kernel_rfl)
    | 22, _ => exact exec_orunD1 envA false 60 [] 11 [0, 1, 2] (fun _ => rfl) (by kernel_rfl) (by kernel_rfl) (by kernel_rfl) (by kernel_rfl) (by kernel_rfl) (by kernel_rfl) (by kernel_rfl)
    | 23, _ => exact exec_orunD1 envA false 60 [] 11 [0, 1, 2] (fun _ => rfl) (by kernel_rfl) (by kernel_rfl) (by kernel_rfl) (by kernel_rfl) (by kernel_rfl) (by kernel_rfl) (by kernel_rfl)
    | 24, _ => exact exec_orunD1 envA false 60 [] 11 [0, 1, 2] (fun _ => rfl) (by kernel_rfl) (by kernel_rfl) (by kernel_rfl) (by kernel_rfl) (by kernel_rfl) (by kernel_rfl) (by kernel_rfl)
    | 25, _ => exact exec_orunD1 envA false 60 [] 11 [0, 1, 2] (fun _ => rfl) (by kernel_rfl) (by kernel_rfl) (by kernel_rfl) (by kernel_rfl) (by kernel_rfl) (by kernel_rfl) (by kernel_rfl)
    | 26, _ => exact exec_orunD1 envA false 60 [] 11 [0, 1, 2] (fun _ => rfl) (by kernel_rfl) (by kernel_rfl) (by kernel_rfl) (by kernel_rfl) (by kernel_rfl) (by kernel_rfl) (by kernel_rfl)
    | 27, _ => exact exec_orunD1 envA false 60 [] 11 [0, 1, 2] (fun _ => rfl) (by kernel_rfl) (by kernel_rfl) (by kernel_rfl) (by kernel_rfl) (by kernel_rfl) (by kernel_rfl) (by kernel_rfl)
    | 28, _ => exact exec_orunD1 envA false 60 [] 11 [0, 1, 2] (fun _ => rfl) (by kernel_rfl) (by kernel_rfl) (by kernel_rfl) (by kernel_rfl) (by kernel_rfl) (by kernel_rfl) (by kernel_rfl)
    | 29, _ => exact exec_orunD1 envA false 60 [] 11 [0, 1, 2] (fun _ => rfl) (by kernel_rfl) (by kernel_rfl) (by kernel_rfl) (by kernel_rfl) (by kernel_rfl) (by kernel_rfl) (by kernel_rfl)
    | 30, _ => exact exec_orunD1 envA false 60 [] 11 [0, 1, 2] (fun _ => rfl) (by kernel_rfl) (by kernel_rfl) (by kernel_rfl) (by kernel_rfl) (by kernel_rfl) (by kernel_rfl) (by kernel_rfl)
    | 31, _ => exact exec_orunD1 envA false 60 [] 11 [0, 1, 2] (fun _ => rfl) (by kernel_rfl) (by kernel_rfl) (by kernel_rfl) (by kernel_rfl) (by kernel_rfl) (by kernel_rfl) (by kernel_rfl)
    | n + 32, h => exact absurd h (by omega)
  unfold N69 at key
  rw [updF_un] at key
  exact key
theorem l69a {M : Nat} {q : List Int} {m i k : Nat}  : Exec PP T none x69.nt 0 L69.a (S69 M q m i k) .n (Q69 M q m i k) := by
  refine exec_orunD env0 false 60 [] [0, 1, 2] (fun _ => rfl) (by kernel_rfl) (by kernel_rfl) (by kernel_rfl) (by kernel_rfl) (by kernel_rfl) (by kernel_rfl)
theorem l69b {M : Nat} {q : List Int} {m i k : Nat} (hi : i < m) : Exec PP T none x69.nt 0 L69.b.a (Q69 M q m i k) .n (S69 M q m i k) := by
  refine exec_orunD env0 false 60 [true] [0, 1, 2] (fun _ => rfl) (by kernel_rfl) (by kernel_rfl) (by kernel_rfl) (by kernel_rfl) (by kernel_rfl) ?_
  rw [(show obOf (orun g0 false 60 L69.b.a (Q69 M q m i k) [true]) = (decide (Int.ofNat i < Int.ofNat m) && true) from by kernel_rfl)]
  simp
  omega
theorem l69x {M : Nat} {q : List Int} {m k : Nat}  : Exec PP T none x69.nt 0 L69.b.a (Q69 M q m m k) (.x 0) (S69 M q m m k) := by
  refine exec_orunD env0 false 60 [false] [0, 1, 2] (fun _ => rfl) (by kernel_rfl) (by kernel_rfl) (by kernel_rfl) (by kernel_rfl) (by kernel_rfl) ?_
  rw [(show obOf (orun g0 false 60 L69.b.a (Q69 M q m m k) [false]) = (!decide (Int.ofNat m < Int.ofNat m) && true) from by kernel_rfl)]
  simp
theorem l69c {M : Nat} {q : List Int} {m i k : Nat} (hq : q.length = m) (hi : i < m) : Exec PP T none x69.nt 0 L69.b.b.a.i.a (S69 M q m i k) .n (P69 M q m i k (q.getD (0 + (0 + i) * 1) 0)) := by
  refine exec_orunD env0 false 60 [] [0, 1, 2] (fun _ => rfl) (by kernel_rfl) (by kernel_rfl) (by kernel_rfl) (by kernel_rfl) (by kernel_rfl) ?_
  rw [(show obOf (orun g0 false 60 L69.b.b.a.i.a (S69 M q m i k) []) = (decide (0 ≤ Int.ofNat i) && decide (Int.ofNat i < Int.ofNat m) && (decide (0 + (0 + i) * 1 < q.length) && true)) from by kernel_rfl)]
  simp
  omega
theorem l69e {M : Nat} {q : List Int} {m i k : Nat} (hm : m ≤ 100) (hi : i < m) : Exec PP T none x69.nt 0 L69.b.b.b (S69 M q m i k) .n (S69 M q m (i + 1) k) := by
  refine exec_orunD env0 false 60 [] [0, 1, 2] (fun _ => rfl) (by kernel_rfl) (by kernel_rfl) (by kernel_rfl) (by kernel_rfl) (by kernel_rfl) ?_
  rw [(show obOf (orun g0 false 60 L69.b.b.b (S69 M q m i k) []) = (rng64 (Int.ofNat i.succ) && true) from by kernel_rfl)]
  simp [rng64]
  omega
noncomputable abbrev Z69 (f : Nat → Bool) (k : Nat) : St := stD [(2, g1S 0)] [⟨false, .row 95 [] 64 f⟩] 1 (dT k) (dL k)
theorem d69 {M : Nat} {q : List Int} {m i k : Nat}  : Exec PP T none x69.nt 0 x69.body.b.b.b (S69 M q m i k) .r (Z69 (bitF M) k) := by
  refine exec_orunD env0 false 60 [] [0] (fun _ => rfl) (by kernel_rfl) (by kernel_rfl) (by kernel_rfl) (by kernel_rfl) (by kernel_rfl) (by kernel_rfl)
theorem a69 {q : List Int} {m : Nat}  : Exec PP T none x69.nt 0 x69.body.a (startSt [.s (.sl 0 0 1 m)] [⟨true, .xvec .i64 1 q⟩]) .n (mkSt [(0, s1S 0 m), (2, g1S 1)] [⟨true, .xvec .i64 1 q⟩, ⟨false, .row 95 [] 64 ff⟩] 2 []) := by
  refine exec_orun env0 false 60 [] [0, 1] (fun _ => rfl) (by kernel_rfl) (by kernel_rfl) (by kernel_rfl) (by kernel_rfl)
theorem b69 {q : List Int} {m : Nat}  : Exec PP T none x69.nt 0 x69.body.b.a (mkSt [(0, s1S 0 m), (2, g1S 1)] [⟨true, .xvec .i64 1 q⟩, ⟨false, .row 95 [] 64 ff⟩] 2 []) .n (mkSt [(0, s1S 2 m), (2, g1S 0), (3, g1S 1)] [⟨false, .row 95 [] 64 ff⟩, ⟨false, .row 95 [] 64 ff⟩, ⟨true, .xvec .i64 1 q⟩] 3 []) := by
  refine exec_orun env0 false 60 [] [1, 2, 0] (fun _ => rfl) (by kernel_rfl) (by kernel_rfl) (by kernel_rfl) (by kernel_rfl)
theorem cc69 {q : List Int} {m : Nat}  : Exec PP T none x69.nt 0 x69.body.b.b.a.a (mkSt [(0, s1S 2 m), (2, g1S 0), (3, g1S 1)] [⟨false, .row 95 [] 64 ff⟩, ⟨false, .row 95 [] 64 ff⟩, ⟨true, .xvec .i64 1 q⟩] 3 []) .n (mkSt (t69 m 0) [⟨false, .row 95 [] 64 ff⟩, ⟨false, .row 95 [] 64 ff⟩, ⟨true, .xvec .i64 1 q⟩] 3 []) := by
  refine exec_orun env0 false 60 [] [0, 1, 2] (fun _ => rfl) (by kernel_rfl) (by kernel_rfl) (by kernel_rfl) (by kernel_rfl)
/-- what a run must show, blocks aside; the new objects are the first ones of its last heap -/
def GenRunD (x : XFn) (pas : List PA) (tv : TV) (news : List HO) : Prop :=
  ∃ ts hs' nx ex k, Exec PP T none x.nt 0 x.body (startSt (argsP 0 pas) (heapP pas)) ex (stD ts (news ++ hs') nx (dT k) (dL k)) ∧ (ex ≠ .n → ex = .r) ∧ Nat.ble (news ++ hs').length 62 = true ∧ resV (stD ts (news ++ hs') nx (dT k) (dL k)).sl.get (leaveH (stD ts (news ++ hs') nx (dT k) (dL k)).hp.get (dL k)) x.res = some (true, tv) ∧
    tv.ids.all (fun j => Nat.blt j news.length) = true ∧ news.all (fun ho => !ho.ro && ho.live && !ho.o.isLoop && ho.o.ids.all fun j => Nat.blt j news.length) = true
theorem ok_genD {f : FuncId} {x : XFn} (hx : FunOK PP T f x) {ks : List PK} {c : List PA → Bool} {v : List PA → TV} {news : List PA → List HO} (hlen : Nat.ble ks.length x.nt = true)
    (hrun : ∀ pas, Fits ks pas → c pas = true → GenRunD x pas (v pas) (news pas)) : SpecOK PP (compC T) f (genS ks c v news) := by
  refine spec_gen tokP hx fun ctx m hh w args vals base e hH hargs hr hvc => ?_
  simp only [genS] at hr
  split at hr
  · rename_i vc pas rd hs
    cases hr
    simp only [Bool.and_eq_true] at hvc
    obtain ⟨rfl, hc⟩ := hvc
    obtain ⟨hf, mbs, hb, hsit⟩ := view_args hH hargs hs
    obtain ⟨ts, hs', nx, ex, k, r1, r2, r0, r3, r4, r5⟩ := hrun pas hf hc
    have r0 := Nat.le_of_ble_eq_true r0
    refine ⟨rfl, fun j => mbs[j]?, heapP pas, argsP 0 pas, ?_⟩
    refine { view := ⟨fun j ho hj => ?_, fun j hj => ?_⟩, args := hsit _ 0 fun j mb hj => (by rw [Nat.zero_add]; exact hj), len := (by rw [argsP_len hf]; exact Nat.le_of_ble_eq_true hlen), run := ⟨stD ts (news pas ++ hs') nx (dT k) (dL k), ex, v pas, List.range (news pas).length, r1, by by_cases h : ex = .n; exact .inl h; exact .inr (r2 h), dfOk_all _ _ (dL_nodup k) (fun id hid => by
      obtain ⟨x, h1, rfl⟩ := dL_mem.1 hid
      rw [stD_in r0, dT_get, if_pos h1]), r3, nodup_range _,
      fun j hj => List.mem_range.2 (Nat.le_of_ble_eq_true (List.all_eq_true.1 r4 j hj)), rfl, by simp, fun j id h => ?_⟩ }
    · rw [heapP_eq, List.getElem?_map] at hj
      cases ho' : (objsP pas)[j]? with
      | none => rw [ho'] at hj; cases hj
      | some o =>
        rw [ho'] at hj
        cases hj
        have hl := (List.getElem?_eq_some_iff.1 ho').1
        obtain ⟨mb, hm⟩ : ∃ mb, mbs[j]? = some mb := ⟨_, List.getElem?_eq_getElem (by rw [hb.1]; exact hl)⟩
        obtain ⟨k1, k2⟩ := hb.2 j o _ ho' hm
        exact ⟨rfl, _, hm, k1 _, k2⟩
    · rw [heapP_eq, List.length_map] at hj
      exact List.getElem?_eq_none (by rw [hb.1]; exact hj)
    · have hk : j < (news pas).length := by
        have := (List.getElem?_eq_some_iff.1 h).1
        simpa using this
      rw [List.getElem?_range hk] at h
      cases h
      have hin := List.all_eq_true.1 r5 (news pas)[j] (List.getElem_mem _)
      simp only [Bool.and_eq_true, Bool.not_eq_true'] at hin
      have hk2 : j < (news pas ++ hs').length := by simp; omega
      refine ⟨(news pas)[j], ?_, hin.1.1.1, hin.1.1.2, hin.1.2, fun j hj => List.mem_range.2 (Nat.le_of_ble_eq_true (List.all_eq_true.1 hin.2 j hj)), ?_⟩
      · show leaveH (stD ts (news pas ++ hs') nx (dT k) (dL k)).hp.get (dL k) j = _
        rw [leaveH_other _ _ _ fun hm => by
          obtain ⟨x, _, h2⟩ := dL_mem.1 hm
          unfold dN at h2
          omega, stD_lt hk2, List.getElem?_append_left hk]
        simp [hk]
      · simp [hk]
  · cases hr
def clM (l : List Int) : Nat := l.foldl (fun M s => unM M (subs s.toNat)) 0
def lt32 (l : List Int) : Bool := l.all fun x => decide (0 ≤ x) && decide (x < 32)
theorem ff_bit : ff = bitF 0 := by
  funext j
  simp [ff, bitF]
theorem clM_take {q : List Int} {i : Nat} (h : i < q.length) : clM (q.take (i + 1)) = unM (clM (q.take i)) (subs (q.getD i 0).toNat) := by
  unfold clM
  rw [List.take_succ, List.foldl_append, List.getElem?_eq_getElem h]
  simp [List.getD_eq_getElem?_getD, List.getElem?_eq_getElem h]
theorem dd69 {q : List Int} {m : Nat} : Exec PP T none x69.nt 0 x69.body.b.b.a.a (mkSt [(0, s1S 2 m), (2, g1S 0), (3, g1S 1)] [⟨false, .row 95 [] 64 ff⟩, ⟨false, .row 95 [] 64 ff⟩, ⟨true, .xvec .i64 1 q⟩] 3 []) .n (S69 0 q m 0 0) := by
  refine exec_eq (cc69.post (weak_D0 (by kernel_rfl) (by kernel_rfl) (by kernel_rfl) (fun p hp => ?_) (fun j h hj => ?_))) (congrArg (fun f => stD (t69 m 0) [⟨false, .row 95 [] 64 ff⟩, ⟨false, .row 95 [] 64 f⟩, ⟨true, .xvec .i64 1 q⟩] 3 (dT 0) (dL 0)) ff_bit)
  · simp only [List.mem_cons, List.not_mem_nil, or_false] at hp
    rcases hp with rfl | rfl | rfl | rfl | rfl <;> kernel_rfl
  · match j, hj with
    | 0, hj => cases hj; rfl
    | 1, hj => cases hj; rfl
    | 2, hj => cases hj; rfl
    | j + 3, hj => simp at hj
theorem body69 {q : List Int} {m : Nat} (hq : q.length = m) (hm : m ≤ 64) (h : lt32 q = true) : Exec PP T none x69.nt 0 x69.body (startSt [.s (.sl 0 0 1 m)] [⟨true, .xvec .i64 1 q⟩]) .r (Z69 (bitF (clM q)) m) := by
  refine exec_seq (x := x69.body.a) (y := x69.body.b) a69 (exec_seq (x := x69.body.b.a) (y := x69.body.b.b) b69 (exec_seq (x := x69.body.b.b.a) (y := x69.body.b.b.b) (exec_seq (x := x69.body.b.b.a.a) (y := .block 0 (.loop L69)) dd69 (exec_block (e := .x 0) (S1 := S69 (clM q) q m m m) ?_)) d69))
  have key := exec_loop_up (P := PP) (T := T) (r := none) (nt := x69.nt) (kp := 0) (x := L69) (fun i => S69 (clM (q.take i)) q m i i) m (fun i hi => by
    have hx := List.all_eq_true.1 h (q.getD i 0) (by rw [List.getD_eq_getElem?_getD, List.getElem?_eq_getElem (by omega)]; simp)
    simp only [Bool.and_eq_true, decide_eq_true_eq] at hx
    have e : q.getD i 0 = Int.ofNat (q.getD i 0).toNat := (Int.toNat_of_nonneg hx.1).symm
    have h1 := l69c (M := clM (q.take i)) (k := i) hq hi
    rw [show 0 + (0 + i) * 1 = i by omega, e] at h1
    have h2 := one69 (q.getD i 0).toNat (by omega) (M := clM (q.take i)) (q := q) (m := m) (i := i) (k := i)
    rw [← clM_take (by omega)] at h2
    exact exec_seq (x := L69.a) (y := L69.b) l69a (exec_seq (x := L69.b.a) (y := L69.b.b) (l69b hi) (exec_seq (x := .block 1 L69.b.b.a.i) (y := L69.b.b.b) (exec_block (id := 1) (x := L69.b.b.a.i) (e := .n) (exec_seq (x := L69.b.b.a.i.a) (y := L69.b.b.a.i.b) h1 h2)) (l69e (by omega) hi)))) (exec_seq (x := L69.a) (y := L69.b) l69a (exec_seq_x (x := L69.b.a) (y := L69.b.b) l69x (by simp))) (by simp) 0 (Nat.zero_le _)
  have e : q.take m = q := by rw [← hq]; exact List.take_length
  rw [show clM (q.take 0) = 0 from rfl] at key
  refine exec_eq key ?_
  rw [e]
def fCl : List PA → Nat := fun pas => match pas with | [.sl _ q _] => clM q | _ => 0
def okCl : List PA → Bool := fun pas => match pas with | [.sl _ q m] => decide (m ≤ 64) && lt32 q | _ => false
noncomputable abbrev spCl : Spec := genS [.sl 1] okCl (fun pas => .av (.pb [] 64 (bitF (fCl pas)))) fun _ => []
theorem res69 {sl : Nat → Option Slot} {L : Nat → Option HO} {f : Nat → Bool} (h1 : sl 2 = some (g1S 0)) (h2 : L 0 = some ⟨false, .row 95 [] 64 f⟩) : resV sl L x69.res = some (true, .av (.pb [] 64 f)) := by
  show resV sl L [(.cell 2 (.many 0 64))] = _
  simp [resV, resVs, resV1, evalX, h1, h2, ldO]
theorem ok69 : SpecOK PP (compC T) 69 spCl := ok_genD o69 (by kernel_rfl) fun pas hf hc => match pas, hf with
  | [.sl _ q m], ⟨⟨rfl, hq, hm⟩, _⟩ => by
    simp only [okCl, Bool.and_eq_true, decide_eq_true_eq] at hc
    exact ⟨_, _, 1, .r, m, body69 (by omega) hc.1 hc.2, fun _ => rfl, by kernel_rfl, res69 rfl (by
      rw [leaveH_other _ _ _ fun hm => by
          obtain ⟨x, _, h2⟩ := dL_mem.1 hm
          unfold dN at h2
          omega]
      exact stD_lt (by simp)), by kernel_rfl, by kernel_rfl⟩
end Go.Proofs.Yteekkjfjpoaihaa.Eng
namespace Go.Proofs.Yteekkjfjpoaihaa.Eng
open Go Go.Proofs
abbrev HM (ro : Bool) (q : List Int) (n : Nat) : List HO := [⟨true, .xvec .i64 1 q⟩, ⟨ro, .row 3 [.int .i64 (Int.ofNat n)] 0 ff⟩]
abbrev A67 (s : Int) : List AV := [.s (.int .i64 s), .s (.ptr 1 0 0)]
abbrev A96 (m : Nat) : List AV := [.s (.sl 0 0 1 m), .s (.fn 67 [1])]
noncomputable abbrev spM1 (ro : Bool) (q : List Int) (n : Nat) (f : List AV) (v : TV) : Spec := spAt f (mkSt [] (HM ro q n) 2 []).hp.get 2 v [] []
def m67 (n : Nat) (s : Int) : Bool := bif decide (s < 0) then true else decide (s ≥ 1 * 2 ^ (min (IntKind.u64.wrap (Int.ofNat n)).toNat 64))
theorem r67 {q : List Int} {n : Nat} {s : Int} (hn : n ≤ 6) : Exec PP T none x67.nt 2 x67.body (mkSt (slotsOf (A67 s)) (HM true q n) 2 []) .r (mkSt [(3, ⟨true, B (m67 n s)⟩)] (HM true q n) 2 []) := by
  refine exec_orunG env0 false 60 [] [0, 1] (fun _ => rfl) (by kernel_rfl) (by kernel_rfl) (by kernel_rfl) ?_
  rw [(show obOf (orun g0 false 60 x67.body (mkSt (slotsOf (A67 s)) (HM true q n) 2 []) []) = ((!decide (s < 0) == false || true) && ((!decide (s < 0) == false || true) && ((!decide (s < 0) == false || decide (s < 0) == false && true && true) && ((!decide (s < 0) == false || decide (s < 0) == false && true && (decide (0 ≤ IntKind.u64.wrap (Int.ofNat n)) && rng64 (1 * 2 ^ min (IntKind.u64.wrap (Int.ofNat n)).toNat 64))) && ((!decide (s < 0) == false || decide (s < 0) == false && (decide (s < 0) == false && true) && true) && ((bif decide (s < 0) then true else decide (s < 0) == false) && true && true))))) && true) from by kernel_rfl)]
  have h1 : rng64 (1 * 2 ^ min (IntKind.u64.wrap (Int.ofNat n)).toNat 64) = true := (show ∀ n, n < 7 → rng64 (1 * 2 ^ min (IntKind.u64.wrap (Int.ofNat n)).toNat 64) = true from of_decide_eq_true (by kernel_rfl)) n (by omega)
  have h2 : (decide (0 ≤ IntKind.u64.wrap (Int.ofNat n))) = true := (show ∀ n, n < 7 → (decide (0 ≤ IntKind.u64.wrap (Int.ofNat n))) = true from of_decide_eq_true (by kernel_rfl)) n (by omega)
  rw [h1, h2]
  simp
theorem m67_f {n : Nat} {s : Int} (hn : n ≤ 6) (h0 : 0 ≤ s) (h1 : s < 2 ^ n) : m67 n s = false := by
  unfold m67
  have h : (1 : Int) * 2 ^ min (IntKind.u64.wrap (Int.ofNat n)).toNat 64 = 2 ^ n := (show ∀ n, n < 7 → (1 : Int) * 2 ^ min (IntKind.u64.wrap (Int.ofNat n)).toNat 64 = 2 ^ n from of_decide_eq_true (by kernel_rfl)) n (by omega)
  rw [h]
  have a : decide (s < 0) = false := by simp; omega
  have b : decide (s ≥ 2 ^ n) = false := by simp; omega
  rw [a, b]
  rfl
theorem ok67 {q : List Int} {n : Nat} {s : Int} (hn : n ≤ 6) (h0 : 0 ≤ s) (h1 : s < 2 ^ n) : SpecOK PP (compC T) 67 (spM1 true q n (A67 s) (B false)) := by
  have h := r67 (q := q) (s := s) hn
  rw [m67_f hn h0 h1] at h
  exact spec_ro o67 (hs := HM true q n) (A := A67 s) (by kernel_rfl) (by kernel_rfl) (by kernel_rfl) h (fun _ => rfl) (by kernel_rfl) rfl
noncomputable abbrev gM (f : FuncId) (s : Spec) : Cal → Option Spec := specsΓ [(f, s)]
theorem envM {f : FuncId} {s : Spec} {x : XFn} (h : SpecOK PP (compC T) f s) (hfp : SpecFp s) (ho : FunOK PP T f x) : EnvOK PP T (gM f s) := envL (specsL_cons h hfp ho (fun p hp => absurd hp (by simp)))
def L96 : XC := x96.body.b.a.b.i.i
abbrev S96 (q : List Int) (n m i : Nat) : St := mkSt [(0, s1S 0 m), (1, ⟨true, .av (.s (.fn 67 [1]))⟩), (7, iS m), (8, iS i)] (HM true q n) 2 []
theorem a96 {q : List Int} {n m : Nat}  : Exec PP T none x96.nt 2 x96.body.a (mkSt (slotsOf (A96 m)) (HM true q n) 2 []) .n (mkSt [(0, s1S 0 m), (1, ⟨true, .av (.s (.fn 67 [1]))⟩)] (HM true q n) 2 []) := by
  refine exec_orunG env0 false 60 [] [0, 1] (fun _ => rfl) (by kernel_rfl) (by kernel_rfl) (by kernel_rfl) (by kernel_rfl)
theorem b96 {q : List Int} {n m : Nat}  : Exec PP T none x96.nt 2 x96.body.b.a.a (mkSt [(0, s1S 0 m), (1, ⟨true, .av (.s (.fn 67 [1]))⟩)] (HM true q n) 2 []) .n (S96 q n m 0) := by
  refine exec_orunG env0 false 60 [] [0, 1] (fun _ => rfl) (by kernel_rfl) (by kernel_rfl) (by kernel_rfl) (by kernel_rfl)
theorem l96 {q : List Int} {n m i : Nat} (hn : n ≤ 6) (h0 : 0 ≤ q.getD (0 + (0 + i) * 1) 0) (h1 : q.getD (0 + (0 + i) * 1) 0 < 2 ^ n) (hq : q.length = m) (hm : m ≤ 100) (hi : i < m) : Exec PP T none x96.nt 2 L96 (S96 q n m i) .n (S96 q n m (i + 1)) := by
  refine exec_orunG (envM (ok67 (q:=q) hn h0 h1) spAt_fp o67) false 60 [true, false] [0, 1] (fun _ => rfl) (by kernel_rfl) (by kernel_rfl) (by kernel_rfl) ?_
  rw [(show obOf (orun (gM 67 (spM1 true q n (A67 (q.getD (0+(0+i)*1) 0)) (B false))) false 60 L96 (S96 q n m i) [true, false]) = (decide (Int.ofNat i < Int.ofNat m) && true && (decide (0 ≤ Int.ofNat i) && decide (Int.ofNat i < Int.ofNat m) && (decide (0 + (0 + i) * 1 < q.length) && (atB (A67 (q.getD (0 + (0 + i) * 1) 0)) (A67 (q.getD (0 + (0 + i) * 1) 0)) (mkSt [] (HM true q n) 2 []).hp.get (mkSt [] (HM true q n) 2 []).hp.get 2 2 && true)) && true && (rng64 (Int.ofNat i.succ) && true))) from by kernel_rfl)]
  simp [rng64, hq]
  omega
theorem z96 {q : List Int} {n m : Nat}  : Exec PP T none x96.nt 2 L96 (S96 q n m m) (.x 0) (S96 q n m m) := by
  refine exec_orunG env0 false 60 [false] [0, 1] (fun _ => rfl) (by kernel_rfl) (by kernel_rfl) (by kernel_rfl) ?_
  rw [(show obOf (orun g0 false 60 L96 (S96 q n m m) [false]) = (!decide (Int.ofNat m < Int.ofNat m) && true) from by kernel_rfl)]
  all_goals (first | rfl | (simp; done) | (simp; omega) | (simp [rng64]; done) | (simp [rng64]; omega) | (simp [rng64_eq]; omega))
theorem d96 {q : List Int} {n m : Nat}  : Exec PP T none x96.nt 2 x96.body.b.b (S96 q n m m) .r (mkSt [(4, iS (-1))] (HM true q n) 2 []) := by
  refine exec_orunG env0 false 60 [] [0, 1] (fun _ => rfl) (by kernel_rfl) (by kernel_rfl) (by kernel_rfl) (by kernel_rfl)
def ltN (n : Nat) (l : List Int) : Bool := l.all fun x => decide (0 ≤ x) && decide (x < 2 ^ n)
theorem body96 {q : List Int} {n m : Nat} (hn : n ≤ 6) (hq : q.length = m) (hm : m ≤ 100) (h : ltN n q = true) : Exec PP T none x96.nt 2 x96.body (mkSt (slotsOf (A96 m)) (HM true q n) 2 []) .r (mkSt [(4, iS (-1))] (HM true q n) 2 []) := by
  refine exec_seq (x := x96.body.a) (y := x96.body.b) a96 (exec_seq (x := x96.body.b.a) (y := x96.body.b.b) (exec_seq (x := x96.body.b.a.a) (y := .block 0 (.loop L96)) b96 (exec_block (e := .x 0) (S1 := S96 q n m m) ?_)) d96)
  exact exec_loop_up (fun i => S96 q n m i) m (fun i hi => by
    have hx := List.all_eq_true.1 h (q.getD (0 + (0 + i) * 1) 0) (by rw [List.getD_eq_getElem?_getD, List.getElem?_eq_getElem (by omega)]; simp)
    simp only [Bool.and_eq_true, decide_eq_true_eq] at hx
    exact l96 hn hx.1 hx.2 hq hm hi) z96 (by simp) 0 (by omega)
theorem ok96 {q : List Int} {n m : Nat} (hn : n ≤ 6) (hq : q.length = m) (hm : m ≤ 100) (h : ltN n q = true) : SpecOK PP (compC T) 96 (spM1 true q n (A96 m) (I (-1))) :=
  spec_ro o96 (hs := HM true q n) (A := A96 m) (by kernel_rfl) (by kernel_rfl) (by kernel_rfl) (body96 hn hq hm h) (fun _ => rfl) (by kernel_rfl) rfl
theorem r66 {q : List Int} {n m : Nat} (hn : n ≤ 6) (hq : q.length = m) (hm : m ≤ 100) (h : ltN n q = true) : Exec PP T none x66.nt 2 x66.body (mkSt (slotsOf (A96 m)) (HM true q n) 2 []) .r (mkSt [(4, ⟨true, B false⟩)] (HM true q n) 2 []) := by
  refine exec_orunG (envM (ok96 (q:=q) hn hq hm h) spAt_fp o96) false 60 [] [0, 1] (fun _ => rfl) (by kernel_rfl) (by kernel_rfl) (by kernel_rfl) ?_
  rw [(show obOf (orun (gM 96 (spM1 true q n (A96 m) (I (-1)))) false 60 x66.body (mkSt (slotsOf (A96 m)) (HM true q n) 2 []) []) = (atB (A96 m) (A96 m) (mkSt [] (HM true q n) 2 []).hp.get (mkSt [] (HM true q n) 2 []).hp.get 2 2 && true && true) from by kernel_rfl)]
  all_goals (first | rfl | (simp; done) | (simp; omega) | (simp [rng64]; done) | (simp [rng64]; omega) | (simp [rng64_eq]; omega))
theorem ok66 {q : List Int} {n m : Nat} (hn : n ≤ 6) (hq : q.length = m) (hm : m ≤ 100) (h : ltN n q = true) : SpecOK PP (compC T) 66 (spM1 false q n (A96 m) (B false)) :=
  spec_ro o66 (hs := HM false q n) (A := A96 m) (by kernel_rfl) (by kernel_rfl) (by kernel_rfl) (r66 hn hq hm h) (fun _ => rfl) (by kernel_rfl) rfl
end Go.Proofs.Yteekkjfjpoaihaa.Eng
namespace Go.Proofs.Yteekkjfjpoaihaa.Eng
open Go Go.Proofs
noncomputable def LMz : List (Nat × Spec) := [(69, spCl), (68, spFe8)]
theorem LMz_ok : SpecsL LMz := specsL_cons ok69 (genS_fp) o69 (specsL_cons ok68 (genS_fp) o68 (fun p hp => absurd hp (by simp)))
noncomputable abbrev gMz : Cal → Option Spec := specsΓ LMz
theorem envMz : EnvOK PP T gMz := envL LMz_ok
theorem a21 {q : List Int} {n m : Nat}  : Exec PP T none x21.nt 0 x21.body.a (startSt [.s (.int .i64 (Int.ofNat n)), .s (.sl 0 0 1 m)] [⟨true, .xvec .i64 1 q⟩]) .n (mkSt [(1, s1S 0 m), (2, g1S 1)] (HM false q n) 2 []) := by
  refine exec_orun env0 false 60 [] [0, 1] (fun _ => rfl) (by kernel_rfl) (by kernel_rfl) (by kernel_rfl) (by kernel_rfl)
theorem b21 {q : List Int} {n m : Nat} (h1 : 1 ≤ n) (hn : n ≤ 6) (hq : q.length = m) (hm : m ≤ 64) (h : ltN n q = true) : Exec PP T none x21.nt 0 x21.body.b.a (mkSt [(1, s1S 0 m), (2, g1S 1)] (HM false q n) 2 []) .n (mkSt [(1, s1S 0 m)] [⟨true, .xvec .i64 1 q⟩] 1 []) := by
  refine exec_orun (envM (ok66 (q:=q) hn hq (Nat.le_trans hm (by omega)) h) spAt_fp o66) false 60 [false, false] [0] (fun _ => rfl) (by kernel_rfl) (by kernel_rfl) (by kernel_rfl) ?_
  rw [(show obOf (orun (gM 66 (spM1 false q n (A96 m) (B false))) false 60 x21.body.b.a (mkSt [(1, s1S 0 m), (2, g1S 1)] (HM false q n) 2 []) [false, false]) = ((fun b0_ : Bool => (fun b1_ : Bool => (!decide (Int.ofNat n < 1) == false || true) && ((!decide (Int.ofNat n < 1) == false || decide (Int.ofNat n < 1) == false && true && true) && ((bif decide (Int.ofNat n < 1) then true else decide (Int.ofNat n < 1) == false) && true && ((!b1_ == false || true) && ((!b1_ == false || b1_ == false && true && true) && ((!b1_ == false || b1_ == false && true && true) && ((bif bif decide (Int.ofNat n < 1) then true else decide (Int.ofNat n > 6) then true else b1_ == false) && true && ((!b0_ == false || true) && ((!b0_ == false || true) && ((!b0_ == false || b0_ == false && (b0_ == false && true) && atB (A96 m) (A96 m) (mkSt [] (HM false q n) 2 []).hp.get (mkSt [] (HM false q n) 2 []).hp.get 2 2) && ((bif bif bif decide (Int.ofNat n < 1) then true else decide (Int.ofNat n > 6) then true else decide (Int.ofNat m > 64) then true else b0_ == false) && true && true)))))))))) && ((!bif bif bif decide (Int.ofNat n < 1) then true else decide (Int.ofNat n > 6) then true else decide (Int.ofNat m > 64) then true else false) && true)) (bif decide (Int.ofNat n < 1) then true else decide (Int.ofNat n > 6))) (bif bif decide (Int.ofNat n < 1) then true else decide (Int.ofNat n > 6) then true else decide (Int.ofNat m > 64))) from by kernel_rfl)]
  dsimp only
  have e1 : decide (Int.ofNat n < 1) = false := by simp; omega
  have e2 : decide (Int.ofNat n > 6) = false := by simp; omega
  have e3 : decide (Int.ofNat m > 64) = false := by simp; omega
  simp [e1, e2, e3]
  omega
abbrev dq (q : List Int) (m : Nat) : List Int := (q.drop (0 * 1)).take (m * 1)
theorem cc21 {q : List Int} {m : Nat} (hq : q.length = m) (hm : m ≤ 64) (h : lt32 q = true) (hf : fewC (lstF (gP (bitF (clM q))) 64) = true) : Exec PP T none x21.nt 0 x21.body.b.b (mkSt [(1, s1S 0 m)] [⟨true, .xvec .i64 1 q⟩] 1 []) .r (mkSt [(4, s1S 0 (lstF (gP (bitF (clM (dq q m)))) 64).length), (5, iS 0)] [⟨false, .ivec 3 .i64 1 (lstF (gP (bitF (clM (dq q m)))) 64)⟩] 1 []) := by
  refine exec_orun envMz false 60 [] [9] (fun _ => rfl) (by kernel_rfl) (by kernel_rfl) (by kernel_rfl) ?_
  rw [(show obOf (orun gMz false 60 x21.body.b.b (mkSt [(1, s1S 0 m)] [⟨true, .xvec .i64 1 q⟩] 1 []) []) = (decide ((0 + m) * 1 ≤ q.length) && decide (m ≤ 1000000000) && true && okCl [PA.sl 1 (List.take (m * 1) q) m] && (fewC (lFe8 [PA.bs 64 (bitF (fCl [PA.sl 1 (List.take (m * 1) q) m]))]) && true && true && true) && true) from by kernel_rfl)]
  have e : q.take (m * 1) = q := take_all1 (by omega)
  try dsimp only
  rw [e]
  simp [okCl, lFe8, fCl, bndL, h, hf, hq]
  omega
/-- the greatest faces of the sets' complex -/
def mdL (q : List Int) : List Int := lstF (gP (bitF (clM q))) 64
theorem body21 {q : List Int} {n m : Nat} (h1 : 1 ≤ n) (hn : n ≤ 6) (hq : q.length = m) (hm : m ≤ 64) (h : ltN n q = true) (h32 : lt32 q = true) (hf : fewC (mdL q) = true) : Exec PP T none x21.nt 0 x21.body (startSt [.s (.int .i64 (Int.ofNat n)), .s (.sl 0 0 1 m)] [⟨true, .xvec .i64 1 q⟩]) .r (mkSt [(4, s1S 0 (mdL q).length), (5, iS 0)] [⟨false, .ivec 3 .i64 1 (mdL q)⟩] 1 []) := by
  have k := cc21 hq hm h32 hf
  have e : dq q m = q := take_all1 (by omega)
  rw [e] at k
  exact exec_seq (x := x21.body.a) (y := x21.body.b) a21 (exec_seq (x := x21.body.b.a) (y := x21.body.b.b) (b21 h1 hn hq hm h) k)
def cMd : List PA → Bool := fun pas => match pas with | [.int n, .sl _ q m] => decide (1 ≤ n) && decide (n ≤ 6) && decide (m ≤ 64) && ltN n.toNat q && lt32 q && fewC (mdL q) | _ => false
def lMd : List PA → List Int := fun pas => match pas with | [.int n, .sl _ q m] => mdL q | _ => []
def vMd : List PA → TV := fun pas => .tup [.s (.sl 0 0 1 (lMd pas).length), .s (.int .i64 0)]
def nMd : List PA → List HO := fun pas => [⟨false, .ivec 3 .i64 1 (lMd pas)⟩]
noncomputable abbrev spMade : Spec := genS [.int, .sl 1] cMd vMd nMd
theorem ok21 : SpecOK PP (compC T) 21 spMade := ok_gen o21 (by kernel_rfl) fun pas hf hc => match pas, hf with
  | [.int n, .sl _ q m], ⟨_, ⟨rfl, hq, hm⟩, _⟩ => by
    unfold cMd at hc
    simp only [Bool.and_eq_true, decide_eq_true_eq] at hc
    obtain ⟨k, rfl⟩ : ∃ k : Nat, n = Int.ofNat k := ⟨n.toNat, by simp; omega⟩
    obtain ⟨⟨⟨⟨⟨g1, g2⟩, g3⟩, g4⟩, g5⟩, g6⟩ := hc
    exact ⟨_, 1, .r, body21 (by simp at g1; omega) (by simp at g2; omega) (by omega) g3 g4 g5 g6, fun _ => rfl, by kernel_rfl, by kernel_rfl, by kernel_rfl⟩
end Go.Proofs.Yteekkjfjpoaihaa.Eng
namespace Go.Proofs.Yteekkjfjpoaihaa.Eng
open Go Go.Proofs
/-- how many bits are set -/
def popc (s : Nat) : Nat := s % 2 + (s / 2) % 2 + (s / 4) % 2 + (s / 8) % 2 + (s / 16) % 2 + (s / 32) % 2
theorem body101 (s : Nat) (hs : s < 64) : Exec PP T none x101.nt 0 x101.body (startSt [.s (.int .i64 (Int.ofNat s))] []) .r (mkSt [(2, iS (popc s))] [] 0 []) := by
  match s, hs with
  | 0, _ => exact exec_orun envA false 60 [] [] (fun _ => rfl) (by kernel_rfl) (by kernel_rfl) (by kernel_rfl) (by kernel_rfl)
  | 1, _ => exact exec_orun envA false 60 [] [] (fun _ => rfl) (by kernel_rfl) (by kernel_rfl) (by kernel_rfl) (by kernel_rfl)
  | 2, _ => exact exec_orun envA false 60 [] [] (fun _ => rfl) (by kernel_rfl) (by kernel_rfl) (by kernel_rfl) (by kernel_rfl)
  | 3, _ => exact exec_orun envA false 60 [] [] (fun _ => rfl) (by kernel_rfl) (by kernel_rfl) (by kernel_rfl) (by kernel_rfl)
  | 4, _ => exact exec_orun envA false 60 [] [] (fun _ => rfl) (by kernel_rfl) (by kernel_rfl) (by kernel_rfl) (by kernel_rfl)
  | 5, _ => exact exec_orun envA false 60 [] [] (fun _ => rfl) (by kernel_rfl) (by kernel_rfl) (by kernel_rfl) (by kernel_rfl)
  | 6, _ => exact exec_orun envA false 60 [] [] (fun _ => rfl) (by kernel_rfl) (by kernel_rfl) (by kernel_rfl) (by kernel_rfl)
  | 7, _ => exact exec_orun envA false 60 [] [] (fun _ => rfl) (by kernel_rfl) (by kernel_rfl) (by kernel_rfl) (by kernel_rfl)
  | 8, _ => exact exec_orun envA false 60 [] [] (fun _ => rfl) (by kernel_rfl) (by kernel_rfl) (by kernel_rfl) (by kernel_rfl)
  | 9, _ => exact exec_orun envA false 60 [] [] (fun _ => rfl) (by kernel_rfl) (by kernel_rfl) (by kernel_rfl) (by kernel_rfl)
  | 10, _ => exact exec_orun envA false 60 [] [] (fun _ => rfl) (by kernel_rfl) (by kernel_rfl) (by kernel_rfl) (by kernel_rfl)
  | 11, _ => exact exec_orun envA false 60 [] [] (fun _ => rfl) (by kernel_rfl) (by kernel_rfl) (by kernel_rfl) (by kernel_rfl)
  | 12, _ => exact exec_orun envA false 60 [] [] (fun _ => rfl) (by kernel_rfl) (by kernel_rfl) (by kernel_rfl) (by kernel_rfl)
  | 13, _ => exact exec_orun envA false 60 [] [] (fun _ => rfl) (by kernel_rfl) (by kernel_rfl) (by kernel_rfl) (by kernel_rfl)
  | 14, _ => exact exec_orun envA false 60 [] [] (fun _ => rfl) (by kernel_rfl) (by kernel_rfl) (by kernel_rfl) (by kernel_rfl)
  | 15, _ => exact exec_orun envA false 60 [] [] (fun _ => rfl) (by kernel_rfl) (by kernel_rfl) (by kernel_rfl) (by kernel_rfl)
  | 16, _ => exact exec_orun envA false 60 [] [] (fun _ => rfl) (by kernel_rfl) (by kernel_rfl) (by kernel_rfl) (by kernel_rfl)
  | 17, _ => exact exec_orun envA false 60 [] [] (fun _ => rfl) (by kernel_rfl) (by kernel_rfl) (by kernel_rfl) (by kernel_rfl)
  | 18, _ => exact exec_orun envA false 60 [] [] (fun _ => rfl) (by kernel_rfl) (by kernel_rfl) (by kernel_rfl) (by kernel_rfl)
  | 19, _ => exact exec_orun envA false 60 [] [] (fun _ => rfl) (by kernel_rfl) (by kernel_rfl) (by kernel_rfl) (by kernel_rfl)
  | 20, _ => exact exec_orun envA false 60 [] [] (fun _ => rfl) (by kernel_rfl) (by kernel_rfl) (by kernel_rfl) (by kernel_rfl)
  | 21, _ => exact exec_orun envA false 60 [] [] (fun _ => rfl) (by kernel_rfl) (by kernel_rfl) (by kernel_rfl) (by kernel_rfl)
  | 22, _ => exact exec_orun envA false 60 [] [] (fun _ => rfl) (by kernel_rfl) (by kernel_rfl) (by kernel_rfl) (by kernel_rfl)
  | 23, _ => exact exec_orun envA false 60 [] [] (fun _ => rfl) (by kernel_rfl) (by kernel_rfl) (by kernel_rfl) (by kernel_rfl)
  | 24, _ => exact exec_orun envA false 60 [] [] (fun _ => rfl) (by kernel_rfl) (by kernel_rfl) (by kernel_rfl) (by kernel_rfl)
  | 25, _ => exact exec_orun envA false 60 [] [] (fun _ => rfl) (by kernel_rfl) (by kernel_rfl) (by kernel_rfl) (by kernel_rfl)
  | 26, _ => exact exec_orun envA false 60 [] [] (fun _ => rfl) (by kernel_rfl) (by kernel_rfl) (by kernel_rfl) (by kernel_rfl)
  | 27, _ => exact exec_orun envA false 60 [] [] (fun _ => rfl) (by kernel_rfl) (by kernel_rfl) (by kernel_rfl) (by kernel_rfl)
  | 28, _ => exact exec_orun envA false 60 [] [] (fun _ => rfl) (by kernel_rfl) (by kernel_rfl) (by kernel_rfl) (by kernel_rfl)
  | 29, _ => exact exec_orun envA false 60 [] [] (fun _ => rfl) (by kernel_rfl) (by kernel_rfl) (by kernel_rfl) (by kernel_rfl)
  | 30, _ => exact exec_orun envA false 60 [] [] (fun _ => rfl) (by kernel_rfl) (by kernel_rfl) (by kernel_rfl) (by kernel_rfl)
  | 31, _ => exact exec_orun envA false 60 [] [] (fun _ => rfl) (by kernel_rfl) (by kernel_rfl) (by kernel_rfl) (by kernel_rfl)
  | 32, _ => exact exec_orun envA false 60 [] [] (fun _ => rfl) (by kernel_rfl) (by kernel_rfl) (by kernel_rfl) (by kernel_rfl)
  | 33, _ => exact exec_orun envA false 60 [] [] (fun _ => rfl) (by kernel_rfl) (by kernel_rfl) (by kernel_rfl) (by kernel_rfl)
  | 34, _ => exact exec_orun envA false 60 [] [] (fun _ => rfl) (by kernel_rfl) (by kernel_rfl) (by kernel_rfl) (by kernel_rfl)
  | 35, _ => exact exec_orun envA false 60 [] [] (fun _ => rfl) (by kernel_rfl) (by kernel_rfl) (by kernel_rfl) (by kernel_rfl)
  | 36, _ => exact exec_orun envA false 60 [] [] (fun _ => rfl) (by kernel_rfl) (by kernel_rfl) (by kernel_rfl) (by kernel_rfl)
  | 37, _ => exact exec_orun envA false 60 [] [] (fun _ => rfl) (by kernel_rfl) (by kernel_rfl) (by kernel_rfl) (by kernel_rfl)
  | 38, _ => exact exec_orun envA false 60 [] [] (fun _ => rfl) (by kernel_rfl) (by kernel_rfl) (by kernel_rfl) (by kernel_rfl)
  | 39, _ => exact exec_orun envA false 60 [] [] (fun _ => rfl) (by kernel_rfl) (by kernel_rfl) (by kernel_rfl) (by kernel_rfl)
  | 40, _ => exact exec_orun envA false 60 [] [] (fun _ => rfl) (by kernel_rfl) (by kernel_rfl) (by kernel_rfl) (by kernel_rfl)
  | 41, _ => exact exec_orun envA false 60 [] [] (fun _ => rfl) (by kernel_rfl) (by kernel_rfl) (by kernel_rfl) (by kernel_rfl)
  | 42, _ => exact exec_orun envA false 60 [] [] (fun _ => rfl) (by kernel_rfl) (by kernel_rfl) (by kernel_rfl) (by kernel_rfl)
  | 43, _ => exact exec_orun envA false 60 [] [] (fun _ => rfl) (by kernel_rfl) (by kernel_rfl) (by kernel_rfl) (by kernel_rfl)
  | 44, _ => exact exec_orun envA false 60 [] [] (fun _ => rfl) (by kernel_rfl) (by kernel_rfl) (by kernel_rfl) (by kernel_rfl)
  | 45, _ => exact exec_orun envA false 60 [] [] (fun _ => rfl) (by kernel_rfl) (by kernel_rfl) (by kernel_rfl) (by kernel_rfl)
  | 46, _ => exact exec_orun envA false 60 [] [] (fun _ => rfl) (by kernel_rfl) (by kernel_rfl) (by kernel_rfl) (by kernel_rfl)
  | 47, _ => exact exec_orun envA false 60 [] [] (fun _ => rfl) (by kernel_rfl) (by kernel_rfl) (by kernel_rfl) (by kernel_rfl)
  | 48, _ => exact exec_orun envA false 60 [] [] (fun _ => rfl) (by kernel_rfl) (by kernel_rfl) (by kernel_rfl) (by kernel_rfl)
  | 49, _ => exact exec_orun envA false 60 [] [] (fun _ => rfl) (by kernel_rfl) (by kernel_rfl) (by kernel_rfl) (by kernel_rfl)
  | 50, _ => exact exec_orun envA false 60 [] [] (fun _ => rfl) (by kernel_rfl) (by kernel_rfl) (by kernel_rfl) (by kernel_rfl)
  | 51, _ => exact exec_orun envA false 60 [] [] (fun _ => rfl) (by kernel_rfl) (by kernel_rfl) (by kernel_rfl) (by kernel_rfl)
  | 52, _ => exact exec_orun envA false 60 [] [] (fun _ => rfl) (by kernel_rfl) (by kernel_rfl) (by kernel_rfl) (by kernel_rfl)
  | 53, _ => exact exec_orun envA false 60 [] [] (fun _ => rfl) (by kernel_rfl) (by kernel_rfl) (by kernel_rfl) (by kernel_rfl)
  | 54, _ => exact exec_orun envA false 60 [] [] (fun _ => rfl) (by kernel_rfl) (by kernel_rfl) (by kernel_rfl) (by kernel_rfl)
  | 55, _ => exact exec_orun envA false 60 [] [] (fun _ => rfl) (by kernel_rfl) (by kernel_rfl) (by kernel_rfl) (by kernel_rfl)
  | 56, _ => exact exec_orun envA false 60 [] [] (fun _ => rfl) (by kernel_rfl) (by kernel_rfl) (by kernel_rfl) (by kernel_rfl)
  | 57, _ => exact exec_orun envA false 60 [] [] (fun _ => rfl) (by kernel_rfl) (by kernel_rfl) (by kernel_rfl) (by kernel_rfl)
  | 58, _ => exact exec_orun envA false 60 [] [] (fun _ => rfl) (by kernel_rfl) (by kernel_rfl) (by kernel_rfl) (by kernel_rfl)
  | 59, _ => exact exec_orun envA false 60 [] [] (fun _ => rfl) (by kernel_rfl) (by kernel_rfl) (by kernel_rfl) (by kernel_rfl)
  | 60, _ => exact exec_orun envA false 60 [] [] (fun _ => rfl) (by kernel_rfl) (by kernel_rfl) (by kernel_rfl) (by kernel_rfl)
  | 61, _ => exact exec_orun envA false 60 [] [] (fun _ => rfl) (by kernel_rfl) (by kernel_rfl) (by kernel_rfl) (by kernel_rfl)
  | 62, _ => exact exec_orun envA false 60 [] [] (fun _ => rfl) (by kernel_rfl) (by kernel_rfl) (by kernel_rfl) (by kernel_rfl)
  | 63, _ => exact exec_orun envA false 60 [] [] (fun _ => rfl) (by kernel_rfl) (by kernel_rfl) (by kernel_rfl) (by kernel_rfl)
  | n + 64, h => exact absurd h (by omega)
def cSz : List PA → Bool := fun pas => match pas with | [.int s] => decide (0 ≤ s) && decide (s < 64) | _ => false
def vSz : List PA → TV := fun pas => match pas with | [.int s] => I (Int.ofNat (popc s.toNat)) | _ => anyT
noncomputable abbrev spSize : Spec := genS [.int] cSz vSz fun _ => []
theorem ok101 : SpecOK PP (compC T) 101 spSize := ok_gen o101 (by kernel_rfl) fun pas hf hc => match pas, hf with
  | [.int s], _ => by
    unfold cSz at hc
    simp only [Bool.and_eq_true, decide_eq_true_eq] at hc
    obtain ⟨k, rfl⟩ : ∃ k : Nat, s = Int.ofNat k := ⟨s.toNat, by simp; omega⟩
    exact ⟨_, 0, .r, body101 k (by have := hc.2; simp at this; omega), fun _ => rfl, by kernel_rfl, by kernel_rfl, by kernel_rfl⟩
end Go.Proofs.Yteekkjfjpoaihaa.Eng
namespace Go.Proofs.Yteekkjfjpoaihaa.Eng
open Go Go.Proofs
noncomputable def pinG (d : Nat) (pins : List (Nat × Bool)) : Option Bool := List.rec none (fun p _ ih => bif Nat.beq p.1 d then some p.2 else ih) pins
noncomputable def pinE (pins : List (Nat × Bool)) (q : Option (Bool × Ef)) : Option (Bool × Ef) :=
  match q with
  | some (v, ⟨some d, ⟨c, .av (.s (.bool b))⟩, u, bs, n, rd⟩) => match pinG d pins with
    | some t => some (v && (b == t), ⟨some d, ⟨c, .av (.s (.bool t))⟩, u, bs, n, rd⟩)
    | none => q
  | q => q
theorem pinE_snd {pins : List (Nat × Bool)} {q : Option (Bool × Ef)} {e : Ef} (h : pinE pins q = some (true, e)) : q = some (true, e) := by
  unfold pinE at h
  split at h
  · split at h
    · simp only [Option.some.injEq, Prod.mk.injEq, Bool.and_eq_true, beq_iff_eq] at h
      obtain ⟨⟨rfl, rfl⟩, rfl⟩ := h
      rfl
    · exact h
  · exact h
noncomputable def xopsV (pins : List (Nat × Bool)) (Γ : Cal → Option Spec) (b0 : Nat) (l : List XOp) : St → Option (Bool × St × List Ef) :=
  List.rec (fun S => some (true, S, [])) (fun x _ ih S => match pinE pins (xopF Γ b0 x S.sl.get S.hp.get) with
    | some (v, e) => match ih (S.app e) with
      | some (v', S'', l) => some (v && v', S'', e :: l)
      | none => none
    | none => none) l
theorem xopsV_cons (pins : List (Nat × Bool)) (Γ : Cal → Option Spec) (b0 : Nat) (x : XOp) (r : List XOp) (S : St) : xopsV pins Γ b0 (x :: r) S = (match pinE pins (xopF Γ b0 x S.sl.get S.hp.get) with
    | some (v, e) => match xopsV pins Γ b0 r (S.app e) with
      | some (v', S'', l) => some (v && v', S'', e :: l)
      | none => none
    | none => none) := rfl
theorem xopsV_snd {pins : List (Nat × Bool)} {Γ : Cal → Option Spec} {b0 : Nat} : ∀ {l : List XOp} {S S' : St} {E : List Ef} {v : Bool}, xopsV pins Γ b0 l S = some (v, S', E) → v = true → xops Γ b0 l S = some (true, S', E) := by
  intro l
  induction l with
  | nil => intro S S' E v h hv; cases h; rfl
  | cons x r ih =>
    intro S S' E v h hv
    rw [xopsV_cons] at h
    split at h
    case h_2 => cases h
    rename_i v1 e1 hx
    split at h
    case h_2 => cases h
    rename_i v2 S2 l2 hr
    simp only [Option.some.injEq, Prod.mk.injEq] at h
    obtain ⟨rfl, rfl, rfl⟩ := h
    simp only [Bool.and_eq_true] at hv
    obtain ⟨rfl, rfl⟩ := hv
    rw [xops_cons, pinE_snd hx]
    simp only
    rw [ih hr rfl]
    rfl
noncomputable def prunStep (pins : List (Nat × Bool)) (Γ : Cal → Option Spec) (inr : Bool) (rec : XC → St → Option (Bool × XE × St × List Bool)) (c : XC) (S : St) : Option (Bool × XE × St × List Bool) :=
  match c with
  | .skip => some (true, .n, S, [])
  | .label _ => some (true, .n, S, [])
  | .ret => some (true, .r, S, [])
  | .exit id => some (true, .x id, S, [])
  | .reg ops tot => match xopsV pins Γ S.nx ops S with
    | some (v, S', _) => some (v, .n, { S' with nx := S'.nx + tot }, [])
    | none => none
  | .regD ops tot chk => match xopsV pins Γ S.nx ops S with
    | some (v, S', E) => some (v && chk.all (okAt E), .n, { S' with nx := S'.nx + tot }, [])
    | none => none
  | .seq a b => match rec a S with
    | some (v, .n, S1, _) => match rec b S1 with
      | some (v', e, S2, os2) => some (v && v', e, S2, os2)
      | none => none
    | some (v, e, S1, os1) => some (v, e, S1, os1)
    | none => none
  | .cond c a b => match evalX S.sl.get c with
    | ⟨true, .av (.s (.bool t))⟩ => match t with
      | true => rec a S
      | false => rec b S
    | _ => none
  | .block id b => match rec b S with
    | some (v, e, S1, os1) => some (v, e.unblock id, S1, os1)
    | none => none
  | .scope b => rec b S
  | _ => none
noncomputable def prun (pins : List (Nat × Bool)) (Γ : Cal → Option Spec) (inr : Bool) (k : Nat) : XC → St → Option (Bool × XE × St × List Bool) := Nat.rec (fun _ _ => none) (fun _ ih c S => prunStep pins Γ inr ih c S) k
theorem prun_zero (pins : List (Nat × Bool)) (Γ : Cal → Option Spec) (inr : Bool) (c : XC) (S : St) : prun pins Γ inr 0 c S = none := rfl
theorem prun_succ (pins : List (Nat × Bool)) (Γ : Cal → Option Spec) (inr : Bool) (k : Nat) (c : XC) (S : St) : prun pins Γ inr (k + 1) c S = prunStep pins Γ inr (prun pins Γ inr k) c S := rfl
section
variable {P : Program} {T : Tab} {r : Option Nat} {Γ : Cal → Option Spec} {nt kp : Nat}
theorem prun_snd (hE : EnvOK P T Γ) {pins : List (Nat × Bool)} {inr : Bool} : ∀ (k : Nat) (c : XC) (S S' : St) (os : List Bool) (e : XE) (v : Bool), prun pins Γ inr k c S = some (v, e, S', os) → v = true → Exec P T r nt kp c S e S' := by
  intro k
  induction k with
  | zero => intro c S S' os e v h; simp [prun_zero] at h
  | succ k ih =>
    intro c S S' os e v h hv
    rw [prun_succ] at h
    cases c with
    | skip => simp only [prunStep] at h; cases h; exact exec_skip
    | label l => simp only [prunStep] at h; cases h; exact exec_label
    | ret => simp only [prunStep] at h; cases h; exact exec_ret
    | exit id => simp only [prunStep] at h; cases h; exact exec_exit
    | reg ops tot =>
      simp only [prunStep] at h
      split at h
      case h_2 => cases h
      rename_i v1 S1 E hx
      cases h
      exact exec_reg hE (xopsV_snd hx hv)
    | regD ops tot chk =>
      simp only [prunStep] at h
      split at h
      case h_2 => cases h
      rename_i v1 S1 E hx
      simp only [Option.some.injEq, Prod.mk.injEq] at h
      obtain ⟨rfl, rfl, rfl, _⟩ := h
      simp only [Bool.and_eq_true] at hv
      exact exec_regD hE (xopsV_snd hx hv.1) hv.2
    | seq a b =>
      simp only [prunStep] at h
      split at h
      · rename_i v1 S1 os1 h1
        split at h
        case h_2 => cases h
        rename_i v2 e2 S2 os2 h2
        simp only [Option.some.injEq, Prod.mk.injEq] at h
        obtain ⟨rfl, rfl, rfl, _⟩ := h
        simp only [Bool.and_eq_true] at hv
        exact exec_seq (ih _ _ _ _ _ _ h1 hv.1) (ih _ _ _ _ _ _ h2 hv.2)
      · rename_i v1 e1 S1 os1 hne h1
        cases h
        refine exec_seq_x (ih _ _ _ _ _ _ h1 hv) ?_
        rintro rfl
        exact hne rfl
      · cases h
    | cond c a b =>
      simp only [prunStep] at h
      split at h
      case h_2 => cases h
      rename_i t ht
      cases t with
      | true => exact exec_cond ht (ih _ _ _ _ _ _ h hv)
      | false => exact exec_cond ht (ih _ _ _ _ _ _ h hv)
    | block id b =>
      simp only [prunStep] at h
      split at h
      case h_2 => cases h
      rename_i v1 e1 S1 os1 h1
      cases h
      exact exec_block (ih _ _ _ _ _ _ h1 hv)
    | scope b =>
      simp only [prunStep] at h
      exact exec_scope (ih _ _ _ _ _ _ h hv)
    | loop b => simp [prunStep] at h
    | rf f ps asg body => simp [prunStep] at h
theorem exec_prun (hE : EnvOK P T Γ) (pins : List (Nat × Bool)) (inr : Bool) (k : Nat) (ids : List Nat) {c : XC} {S : St} {e : XE} {ts : List (Nat × Slot)} {hs : List HO} {nx : Nat} {df : List Nat}
    (hv : vw (ts.map (·.1)) ids (prun pins Γ inr k c S) = some (e, ts.map (fun p => some ⟨p.2.c, p.2.v.ren fun j => ids.getD j 0⟩), hs.map (fun h => some (h.ren fun j => ids.getD j 0)), df.map fun j => ids.getD j 0))
    (hok : mkOk ts hs ids kp = true) (hdl : df.all (fun j => Nat.blt j hs.length) = true) (hob : obOf (prun pins Γ inr k c S) = true) : Exec P T r nt kp c S e (mkSt ts hs nx df) := by
  unfold vw at hv
  cases ho : prun pins Γ inr k c S with
  | none => rw [ho] at hv; cases hv
  | some q =>
    obtain ⟨v, e1, S1, os1⟩ := q
    rw [ho] at hv hob
    simp only [Option.map_some, Option.some.injEq, Prod.mk.injEq] at hv
    obtain ⟨rfl, h3, h4, h5⟩ := hv
    refine (prun_snd hE k c S S1 os1 e1 v ho hob).post (weak_mk (ids := ids) hok (fun p hp => ?_) (fun j h hj => ?_) h5 fun j hj => Nat.le_of_ble_eq_true (List.all_eq_true.1 hdl j hj))
    · rw [List.map_map] at h3
      exact List.map_inj_left.1 h3 p hp
    · have hok' := hok
      simp only [mkOk, Bool.and_eq_true] at hok'
      have hlen := Nat.eq_of_beq_eq_true hok'.1.2
      have hlt : j < hs.length := (List.getElem?_eq_some_iff.1 hj).1
      have := congrArg (fun l => l[j]?) h4
      simp only [List.getElem?_map, hj, Option.map_some] at this
      have e : ids[j]? = some (ids.getD j 0) := by
        have : j < ids.length := by omega
        simp [this]
      rw [e] at this
      simpa using this
end
end Go.Proofs.Yteekkjfjpoaihaa.Eng
namespace Go.Proofs.Yteekkjfjpoaihaa.Eng
open Go Go.Proofs
noncomputable def LCh : List (Nat × Spec) := [(17, spRel)]
theorem LCh_ok : SpecsL LCh := specsL_cons ok17 (genS_fp) o17 (fun p hp => absurd hp (by simp))
noncomputable abbrev gCh : Cal → Option Spec := specsΓ LCh
theorem envCh : EnvOK PP T gCh := envL LCh_ok
def L22 : XC := x22.body.b.b.a.b.i.i
def X22 : XC := L22.b.a.i
def M22 : XC := X22.b.a.b.i.i
def N22 : XC := M22.b.a.i.b.i.i
abbrev H22 (q l : List Int) : List HO := [⟨true, .xvec .i64 2 q⟩, ⟨false, .ivec 3 .i64 1 l⟩]
abbrev S22 (n : Nat) (q : List Int) (m : Nat) (l : List Int) (k s : Nat) : St := mkSt [(0, iS n), (1, lsS 0 m), (5, s1S 1 k), (6, iS s)] (H22 q l) 2 []
abbrev F22 (n : Nat) (q : List Int) (m : Nat) (l : List Int) (k s : Nat) (b : Bool) : St := mkSt [(0, iS n), (1, lsS 0 m), (5, s1S 1 k), (6, iS s), (7, ⟨true, B b⟩)] (H22 q l) 2 []
abbrev A22 (n : Nat) (q : List Int) (m : Nat) (l : List Int) (k s : Nat) (b : Bool) (x : Nat) : St := mkSt [(0, iS n), (1, lsS 0 m), (5, s1S 1 k), (6, iS s), (7, ⟨true, B b⟩), (8, iS x)] (H22 q l) 2 []
abbrev B22 (n : Nat) (q : List Int) (m : Nat) (l : List Int) (k s : Nat) (b : Bool) (x y : Nat) : St := mkSt [(0, iS n), (1, lsS 0 m), (5, s1S 1 k), (6, iS s), (7, ⟨true, B b⟩), (8, iS x), (9, iS y)] (H22 q l) 2 []
/-- whether a number has no such bit -/
def bt0 (s x : Nat) : Bool := ((Int.ofNat s).fdiv (2 ^ (min x 64))).tmod 2 == 0
def chP (q : List Int) (m s x y : Nat) : Bool := bt0 s x || bt0 s y || relQ q m (Int.ofNat x) (Int.ofNat y)
theorem a22 {n : Nat} {q : List Int} {m : Nat}  : Exec PP T none x22.nt 0 x22.body.a (startSt [.s (.int .i64 (Int.ofNat n)), .s (.sl 0 0 2 m)] [⟨true, .xvec .i64 2 q⟩]) .n (mkSt [(0, iS n), (1, lsS 0 m)] [⟨true, .xvec .i64 2 q⟩] 1 []) := by
  refine exec_orun env0 false 60 [] [0] (fun _ => rfl) (by kernel_rfl) (by kernel_rfl) (by kernel_rfl) (by kernel_rfl)
theorem b22q {n : Nat} {q : List Int} {m : Nat}  : Exec PP T none x22.nt 0 x22.body.b.a (mkSt [(0, iS n), (1, lsS 0 m)] [⟨true, .xvec .i64 2 q⟩] 1 []) .n (mkSt [(0, iS n), (1, lsS 0 m), (5, ⟨true, .av (.s .nils)⟩)] [⟨true, .xvec .i64 2 q⟩] 1 []) := by
  refine exec_orun env0 false 60 [] [0] (fun _ => rfl) (by kernel_rfl) (by kernel_rfl) (by kernel_rfl) (by kernel_rfl)
theorem b22 {n : Nat} {q : List Int} {m : Nat} : Exec PP T none x22.nt 0 x22.body.b.a (mkSt [(0, iS n), (1, lsS 0 m)] [⟨true, .xvec .i64 2 q⟩] 1 []) .n (mkSt [(5, s1S 1 0), (0, iS n), (1, lsS 0 m)] (H22 q []) 2 []) := b22q.post (weak_nil 5 3 .i64 1 rfl rfl rfl)
theorem cc22 {n : Nat} {q : List Int} {m : Nat}  : Exec PP T none x22.nt 0 x22.body.b.b.a.a (mkSt [(5, s1S 1 0), (0, iS n), (1, lsS 0 m)] (H22 q []) 2 []) .n (S22 n q m [] 0 1) := by
  refine exec_orun env0 false 60 [] [0, 1] (fun _ => rfl) (by kernel_rfl) (by kernel_rfl) (by kernel_rfl) (by kernel_rfl)
theorem l22a {n : Nat} {q : List Int} {m : Nat} {l : List Int} {k s : Nat} (hn : n ≤ 5) (hs : s < 2 ^ n) : Exec PP T none x22.nt 0 L22.a (S22 n q m l k s) .n (S22 n q m l k s) := by
  refine exec_prun env0 [(13, true)] false 60 [0, 1] (by kernel_rfl) (by kernel_rfl) (by kernel_rfl) ?_
  rw [(show obOf (prun [(13, true)] g0 false 60 L22.a (S22 n q m l k s)) = (decide (0 ≤ Int.ofNat n) && rng64 (1 * 2 ^ min n 64) && (decide (Int.ofNat s < 1 * 2 ^ min n 64) == true && true) && true) from by kernel_rfl)]
  have h := (show ∀ n, n < 6 → (1 : Int) * 2 ^ min n 64 = Int.ofNat (2 ^ n) ∧ rng64 (1 * 2 ^ min n 64) = true from of_decide_eq_true (by kernel_rfl)) n (by omega)
  have h2 : decide (Int.ofNat s < Int.ofNat (2 ^ n)) = true := decide_eq_true (by have := Int.ofNat_lt.2 hs; exact this)
  rw [h.2, h.1, h2]
  simp
theorem l22x {n : Nat} {q : List Int} {m : Nat} {l : List Int} {k : Nat} (hn : n ≤ 5) : Exec PP T none x22.nt 0 L22.a (S22 n q m l k (2 ^ n)) (.x 0) (S22 n q m l k (2 ^ n)) := by
  refine exec_prun env0 [(13, false)] false 60 [0, 1] (by kernel_rfl) (by kernel_rfl) (by kernel_rfl) ?_
  rw [(show obOf (prun [(13, false)] g0 false 60 L22.a (S22 n q m l k (2 ^ n))) = (decide (0 ≤ Int.ofNat n) && rng64 (1 * 2 ^ min n 64) && (decide (Int.ofNat (2 ^ n) < 1 * 2 ^ min n 64) == false && true) && true) from by kernel_rfl)]
  have h := (show ∀ n, n < 6 → (1 : Int) * 2 ^ min n 64 = Int.ofNat (2 ^ n) ∧ rng64 (1 * 2 ^ min n 64) = true from of_decide_eq_true (by kernel_rfl)) n (by omega)
  have h2 : decide (Int.ofNat (2 ^ n) < Int.ofNat (2 ^ n)) = false := decide_eq_false (by omega)
  rw [h.2, h.1, h2]
  simp
theorem l22b {n : Nat} {q : List Int} {m : Nat} {l : List Int} {k s : Nat}  : Exec PP T none x22.nt 0 X22.a (S22 n q m l k s) .n (F22 n q m l k s true) := by
  refine exec_orun env0 false 60 [] [0, 1] (fun _ => rfl) (by kernel_rfl) (by kernel_rfl) (by kernel_rfl) (by kernel_rfl)
theorem l22c {n : Nat} {q : List Int} {m : Nat} {l : List Int} {k s : Nat} {b : Bool}  : Exec PP T none x22.nt 0 X22.b.a.a (F22 n q m l k s b) .n (A22 n q m l k s b 0) := by
  refine exec_orun env0 false 60 [] [0, 1] (fun _ => rfl) (by kernel_rfl) (by kernel_rfl) (by kernel_rfl) (by kernel_rfl)
theorem m22a {n : Nat} {q : List Int} {m : Nat} {l : List Int} {k s : Nat} {b : Bool} {x : Nat} (hx : x < n) : Exec PP T none x22.nt 0 M22.a (A22 n q m l k s b x) .n (A22 n q m l k s b x) := by
  refine exec_prun env0 [(18, true)] false 60 [0, 1] (by kernel_rfl) (by kernel_rfl) (by kernel_rfl) ?_
  rw [(show obOf (prun [(18, true)] g0 false 60 M22.a (A22 n q m l k s b x)) = (decide (Int.ofNat x < Int.ofNat n) == true && true && true) from by kernel_rfl)]
  all_goals (first | rfl | (simp; done) | (simp; omega) | (simp [rng64]; done) | (simp [rng64]; omega) | (simp [rng64_eq]; omega))
theorem m22x {n : Nat} {q : List Int} {m : Nat} {l : List Int} {k s : Nat} {b : Bool}  : Exec PP T none x22.nt 0 M22.a (A22 n q m l k s b n) (.x 2) (F22 n q m l k s b) := by
  refine exec_prun env0 [(18, false)] false 60 [0, 1] (by kernel_rfl) (by kernel_rfl) (by kernel_rfl) ?_
  rw [(show obOf (prun [(18, false)] g0 false 60 M22.a (A22 n q m l k s b n)) = (decide (Int.ofNat n < Int.ofNat n) == false && true && true) from by kernel_rfl)]
  all_goals (first | rfl | (simp; done) | (simp; omega) | (simp [rng64]; done) | (simp [rng64]; omega) | (simp [rng64_eq]; omega))
theorem m22b {n : Nat} {q : List Int} {m : Nat} {l : List Int} {k s : Nat} {b : Bool} {x : Nat} (hx : x < 100) : Exec PP T none x22.nt 0 M22.b.a.i.a (A22 n q m l k s b x) .n (B22 n q m l k s b x (x + 1)) := by
  refine exec_orun env0 false 60 [] [0, 1] (fun _ => rfl) (by kernel_rfl) (by kernel_rfl) (by kernel_rfl) ?_
  rw [(show obOf (orun g0 false 60 M22.b.a.i.a (A22 n q m l k s b x) []) = (rng64 (Int.ofNat x.succ) && true) from by kernel_rfl)]
  all_goals (first | rfl | (simp; done) | (simp; omega) | (simp [rng64]; done) | (simp [rng64]; omega) | (simp [rng64_eq]; omega))
theorem n22a {n : Nat} {q : List Int} {m : Nat} {l : List Int} {k s : Nat} {b : Bool} {x y : Nat} (hy : y < n) : Exec PP T none x22.nt 0 N22.a (B22 n q m l k s b x y) .n (B22 n q m l k s b x y) := by
  refine exec_prun env0 [(25, true)] false 60 [0, 1] (by kernel_rfl) (by kernel_rfl) (by kernel_rfl) ?_
  rw [(show obOf (prun [(25, true)] g0 false 60 N22.a (B22 n q m l k s b x y)) = (decide (Int.ofNat y < Int.ofNat n) == true && true && true) from by kernel_rfl)]
  all_goals (first | rfl | (simp; done) | (simp; omega) | (simp [rng64]; done) | (simp [rng64]; omega) | (simp [rng64_eq]; omega))
theorem n22x {n : Nat} {q : List Int} {m : Nat} {l : List Int} {k s : Nat} {b : Bool} {x y : Nat} (hy : n ≤ y) : Exec PP T none x22.nt 0 N22.a (B22 n q m l k s b x y) (.x 4) (A22 n q m l k s b x) := by
  refine exec_prun env0 [(25, false)] false 60 [0, 1] (by kernel_rfl) (by kernel_rfl) (by kernel_rfl) ?_
  rw [(show obOf (prun [(25, false)] g0 false 60 N22.a (B22 n q m l k s b x y)) = (decide (Int.ofNat y < Int.ofNat n) == false && true && true) from by kernel_rfl)]
  all_goals (first | rfl | (simp; done) | (simp; omega) | (simp [rng64]; done) | (simp [rng64]; omega) | (simp [rng64_eq]; omega))
theorem n22f {n : Nat} {q : List Int} {m : Nat} {l : List Int} {k s : Nat} {x y : Nat}  : Exec PP T none x22.nt 0 N22.b.a (B22 n q m l k s false x y) .n (B22 n q m l k s false x y) := by
  refine exec_prun envCh [(28, false)] false 60 [0, 1] (by kernel_rfl) (by kernel_rfl) (by kernel_rfl) (by kernel_rfl)
theorem n22p {n : Nat} {q : List Int} {m : Nat} {l : List Int} {k s : Nat} {x y : Nat} (h : bt0 s x = true) : Exec PP T none x22.nt 0 N22.b.a (B22 n q m l k s true x y) .n (B22 n q m l k s true x y) := by
  refine exec_prun envCh [(34, true)] false 60 [0, 1] (by kernel_rfl) (by kernel_rfl) (by kernel_rfl) ?_
  rw [(show obOf (prun [(34, true)] gCh false 60 N22.b.a (B22 n q m l k s true x y)) = (decide (0 ≤ Int.ofNat x) && ((((Int.ofNat s).fdiv (2 ^ min x 64)).tmod 2 == 0) == true && true)) from by kernel_rfl)]
  unfold bt0 at h
  rw [h]
  simp
theorem n22q {n : Nat} {q : List Int} {m : Nat} {l : List Int} {k s : Nat} {x y : Nat} (h : bt0 s x = false) (h2 : bt0 s y = true) : Exec PP T none x22.nt 0 N22.b.a (B22 n q m l k s true x y) .n (B22 n q m l k s true x y) := by
  refine exec_prun envCh [(34, false), (40, true)] false 60 [0, 1] (by kernel_rfl) (by kernel_rfl) (by kernel_rfl) ?_
  rw [(show obOf (prun [(34, false), (40, true)] gCh false 60 N22.b.a (B22 n q m l k s true x y)) = (decide (0 ≤ Int.ofNat x) && ((((Int.ofNat s).fdiv (2 ^ min x 64)).tmod 2 == 0) == false && (decide (0 ≤ Int.ofNat y) && ((((Int.ofNat s).fdiv (2 ^ min y 64)).tmod 2 == 0) == true && true)))) from by kernel_rfl)]
  unfold bt0 at h h2
  rw [h, h2]
  simp
theorem n22r {n : Nat} {q : List Int} {m : Nat} {l : List Int} {k s : Nat} {x y : Nat} (hq : q.length = m * 2) (hm : m ≤ 1000) (h : bt0 s x = false) (h2 : bt0 s y = false) (h3 : relQ q m (Int.ofNat x) (Int.ofNat y) = true) : Exec PP T none x22.nt 0 N22.b.a (B22 n q m l k s true x y) .n (B22 n q m l k s true x y) := by
  refine exec_prun envCh [(34, false), (40, false), (46, true)] false 60 [0, 1] (by kernel_rfl) (by kernel_rfl) (by kernel_rfl) ?_
  rw [(show obOf (prun [(34, false), (40, false), (46, true)] gCh false 60 N22.b.a (B22 n q m l k s true x y)) = (decide (0 ≤ Int.ofNat x) && ((((Int.ofNat s).fdiv (2 ^ min x 64)).tmod 2 == 0) == false && (decide (0 ≤ Int.ofNat y) && ((((Int.ofNat s).fdiv (2 ^ min y 64)).tmod 2 == 0) == false && (decide ((0 + m) * 2 ≤ q.length) && decide (m ≤ 1000000000) && true && true && relQ (List.take (m * 2) q) m (Int.ofNat x) (Int.ofNat y) == true && true))))) from by kernel_rfl)]
  have e : q.take (m * 2) = q := take_all2 hq
  unfold bt0 at h h2
  try dsimp only
  rw [h, h2, e, h3]
  simp [bndL, hq]
  omega
theorem n22n {n : Nat} {q : List Int} {m : Nat} {l : List Int} {k s : Nat} {x y : Nat} (hq : q.length = m * 2) (hm : m ≤ 1000) (h : bt0 s x = false) (h2 : bt0 s y = false) (h3 : relQ q m (Int.ofNat x) (Int.ofNat y) = false) : Exec PP T none x22.nt 0 N22.b.a (B22 n q m l k s true x y) .n (B22 n q m l k s false x y) := by
  refine exec_prun envCh [(34, false), (40, false), (46, false)] false 60 [0, 1] (by kernel_rfl) (by kernel_rfl) (by kernel_rfl) ?_
  rw [(show obOf (prun [(34, false), (40, false), (46, false)] gCh false 60 N22.b.a (B22 n q m l k s true x y)) = (decide (0 ≤ Int.ofNat x) && ((((Int.ofNat s).fdiv (2 ^ min x 64)).tmod 2 == 0) == false && (decide (0 ≤ Int.ofNat y) && ((((Int.ofNat s).fdiv (2 ^ min y 64)).tmod 2 == 0) == false && (decide ((0 + m) * 2 ≤ q.length) && decide (m ≤ 1000000000) && true && true && relQ (List.take (m * 2) q) m (Int.ofNat x) (Int.ofNat y) == false && true))))) from by kernel_rfl)]
  have e : q.take (m * 2) = q := take_all2 hq
  unfold bt0 at h h2
  try dsimp only
  rw [h, h2, e, h3]
  simp [bndL, hq]
  omega
theorem n22e {n : Nat} {q : List Int} {m : Nat} {l : List Int} {k s : Nat} {b : Bool} {x y : Nat} (hy : y < 100) : Exec PP T none x22.nt 0 N22.b.b (B22 n q m l k s b x y) .n (B22 n q m l k s b x (y + 1)) := by
  refine exec_orun env0 false 60 [] [0, 1] (fun _ => rfl) (by kernel_rfl) (by kernel_rfl) (by kernel_rfl) ?_
  rw [(show obOf (orun g0 false 60 N22.b.b (B22 n q m l k s b x y) []) = (rng64 (Int.ofNat y.succ) && true) from by kernel_rfl)]
  all_goals (first | rfl | (simp; done) | (simp; omega) | (simp [rng64]; done) | (simp [rng64]; omega) | (simp [rng64_eq]; omega))
theorem m22e {n : Nat} {q : List Int} {m : Nat} {l : List Int} {k s : Nat} {b : Bool} {x : Nat} (hx : x < 100) : Exec PP T none x22.nt 0 M22.b.b (A22 n q m l k s b x) .n (A22 n q m l k s b (x + 1)) := by
  refine exec_orun env0 false 60 [] [0, 1] (fun _ => rfl) (by kernel_rfl) (by kernel_rfl) (by kernel_rfl) ?_
  rw [(show obOf (orun g0 false 60 M22.b.b (A22 n q m l k s b x) []) = (rng64 (Int.ofNat x.succ) && true) from by kernel_rfl)]
  all_goals (first | rfl | (simp; done) | (simp; omega) | (simp [rng64]; done) | (simp [rng64]; omega) | (simp [rng64_eq]; omega))
theorem p22t {n : Nat} {q : List Int} {m : Nat} {l : List Int} {k s : Nat} (hl : l.length = k * 1) (hk : k ≤ 100) : Exec PP T none x22.nt 0 X22.b.b (F22 n q m l k s true) .n (S22 n q m (l.take (k * 1) ++ [Int.ofNat s]) (k + 1) s) := by
  refine exec_prun env0 [(49, true)] false 60 [0, 3] (by kernel_rfl) (by kernel_rfl) (by kernel_rfl) ?_
  rw [(show obOf (prun [(49, true)] g0 false 60 X22.b.b (F22 n q m l k s true)) = (decide (1 ≤ 1) && decide (k * 1 ≤ l.length) && decide (k.succ ≤ 1000000000) && true && true && true) from by kernel_rfl)]
  all_goals (first | rfl | (simp; done) | (simp; omega) | (simp [rng64]; done) | (simp [rng64]; omega) | (simp [rng64_eq]; omega))
theorem p22f {n : Nat} {q : List Int} {m : Nat} {l : List Int} {k s : Nat}  : Exec PP T none x22.nt 0 X22.b.b (F22 n q m l k s false) .n (S22 n q m l k s) := by
  refine exec_prun env0 [(49, false)] false 60 [0, 1] (by kernel_rfl) (by kernel_rfl) (by kernel_rfl) (by kernel_rfl)
theorem e22 {n : Nat} {q : List Int} {m : Nat} {l : List Int} {k s : Nat} (hs : s < 100) : Exec PP T none x22.nt 0 L22.b.b (S22 n q m l k s) .n (S22 n q m l k (s + 1)) := by
  refine exec_orun env0 false 60 [] [0, 1] (fun _ => rfl) (by kernel_rfl) (by kernel_rfl) (by kernel_rfl) ?_
  rw [(show obOf (orun g0 false 60 L22.b.b (S22 n q m l k s) []) = (rng64 (Int.ofNat s.succ) && true) from by kernel_rfl)]
  all_goals (first | rfl | (simp; done) | (simp; omega) | (simp [rng64]; done) | (simp [rng64]; omega) | (simp [rng64_eq]; omega))
theorem d22 {n : Nat} {q : List Int} {m : Nat} {l : List Int} {k s : Nat}  : Exec PP T none x22.nt 0 x22.body.b.b.b (S22 n q m l k s) .r (mkSt [(4, s1S 0 k)] [⟨false, .ivec 3 .i64 1 l⟩] 1 []) := by
  refine exec_orun env0 false 60 [] [1] (fun _ => rfl) (by kernel_rfl) (by kernel_rfl) (by kernel_rfl) (by kernel_rfl)
def finB (q : List Int) (m s x : Nat) (b : Bool) : Nat → Bool
  | 0 => b
  | j + 1 => finB q m s x b j && chP q m s x (x + 1 + j)
def finA (q : List Int) (m n s : Nat) : Nat → Bool
  | 0 => true
  | x + 1 => finB q m s x (finA q m n s x) (n - (x + 1))
/-- the chains among the first sets -/
def chL (q : List Int) (m n : Nat) : Nat → List Int
  | 0 => []
  | k + 1 => bif finA q m n (k + 1) n then chL q m n k ++ [Int.ofNat (k + 1)] else chL q m n k
theorem chL_len (q : List Int) (m n : Nat) : ∀ k, (chL q m n k).length ≤ k
  | 0 => Nat.le_refl _
  | k + 1 => by
    have := chL_len q m n k
    unfold chL
    cases finA q m n (k + 1) n <;> simp <;> omega
theorem stepN22 {n : Nat} {q : List Int} {m : Nat} {l : List Int} {k s : Nat} {b : Bool} {x y : Nat} (hq : q.length = m * 2) (hm : m ≤ 1000) (hy : y < n) (hn : n ≤ 5) : Exec PP T none x22.nt 0 N22 (B22 n q m l k s b x y) .n (B22 n q m l k s (b && chP q m s x y) x (y + 1)) := by
  refine exec_seq (x := N22.a) (y := N22.b) (n22a hy) (exec_seq (x := N22.b.a) (y := N22.b.b) ?_ (n22e (by omega)))
  unfold chP
  cases b with
  | false => exact n22f
  | true =>
  cases h1 : bt0 s x with
  | true => exact n22p h1
  | false =>
  cases h2 : bt0 s y with
  | true => exact n22q h1 h2
  | false =>
  cases h3 : relQ q m (Int.ofNat x) (Int.ofNat y) with
  | true => exact n22r hq hm h1 h2 h3
  | false => exact n22n hq hm h1 h2 h3
theorem stepM22 {n : Nat} {q : List Int} {m : Nat} {l : List Int} {k s : Nat} {x : Nat} (hq : q.length = m * 2) (hm : m ≤ 1000) (hx : x < n) (hn : n ≤ 5) : Exec PP T none x22.nt 0 M22 (A22 n q m l k s (finA q m n s x) x) .n (A22 n q m l k s (finA q m n s (x + 1)) (x + 1)) := by
  refine exec_seq (x := M22.a) (y := M22.b) (m22a hx) (exec_seq (x := M22.b.a) (y := M22.b.b) (exec_block (id := 3) (x := M22.b.a.i) (e := .n) (exec_seq (x := M22.b.a.i.a) (y := .block 4 (.loop N22)) (m22b (by omega)) (exec_block (id := 4) (e := .x 4) ?_))) (m22e (by omega)))
  have key := exec_loop_up (P := PP) (T := T) (r := none) (nt := x22.nt) (kp := 0) (x := N22) (fun j => B22 n q m l k s (finB q m s x (finA q m n s x) j) x (x + 1 + j)) (n - (x + 1)) (fun j hj => stepN22 hq hm (by omega) hn) (e := .x 4) (S' := A22 n q m l k s (finB q m s x (finA q m n s x) (n - (x + 1))) x) (exec_seq_x (x := N22.a) (y := N22.b) (n22x (by omega)) (by simp)) (by simp) 0 (by omega)
  exact key
theorem stepL22 {n : Nat} {q : List Int} {m i : Nat} (hq : q.length = m * 2) (hm : m ≤ 1000) (hn : n ≤ 5) (hi : i + 1 < 2 ^ n) : Exec PP T none x22.nt 0 L22 (S22 n q m (chL q m n i) (chL q m n i).length (i + 1)) .n (S22 n q m (chL q m n (i + 1)) (chL q m n (i + 1)).length (i + 1 + 1)) := by
  have hl := chL_len q m n i
  have h32 : 2 ^ n ≤ 2 ^ 5 := Nat.pow_le_pow_right (by omega) hn
  have hin : Exec PP T none x22.nt 0 X22.b.a (F22 n q m (chL q m n i) (chL q m n i).length (i + 1) true) .n (F22 n q m (chL q m n i) (chL q m n i).length (i + 1) (finA q m n (i + 1) n)) := by
    refine exec_seq (x := X22.b.a.a) (y := .block 2 (.loop M22)) l22c (exec_block (id := 2) (e := .x 2) ?_)
    exact exec_loop_up (fun x => A22 n q m (chL q m n i) (chL q m n i).length (i + 1) (finA q m n (i + 1) x) x) n (fun x hx => stepM22 hq hm hx hn) (exec_seq_x (x := M22.a) (y := M22.b) m22x (by simp)) (by simp) 0 (by omega)
  refine exec_seq (x := L22.a) (y := L22.b) (l22a hn hi) (exec_seq (x := .block 1 X22) (y := L22.b.b) (exec_block (id := 1) (x := X22) (e := .n) (exec_seq (x := X22.a) (y := X22.b) l22b (exec_seq (x := X22.b.a) (y := X22.b.b) hin ?_))) (e22 (by omega)))
  have e : chL q m n (i + 1) = bif finA q m n (i + 1) n then chL q m n i ++ [Int.ofNat (i + 1)] else chL q m n i := rfl
  rw [e]
  cases finA q m n (i + 1) n with
  | false => exact p22f
  | true =>
    have hp := p22t (n := n) (q := q) (m := m) (l := chL q m n i) (k := (chL q m n i).length) (s := i + 1) (by simp) (by omega)
    rw [take_all] at hp
    refine exec_eq hp ?_
    rw [cond_true, List.length_append]
    rfl
def chV (q : List Int) (m n : Nat) : List Int := chL q m n (2 ^ n - 1)
theorem body22 {n : Nat} {q : List Int} {m : Nat} (hq : q.length = m * 2) (hm : m ≤ 1000) (hn : n ≤ 5) : Exec PP T none x22.nt 0 x22.body (startSt [.s (.int .i64 (Int.ofNat n)), .s (.sl 0 0 2 m)] [⟨true, .xvec .i64 2 q⟩]) .r (mkSt [(4, s1S 0 (chV q m n).length)] [⟨false, .ivec 3 .i64 1 (chV q m n)⟩] 1 []) := by
  have hp := Nat.two_pow_pos n
  refine exec_seq (x := x22.body.a) (y := x22.body.b) a22 (exec_seq (x := x22.body.b.a) (y := x22.body.b.b) b22 (exec_seq (x := x22.body.b.b.a) (y := x22.body.b.b.b) (exec_seq (x := x22.body.b.b.a.a) (y := .block 0 (.loop L22)) cc22 (exec_block (id := 0) (e := .x 0) (S1 := S22 n q m (chV q m n) (chV q m n).length (2 ^ n)) ?_)) d22))
  have key := exec_loop_up (P := PP) (T := T) (r := none) (nt := x22.nt) (kp := 0) (x := L22) (fun i => S22 n q m (chL q m n i) (chL q m n i).length (i + 1)) (2 ^ n - 1) (fun i hi => stepL22 hq hm hn (by omega)) (e := .x 0) (S' := S22 n q m (chV q m n) (chV q m n).length (2 ^ n)) (by
    rw [show 2 ^ n - 1 + 1 = 2 ^ n by omega]
    exact exec_seq_x (x := L22.a) (y := L22.b) (l22x hn) (by simp)) (by simp) 0 (by omega)
  exact key
def cCh : List PA → Bool := fun pas => match pas with | [.int n, .sl _ q m] => decide (0 ≤ n) && decide (n ≤ 5) && decide (m ≤ 1000) | _ => false
def lCh : List PA → List Int := fun pas => match pas with | [.int n, .sl _ q m] => chV q m n.toNat | _ => []
def vCh : List PA → TV := fun pas => .av (.s (.sl 0 0 1 (lCh pas).length))
def nCh : List PA → List HO := fun pas => [⟨false, .ivec 3 .i64 1 (lCh pas)⟩]
noncomputable abbrev spChs : Spec := genS [.int, .sl 2] cCh vCh nCh
theorem ok22 : SpecOK PP (compC T) 22 spChs := ok_gen o22 (by kernel_rfl) fun pas hf hc => match pas, hf with
  | [.int n, .sl _ q m], ⟨_, ⟨rfl, hq, hm⟩, _⟩ => by
    unfold cCh at hc
    simp only [Bool.and_eq_true, decide_eq_true_eq] at hc
    obtain ⟨k, rfl⟩ : ∃ k : Nat, n = Int.ofNat k := ⟨n.toNat, by simp; omega⟩
    exact ⟨_, 1, .r, body22 hq hc.2 (by have := hc.1.2; simp at this; omega), fun _ => rfl, by kernel_rfl, by kernel_rfl, by kernel_rfl⟩
end Go.Proofs.Yteekkjfjpoaihaa.Eng
namespace Go.Proofs.Yteekkjfjpoaihaa.Eng
open Go Go.Proofs
theorem r15 {x t : Int} (h0 : 0 ≤ t) (h : t ≤ 6) : Exec PP T none x15.nt 0 x15.body (startSt [.s (.int .i64 x), .s (.int .i64 t)] []) .r (mkSt [(4, ⟨true, I (umod x (t + 1))⟩)] [] 0 []) := by
  refine exec_orun env0 false 60 [] [] (fun _ => rfl) (by kernel_rfl) (by kernel_rfl) (by kernel_rfl) ?_
  rw [(show obOf (orun g0 false 60 x15.body (startSt [.s (.int .i64 x), .s (.int .i64 t)] []) []) = (rng64 (t + 1) && (decide ¬IntKind.u64.wrap (t + 1) = 0 && true) && true) from by kernel_rfl)]
  have h1 : IntKind.u64.wrap (t + 1) = t + 1 := by
    have := (show ∀ k, k < 8 → IntKind.u64.wrap (Int.ofNat k) = Int.ofNat k from of_decide_eq_true (by kernel_rfl)) (t + 1).toNat (by omega)
    rwa [show Int.ofNat (t + 1).toNat = t + 1 from Int.toNat_of_nonneg (by omega)] at this
  rw [h1]
  simp [rng64_eq]
  omega
def cSm : List PA → Bool := fun pas => match pas with | [.int _, .int t] => decide (0 ≤ t) && decide (t ≤ 6) | _ => false
def vSm : List PA → TV := fun pas => match pas with | [.int x, .int t] => I (umod x (t + 1)) | _ => anyT
noncomputable abbrev spSmall : Spec := genS [.int, .int] cSm vSm fun _ => []
theorem ok15 : SpecOK PP (compC T) 15 spSmall := ok_gen o15 (by kernel_rfl) fun pas hf hc => match pas, hf with
  | [.int x, .int t], _ => by
    unfold cSm at hc
    simp only [Bool.and_eq_true, decide_eq_true_eq] at hc
    exact ⟨_, 0, .r, r15 hc.1 hc.2, fun _ => rfl, by kernel_rfl, by kernel_rfl, by kernel_rfl⟩
end Go.Proofs.Yteekkjfjpoaihaa.Eng

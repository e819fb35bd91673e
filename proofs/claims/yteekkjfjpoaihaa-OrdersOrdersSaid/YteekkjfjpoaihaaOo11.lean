/- A part of the proof of ordersOrders_holds. -/
import Derived.Test.YteekkjfjpoaihaaOo10
set_option linter.all false
namespace Go.Proofs.Yteekkjfjpoaihaa.Eng
open Go Go.Proofs
def metS (met v : Int) : Int := bitop .or .i64 met (1 * 2 ^ (min v.toNat 64))
def bitT (met v : Int) : Bool := (met.fdiv (2 ^ (min v.toNat 64))).tmod 2 == 1
def metL (q : List Int) : Nat → Int
  | 0 => 0
  | i + 1 => metS (metL q i) (at1 q i)
theorem met_tab : ∀ M, M < 128 → ∀ v, v < 7 → metS (Int.ofNat M) (Int.ofNat v) = Int.ofNat (M ||| 2 ^ v) ∧ bitT (Int.ofNat M) (Int.ofNat v) = M.testBit v := of_decide_eq_true (by kernel_rfl)
def permB (n : Int) (q : List Int) (m : Nat) : Bool := decide (Int.ofNat m = n) && (List.range m).all fun i => decide (0 ≤ at1 q i) && decide (at1 q i < n) && (List.range i).all fun j => decide (at1 q j ≠ at1 q i)
theorem permB_at {n : Int} {q : List Int} {m : Nat} (h : permB n q m = true) : Int.ofNat m = n ∧ ∀ i, i < m → 0 ≤ at1 q i ∧ at1 q i < n ∧ ∀ j, j < i → at1 q j ≠ at1 q i := by
  unfold permB at h
  simp only [Bool.and_eq_true, decide_eq_true_eq, List.all_eq_true, List.mem_range] at h
  exact ⟨h.1, fun i hi => ⟨(h.2 i hi).1.1, (h.2 i hi).1.2, fun j hj => (h.2 i hi).2 j hj⟩⟩
theorem metL_spec {n : Int} {q : List Int} {m : Nat} (hn : n ≤ 7) (h : permB n q m = true) : ∀ i, i ≤ m → ∃ M : Nat, M < 128 ∧ metL q i = Int.ofNat M ∧ ∀ v : Nat, v < 7 → (M.testBit v = true ↔ ∃ j, j < i ∧ at1 q j = Int.ofNat v)
  | 0, _ => ⟨0, by omega, rfl, fun v hv => by simp⟩
  | i + 1, hi => by
    obtain ⟨M, h1, h2, h3⟩ := metL_spec hn h i (by omega)
    obtain ⟨g1, g2, g3⟩ := (permB_at h).2 i (by omega)
    obtain ⟨v, hv⟩ : ∃ v : Nat, at1 q i = Int.ofNat v := ⟨(at1 q i).toNat, by simp; omega⟩
    have hv7 : v < 7 := by rw [hv] at g2; simp at g2; omega
    refine ⟨M ||| 2 ^ v, ?_, ?_, fun u hu => ?_⟩
    · have h2v : 2 ^ v < 2 ^ 7 := Nat.pow_lt_pow_right (by omega) hv7
      exact Nat.or_lt_two_pow (n := 7) h1 h2v
    · show metS (metL q i) (at1 q i) = _
      rw [h2, hv]
      exact (met_tab M h1 v hv7).1
    · rw [Nat.testBit_or, Bool.or_eq_true, h3 u hu, Nat.testBit_two_pow]
      constructor
      · rintro (⟨j, k1, k2⟩ | k)
        · exact ⟨j, by omega, k2⟩
        · simp at k
          exact ⟨i, by omega, by rw [hv, k]⟩
      · rintro ⟨j, k1, k2⟩
        by_cases hj : j < i
        · exact .inl ⟨j, hj, k2⟩
        · have : j = i := by omega
          subst this
          rw [hv] at k2
          simp at k2
          exact .inr (by simp; omega)
theorem metL_bit {n : Int} {q : List Int} {m : Nat} (hn : n ≤ 7) (h : permB n q m = true) {i : Nat} (hi : i < m) : bitT (metL q i) (at1 q i) = false := by
  obtain ⟨M, h1, h2, h3⟩ := metL_spec hn h i (by omega)
  obtain ⟨g1, g2, g3⟩ := (permB_at h).2 i hi
  obtain ⟨v, hv⟩ : ∃ v : Nat, at1 q i = Int.ofNat v := ⟨(at1 q i).toNat, by simp; omega⟩
  have hv7 : v < 7 := by rw [hv] at g2; simp at g2; omega
  rw [h2, hv, (met_tab M h1 v hv7).2]
  cases hb : M.testBit v with
  | false => rfl
  | true =>
    obtain ⟨j, k1, k2⟩ := (h3 v hv7).1 hb
    rw [← hv] at k2
    exact absurd k2 (g3 j k1)
def L37 : XC := x37.body.b.a.b.i.i
def M37 : XC := L37.b.a.i.b.a.b.i.i
abbrev H37 (q q' : List Int) (m m' : Nat) : List HO := [⟨true, .xvec .i64 1 q⟩, ⟨true, .xvec .i64 1 q'⟩, ⟨false, .row 48 [.sl 0 0 1 m, .sl 1 0 1 m'] 0 ff⟩]
abbrev A37 (n : Nat) (q q' : List Int) (m m' : Nat) : St := mkSt [(0, iS n), (3, g1S 2)] (H37 q q' m m') 3 []
abbrev S37 (n : Nat) (q q' : List Int) (m m' k : Nat) : St := mkSt [(0, iS n), (3, g1S 2), (5, iS k)] (H37 q q' m m') 3 []
abbrev U37 (n : Nat) (q q' : List Int) (m m' k : Nat) (e : Int) (i : Nat) : St := mkSt [(0, iS n), (3, g1S 2), (5, iS k), (6, iS e), (7, iS i)] (H37 q q' m m') 3 []
theorem a37 {n : Nat} {q q' : List Int} {m m' : Nat}  : Exec PP T none x37.nt 0 x37.body.a (startSt [.s (.int .i64 (Int.ofNat n)), .pb [.sl 0 0 1 m, .sl 1 0 1 m'] 0 ff] [⟨true, .xvec .i64 1 q⟩, ⟨true, .xvec .i64 1 q'⟩]) .n (A37 n q q' m m') := by
  refine exec_orun env0 false 60 [] [0, 1, 2] (fun _ => rfl) (by kernel_rfl) (by kernel_rfl) (by kernel_rfl) (by kernel_rfl)
theorem b37 {n : Nat} {q q' : List Int} {m m' : Nat}  : Exec PP T none x37.nt 0 x37.body.b.a.a (A37 n q q' m m') .n (S37 n q q' m m' 0) := by
  refine exec_orun env0 false 60 [] [0, 1, 2] (fun _ => rfl) (by kernel_rfl) (by kernel_rfl) (by kernel_rfl) (by kernel_rfl)
theorem l37x {n : Nat} {q q' : List Int} {m m' : Nat}  : Exec PP T none x37.nt 0 L37.a (S37 n q q' m m' 2) (.x 0) (S37 n q q' m m' 2) := by
  refine exec_orun env0 false 60 [false] [0, 1, 2] (fun _ => rfl) (by kernel_rfl) (by kernel_rfl) (by kernel_rfl) (by kernel_rfl)
theorem d37 {n : Nat} {q q' : List Int} {m m' : Nat} (h0 : 1 ≤ n) (hn : n ≤ 7) : Exec PP T none x37.nt 0 x37.body.b.b (S37 n q q' m m' 2) .r (RB 4 (bif decide (Int.ofNat n ≥ 1) then decide (Int.ofNat n ≤ 7) else false)) := by
  refine exec_orun env0 false 60 [] [] (fun _ => rfl) (by kernel_rfl) (by kernel_rfl) (by kernel_rfl) ?_
  rw [(show obOf (orun g0 false 60 x37.body.b.b (S37 n q q' m m' 2) []) = ((!decide (Int.ofNat n ≥ 1) == true || true) && ((!decide (Int.ofNat n ≥ 1) == true || decide (Int.ofNat n ≥ 1) == true && true && true) && ((bif decide (Int.ofNat n ≥ 1) then decide (Int.ofNat n ≥ 1) == true else true) && true && true)) && true) from by kernel_rfl)]
  all_goals (first | rfl | (simp; done) | (simp; omega) | (simp [rng64]; done) | (simp [rng64]; omega) | (simp [rng64_eq]; omega))
theorem l37a0 {n : Nat} {q q' : List Int} {m m' : Nat}  : Exec PP T none x37.nt 0 L37.a (S37 n q q' m m' 0) .n (S37 n q q' m m' 0) := by
  refine exec_orun env0 false 60 [true] [0, 1, 2] (fun _ => rfl) (by kernel_rfl) (by kernel_rfl) (by kernel_rfl) (by kernel_rfl)
theorem l37b0 {n : Nat} {q q' : List Int} {m m' : Nat}  : Exec PP T none x37.nt 0 L37.b.a.i.a (S37 n q q' m m' 0) .n (mkSt [(0, iS n), (3, g1S 2), (5, iS ((0 : Nat) : Int)), (6, iS 0)] (H37 q q' m m') 3 []) := by
  refine exec_orun env0 false 60 [] [0, 1, 2] (fun _ => rfl) (by kernel_rfl) (by kernel_rfl) (by kernel_rfl) (by kernel_rfl)
theorem l37c0 {n : Nat} {q q' : List Int} {m m' : Nat}  : Exec PP T none x37.nt 0 L37.b.a.i.b.a.a (mkSt [(0, iS n), (3, g1S 2), (5, iS ((0 : Nat) : Int)), (6, iS 0)] (H37 q q' m m') 3 []) .n (U37 n q q' m m' 0 0 0) := by
  refine exec_orun env0 false 60 [] [0, 1, 2] (fun _ => rfl) (by kernel_rfl) (by kernel_rfl) (by kernel_rfl) (by kernel_rfl)
theorem m370 {n : Nat} {q q' : List Int} {m m' : Nat} {e : Int} {i : Nat} (hq : q.length = m * 1) (hm : m ≤ 7) (hn : n ≤ 7) (hi : i < m) (h1 : 0 ≤ at1 q i ∧ at1 q i < n) (h2 : bitT e (at1 q i) = false) (h3 : 0 ≤ e ∧ e < 128) : Exec PP T none x37.nt 0 M37 (U37 n q q' m m' 0 e i) .n (U37 n q q' m m' 0 (metS e (at1 q i)) (i + 1)) := by
  refine exec_orun env0 false 60 [true, false] [0, 1, 2] (fun _ => rfl) (by kernel_rfl) (by kernel_rfl) (by kernel_rfl) ?_
  rw [(show obOf (orun g0 false 60 M37 (U37 n q q' m m' 0 e i) [true, false]) = ((fun b0_ : Bool => decide (Int.ofNat i < Int.ofNat m) && true && (decide (0 ≤ Int.ofNat i) && decide (Int.ofNat i < Int.ofNat m) && (decide (0 + (0 + i) * 1 < q.length) && true) && ((!decide (q.getD (0 + (0 + i) * 1) 0 < 0) == false || true) && ((!decide (q.getD (0 + (0 + i) * 1) 0 < 0) == false || true) && ((!decide (q.getD (0 + (0 + i) * 1) 0 < 0) == false || decide (q.getD (0 + (0 + i) * 1) 0 < 0) == false && (decide (q.getD (0 + (0 + i) * 1) 0 < 0) == false && true) && true) && ((bif decide (q.getD (0 + (0 + i) * 1) 0 < 0) then true else decide (q.getD (0 + (0 + i) * 1) 0 < 0) == false) && true && ((!b0_ == false || true) && ((!b0_ == false || true) && ((!b0_ == false || b0_ == false && (b0_ == false && true) && decide (0 ≤ q.getD (0 + (0 + i) * 1) 0)) && ((!b0_ == false || b0_ == false && true && true) && ((!b0_ == false || b0_ == false && true && true) && ((bif bif decide (q.getD (0 + (0 + i) * 1) 0 < 0) then true else decide (q.getD (0 + (0 + i) * 1) 0 ≥ Int.ofNat n) then true else b0_ == false) && true && true))))))))) && ((!bif bif decide (q.getD (0 + (0 + i) * 1) 0 < 0) then true else decide (q.getD (0 + (0 + i) * 1) 0 ≥ Int.ofNat n) then true else (e.fdiv (2 ^ min (q.getD (0 + (0 + i) * 1) 0).toNat 64)).tmod 2 == 1) && true) && (decide (0 ≤ q.getD (0 + (0 + i) * 1) 0) && rng64 (1 * 2 ^ min (q.getD (0 + (0 + i) * 1) 0).toNat 64) && true)) && (rng64 (Int.ofNat i.succ) && true))) (bif decide (q.getD (0 + (0 + i) * 1) 0 < 0) then true else decide (q.getD (0 + (0 + i) * 1) 0 ≥ Int.ofNat n))) from by kernel_rfl)]
  dsimp only
  unfold at1 at h1 h2
  unfold bitT at h2
  generalize hx : q.getD (0 + (0 + i) * 1) 0 = x at *
  obtain ⟨v, rfl⟩ : ∃ v : Nat, x = Int.ofNat v := ⟨x.toNat, by simp; omega⟩
  have hv : v < 7 := by have := h1.2; simp at this; omega
  rw [h2]
  have e0 : decide (Int.ofNat v < 0) = false := by simp
  have e1 : decide (Int.ofNat v ≥ Int.ofNat n) = false := by simp; have := h1.2; simp at this; omega
  have e2 : rng64 (1 * 2 ^ (min (Int.ofNat v).toNat 64)) = true := (show ∀ v, v < 7 → rng64 (1 * 2 ^ (min (Int.ofNat v).toNat 64)) = true from of_decide_eq_true (by kernel_rfl)) v hv
  rw [e0, e1, e2]
  simp [hq, rng64_eq]
  omega
theorem m37x0 {n : Nat} {q q' : List Int} {m m' : Nat} {e : Int}  : Exec PP T none x37.nt 0 M37 (U37 n q q' m m' 0 e m) (.x 2) (U37 n q q' m m' 0 e m) := by
  refine exec_orun env0 false 60 [false] [0, 1, 2] (fun _ => rfl) (by kernel_rfl) (by kernel_rfl) (by kernel_rfl) ?_
  rw [(show obOf (orun g0 false 60 M37 (U37 n q q' m m' 0 e m) [false]) = (!decide (Int.ofNat m < Int.ofNat m) && true) from by kernel_rfl)]
  all_goals (first | rfl | (simp; done) | (simp; omega) | (simp [rng64]; done) | (simp [rng64]; omega) | (simp [rng64_eq]; omega))
theorem l37d0 {n : Nat} {q q' : List Int} {m m' : Nat} {e : Int} {i : Nat} (h : m = n) : Exec PP T none x37.nt 0 L37.b.a.i.b.b (U37 n q q' m m' 0 e i) .n (S37 n q q' m m' 0) := by
  refine exec_orun env0 false 60 [false] [0, 1, 2] (fun _ => rfl) (by kernel_rfl) (by kernel_rfl) (by kernel_rfl) ?_
  rw [(show obOf (orun g0 false 60 L37.b.a.i.b.b (U37 n q q' m m' 0 e i) [false]) = (!Int.ofNat m != Int.ofNat n && true) from by kernel_rfl)]
  all_goals (first | rfl | (simp; done) | (simp; omega) | (simp [rng64]; done) | (simp [rng64]; omega) | (simp [rng64_eq]; omega))
theorem l37e0 {n : Nat} {q q' : List Int} {m m' : Nat}  : Exec PP T none x37.nt 0 L37.b.b (S37 n q q' m m' 0) .n (S37 n q q' m m' (0 + 1)) := by
  refine exec_orun env0 false 60 [] [0, 1, 2] (fun _ => rfl) (by kernel_rfl) (by kernel_rfl) (by kernel_rfl) (by kernel_rfl)
theorem l370 {n : Nat} {q q' : List Int} {m m' : Nat} (hq : q.length = m * 1) (hn : n ≤ 7) (hp : permB n q m = true) : Exec PP T none x37.nt 0 L37 (S37 n q q' m m' 0) .n (S37 n q q' m m' (0 + 1)) := by
  have hmn : m = n := by exact Int.ofNat.inj (permB_at hp).1
  refine exec_seq (x := L37.a) (y := L37.b) l37a0 (exec_seq (x := L37.b.a) (y := L37.b.b) (exec_block (id := 1) (x := L37.b.a.i) (e := .n) (exec_seq (x := L37.b.a.i.a) (y := L37.b.a.i.b) l37b0 (exec_seq (x := L37.b.a.i.b.a) (y := L37.b.a.i.b.b) (exec_seq (x := L37.b.a.i.b.a.a) (y := .block 2 (.loop M37)) l37c0 (exec_block (e := .x 2) (S1 := U37 n q q' m m' 0 (metL q m) m) ?_)) (l37d0 hmn)))) l37e0)
  exact exec_loop_up (fun i => U37 n q q' m m' 0 (metL q i) i) m (fun i hi => by
    obtain ⟨g1, g2, _⟩ := (permB_at hp).2 i hi
    obtain ⟨w, k1, k2, _⟩ := metL_spec (by omega) hp i (by omega)
    exact m370 hq (by omega) hn hi ⟨g1, g2⟩ (metL_bit (by omega) hp hi) (by rw [k2]; simp; omega)) m37x0 (by simp) 0 (by omega)
theorem l37a1 {n : Nat} {q q' : List Int} {m m' : Nat}  : Exec PP T none x37.nt 0 L37.a (S37 n q q' m m' 1) .n (S37 n q q' m m' 1) := by
  refine exec_orun env0 false 60 [true] [0, 1, 2] (fun _ => rfl) (by kernel_rfl) (by kernel_rfl) (by kernel_rfl) (by kernel_rfl)
theorem l37b1 {n : Nat} {q q' : List Int} {m m' : Nat}  : Exec PP T none x37.nt 0 L37.b.a.i.a (S37 n q q' m m' 1) .n (mkSt [(0, iS n), (3, g1S 2), (5, iS ((1 : Nat) : Int)), (6, iS 0)] (H37 q q' m m') 3 []) := by
  refine exec_orun env0 false 60 [] [0, 1, 2] (fun _ => rfl) (by kernel_rfl) (by kernel_rfl) (by kernel_rfl) (by kernel_rfl)
theorem l37c1 {n : Nat} {q q' : List Int} {m m' : Nat}  : Exec PP T none x37.nt 0 L37.b.a.i.b.a.a (mkSt [(0, iS n), (3, g1S 2), (5, iS ((1 : Nat) : Int)), (6, iS 0)] (H37 q q' m m') 3 []) .n (U37 n q q' m m' 1 0 0) := by
  refine exec_orun env0 false 60 [] [0, 1, 2] (fun _ => rfl) (by kernel_rfl) (by kernel_rfl) (by kernel_rfl) (by kernel_rfl)
theorem m371 {n : Nat} {q q' : List Int} {m m' : Nat} {e : Int} {i : Nat} (hq : q'.length = m' * 1) (hm : m' ≤ 7) (hn : n ≤ 7) (hi : i < m') (h1 : 0 ≤ at1 q' i ∧ at1 q' i < n) (h2 : bitT e (at1 q' i) = false) (h3 : 0 ≤ e ∧ e < 128) : Exec PP T none x37.nt 0 M37 (U37 n q q' m m' 1 e i) .n (U37 n q q' m m' 1 (metS e (at1 q' i)) (i + 1)) := by
  refine exec_orun env0 false 60 [true, false] [0, 1, 2] (fun _ => rfl) (by kernel_rfl) (by kernel_rfl) (by kernel_rfl) ?_
  rw [(show obOf (orun g0 false 60 M37 (U37 n q q' m m' 1 e i) [true, false]) = ((fun b0_ : Bool => decide (Int.ofNat i < Int.ofNat m') && true && (decide (0 ≤ Int.ofNat i) && decide (Int.ofNat i < Int.ofNat m') && (decide (0 + (0 + i) * 1 < q'.length) && true) && ((!decide (q'.getD (0 + (0 + i) * 1) 0 < 0) == false || true) && ((!decide (q'.getD (0 + (0 + i) * 1) 0 < 0) == false || true) && ((!decide (q'.getD (0 + (0 + i) * 1) 0 < 0) == false || decide (q'.getD (0 + (0 + i) * 1) 0 < 0) == false && (decide (q'.getD (0 + (0 + i) * 1) 0 < 0) == false && true) && true) && ((bif decide (q'.getD (0 + (0 + i) * 1) 0 < 0) then true else decide (q'.getD (0 + (0 + i) * 1) 0 < 0) == false) && true && ((!b0_ == false || true) && ((!b0_ == false || true) && ((!b0_ == false || b0_ == false && (b0_ == false && true) && decide (0 ≤ q'.getD (0 + (0 + i) * 1) 0)) && ((!b0_ == false || b0_ == false && true && true) && ((!b0_ == false || b0_ == false && true && true) && ((bif bif decide (q'.getD (0 + (0 + i) * 1) 0 < 0) then true else decide (q'.getD (0 + (0 + i) * 1) 0 ≥ Int.ofNat n) then true else b0_ == false) && true && true))))))))) && ((!bif bif decide (q'.getD (0 + (0 + i) * 1) 0 < 0) then true else decide (q'.getD (0 + (0 + i) * 1) 0 ≥ Int.ofNat n) then true else (e.fdiv (2 ^ min (q'.getD (0 + (0 + i) * 1) 0).toNat 64)).tmod 2 == 1) && true) && (decide (0 ≤ q'.getD (0 + (0 + i) * 1) 0) && rng64 (1 * 2 ^ min (q'.getD (0 + (0 + i) * 1) 0).toNat 64) && true)) && (rng64 (Int.ofNat i.succ) && true))) (bif decide (q'.getD (0 + (0 + i) * 1) 0 < 0) then true else decide (q'.getD (0 + (0 + i) * 1) 0 ≥ Int.ofNat n))) from by kernel_rfl)]
  dsimp only
  unfold at1 at h1 h2
  unfold bitT at h2
  generalize hx : q'.getD (0 + (0 + i) * 1) 0 = x at *
  obtain ⟨v, rfl⟩ : ∃ v : Nat, x = Int.ofNat v := ⟨x.toNat, by simp; omega⟩
  have hv : v < 7 := by have := h1.2; simp at this; omega
  rw [h2]
  have e0 : decide (Int.ofNat v < 0) = false := by simp
  have e1 : decide (Int.ofNat v ≥ Int.ofNat n) = false := by simp; have := h1.2; simp at this; omega
  have e2 : rng64 (1 * 2 ^ (min (Int.ofNat v).toNat 64)) = true := (show ∀ v, v < 7 → rng64 (1 * 2 ^ (min (Int.ofNat v).toNat 64)) = true from of_decide_eq_true (by kernel_rfl)) v hv
  rw [e0, e1, e2]
  simp [hq, rng64_eq]
  omega
theorem m37x1 {n : Nat} {q q' : List Int} {m m' : Nat} {e : Int}  : Exec PP T none x37.nt 0 M37 (U37 n q q' m m' 1 e m') (.x 2) (U37 n q q' m m' 1 e m') := by
  refine exec_orun env0 false 60 [false] [0, 1, 2] (fun _ => rfl) (by kernel_rfl) (by kernel_rfl) (by kernel_rfl) ?_
  rw [(show obOf (orun g0 false 60 M37 (U37 n q q' m m' 1 e m') [false]) = (!decide (Int.ofNat m' < Int.ofNat m') && true) from by kernel_rfl)]
  all_goals (first | rfl | (simp; done) | (simp; omega) | (simp [rng64]; done) | (simp [rng64]; omega) | (simp [rng64_eq]; omega))
theorem l37d1 {n : Nat} {q q' : List Int} {m m' : Nat} {e : Int} {i : Nat} (h : m' = n) : Exec PP T none x37.nt 0 L37.b.a.i.b.b (U37 n q q' m m' 1 e i) .n (S37 n q q' m m' 1) := by
  refine exec_orun env0 false 60 [false] [0, 1, 2] (fun _ => rfl) (by kernel_rfl) (by kernel_rfl) (by kernel_rfl) ?_
  rw [(show obOf (orun g0 false 60 L37.b.a.i.b.b (U37 n q q' m m' 1 e i) [false]) = (!Int.ofNat m' != Int.ofNat n && true) from by kernel_rfl)]
  all_goals (first | rfl | (simp; done) | (simp; omega) | (simp [rng64]; done) | (simp [rng64]; omega) | (simp [rng64_eq]; omega))
theorem l37e1 {n : Nat} {q q' : List Int} {m m' : Nat}  : Exec PP T none x37.nt 0 L37.b.b (S37 n q q' m m' 1) .n (S37 n q q' m m' (1 + 1)) := by
  refine exec_orun env0 false 60 [] [0, 1, 2] (fun _ => rfl) (by kernel_rfl) (by kernel_rfl) (by kernel_rfl) (by kernel_rfl)
theorem l371 {n : Nat} {q q' : List Int} {m m' : Nat} (hq : q'.length = m' * 1) (hn : n ≤ 7) (hp : permB n q' m' = true) : Exec PP T none x37.nt 0 L37 (S37 n q q' m m' 1) .n (S37 n q q' m m' (1 + 1)) := by
  have hmn : m' = n := by exact Int.ofNat.inj (permB_at hp).1
  refine exec_seq (x := L37.a) (y := L37.b) l37a1 (exec_seq (x := L37.b.a) (y := L37.b.b) (exec_block (id := 1) (x := L37.b.a.i) (e := .n) (exec_seq (x := L37.b.a.i.a) (y := L37.b.a.i.b) l37b1 (exec_seq (x := L37.b.a.i.b.a) (y := L37.b.a.i.b.b) (exec_seq (x := L37.b.a.i.b.a.a) (y := .block 2 (.loop M37)) l37c1 (exec_block (e := .x 2) (S1 := U37 n q q' m m' 1 (metL q' m') m') ?_)) (l37d1 hmn)))) l37e1)
  exact exec_loop_up (fun i => U37 n q q' m m' 1 (metL q' i) i) m' (fun i hi => by
    obtain ⟨g1, g2, _⟩ := (permB_at hp).2 i hi
    obtain ⟨w, k1, k2, _⟩ := metL_spec (by omega) hp i (by omega)
    exact m371 hq (by omega) hn hi ⟨g1, g2⟩ (metL_bit (by omega) hp hi) (by rw [k2]; simp; omega)) m37x1 (by simp) 0 (by omega)
theorem body37 {n : Nat} {q q' : List Int} {m m' : Nat} (hq : q.length = m * 1) (hq' : q'.length = m' * 1) (h0 : 1 ≤ n) (hn : n ≤ 7) (hp : permB n q m = true) (hp' : permB n q' m' = true) : Exec PP T none x37.nt 0 x37.body (startSt [.s (.int .i64 (Int.ofNat n)), .pb [.sl 0 0 1 m, .sl 1 0 1 m'] 0 ff] [⟨true, .xvec .i64 1 q⟩, ⟨true, .xvec .i64 1 q'⟩]) .r (RB 4 true) := by
  have hd := d37 (q := q) (q' := q') (m := m) (m' := m') h0 hn
  rw [show (bif decide (Int.ofNat n ≥ 1) then decide (Int.ofNat n ≤ 7) else false) = true by
    rw [decide_eq_true (show Int.ofNat n ≥ 1 by simp; omega), decide_eq_true (show Int.ofNat n ≤ 7 by simp; omega)]; rfl] at hd
  refine exec_seq (x := x37.body.a) (y := x37.body.b) a37 (exec_seq (x := x37.body.b.a) (y := x37.body.b.b) (exec_seq (x := x37.body.b.a.a) (y := .block 0 (.loop L37)) b37 (exec_block (e := .x 0) (S1 := S37 n q q' m m' 2) ?_)) hd)
  exact exec_loop_up (fun k => S37 n q q' m m' k) 2 (fun k hk => match k, hk with
    | 0, _ => l370 hq hn hp
    | 1, _ => l371 hq' hn hp'
    | k + 2, hk => absurd hk (by omega)) (exec_seq_x (x := L37.a) (y := L37.b) l37x (by simp)) (by simp) 0 (by omega)
def cRLines : List PA → Bool := fun pas => match pas with | [.int n, .two _ q q' m m'] => decide (1 ≤ n) && decide (n ≤ 7) && (permB n q m && permB n q' m') | _ => false
noncomputable abbrev spRLines : Spec := genS [.int, .two 1] cRLines (fun _ => B true) fun _ => []
theorem ok37 : SpecOK PP (compC T) 37 spRLines := ok_gen o37 (by kernel_rfl) fun pas hf hc => match pas, hf with
  | [.int n, .two _ q q' m m'], ⟨_, ⟨rfl, ⟨hq, hm⟩, hq', hm'⟩, _⟩ => by
    unfold cRLines at hc
    simp only [Bool.and_eq_true, decide_eq_true_eq] at hc
    obtain ⟨k, rfl⟩ : ∃ k : Nat, n = Int.ofNat k := ⟨n.toNat, by simp; omega⟩
    exact ⟨_, 0, .r, body37 hq hq' (by have := hc.1.1; simp at this; omega) (by have := hc.1.2; simp at this; omega) hc.2.1 hc.2.2, fun _ => rfl, by kernel_rfl, by kernel_rfl, by kernel_rfl⟩
end Go.Proofs.Yteekkjfjpoaihaa.Eng
namespace Go.Proofs.Yteekkjfjpoaihaa.Eng
open Go Go.Proofs
def knw (E : List (CV × CV)) (a b : Int) : Bool := (findC (.ints 2) (.is [a, b]) E).isSome
def stp1 (E : List (CV × CV)) (a b : Int) : Int := match findC (.ints 2) (.is [a, b]) E with | some (.is (a :: _)) => a | _ => 0
def tst85 (q : List Int) (m : Nat) (al : List Int) (E : List (CV × CV)) (l : List Int) (i k : Nat) : Bool := bif !(knw E (ra al k) (rb al k)) then forF q m (ra l i) (rb l i) (ra al k) (rb al k) else false
def upd85 (al : List Int) (E : List (CV × CV)) (l : List Int) (i k : Nat) : List (CV × CV) := updC (.ints 2) (.is [ra al k, rb al k]) (.is [stp1 E (ra l i) (rb l i) + 1]) E
theorem ra_f (q : List Int) (i : Nat) : q.getD (0 + (0 + i) * 2 + 0) 0 = ra q i := rfl
theorem rb_f (q : List Int) (i : Nat) : q.getD ((0 + (0 + i) * 2).add 0).succ 0 = rb q i := rfl
noncomputable def Lc85 : List (Nat × Spec) := [(108, spFor)]
theorem Lc85_ok : SpecsL Lc85 := specsL_cons ok108 (genS_fp) o108 (fun p hp => absurd hp (by simp))
noncomputable abbrev gc85 : Cal → Option Spec := specsΓ Lc85
theorem envc85 : EnvOK PP T gc85 := envL Lc85_ok
noncomputable def La85 : List (Nat × Spec) := [(84, spRarrows)]
theorem La85_ok : SpecsL La85 := specsL_cons ok84 (genS_fp) o84 (fun p hp => absurd hp (by simp))
noncomputable abbrev ga85 : Cal → Option Spec := specsΓ La85
theorem enva85 : EnvOK PP T ga85 := envL La85_ok
def L85 : XC := x85.body.b.b.b.b.a.b.i.i
def M85 : XC := L85.b.a.i.b.i.i
abbrev H85 (q al : List Int) (E : List (CV × CV)) (l : List Int) : List HO := [⟨true, .xvec .i64 2 q⟩, ⟨false, .ivec 38 .i64 2 al⟩, ⟨false, .map (.ints 2) .int1 E⟩, ⟨false, .ivec 38 .i64 2 l⟩]
abbrev S85 (q : List Int) (m : Nat) (al : List Int) (an : Nat) (E : List (CV × CV)) (l : List Int) (ln i : Nat) : St := mkSt [(1, lsS 0 m), (8, lsS 1 an), (9, ⟨true, .av (.s (.mp 2))⟩), (10, lsS 3 ln), (11, iS i)] (H85 q al E l) 4 []
abbrev U85 (q : List Int) (m : Nat) (al : List Int) (an : Nat) (E : List (CV × CV)) (l : List Int) (ln i k : Nat) : St := mkSt [(1, lsS 0 m), (8, lsS 1 an), (9, ⟨true, .av (.s (.mp 2))⟩), (10, lsS 3 ln), (11, iS i), (12, iS k)] (H85 q al E l) 4 []
theorem m85f {q : List Int} {m : Nat} {al : List Int} {an : Nat} {E : List (CV × CV)} {l : List Int} {ln i k : Nat} (hq : q.length = m * 2) (hm : m ≤ 1000000000) (ha : al.length = an * 2) (han : an ≤ 100) (hl : l.length = ln * 2) (hi : i < ln) (hk : k < an) (h : tst85 q m al E l i k = false) : Exec PP T none x85.nt 0 M85 (U85 q m al an E l ln i k) .n (U85 q m al an E l ln i (k + 1)) := by
  refine exec_orun envc85 false 60 [true, false] [0, 1, 2, 3] (fun _ => rfl) (by kernel_rfl) (by kernel_rfl) (by kernel_rfl) ?_
  rw [(show obOf (orun gc85 false 60 M85 (U85 q m al an E l ln i k) [true, false]) = (decide (Int.ofNat k < Int.ofNat an) && true && (decide (0 ≤ Int.ofNat k) && decide (Int.ofNat k < Int.ofNat an) && (decide (((0 + (0 + k) * 2).add 0).succ.succ ≤ al.length) && true) && ((!(!(findC (CK.ints 2) (CV.is ((fun x => al.getD (0 + (0 + k) * 2 + 0) 0 :: x) ((fun x => al.getD ((0 + (0 + k) * 2).add 0).succ 0 :: x) []))) E).isSome) == true || true) && ((!(!(findC (CK.ints 2) (CV.is ((fun x => al.getD (0 + (0 + k) * 2 + 0) 0 :: x) ((fun x => al.getD ((0 + (0 + k) * 2).add 0).succ 0 :: x) []))) E).isSome) == true || true) && ((!(!(findC (CK.ints 2) (CV.is ((fun x => al.getD (0 + (0 + k) * 2 + 0) 0 :: x) ((fun x => al.getD ((0 + (0 + k) * 2).add 0).succ 0 :: x) []))) E).isSome) == true || true) && ((!(!(findC (CK.ints 2) (CV.is ((fun x => al.getD (0 + (0 + k) * 2 + 0) 0 :: x) ((fun x => al.getD ((0 + (0 + k) * 2).add 0).succ 0 :: x) []))) E).isSome) == true || (!(findC (CK.ints 2) (CV.is ((fun x => al.getD (0 + (0 + k) * 2 + 0) 0 :: x) ((fun x => al.getD ((0 + (0 + k) * 2).add 0).succ 0 :: x) []))) E).isSome) == true && ((!(findC (CK.ints 2) (CV.is ((fun x => al.getD (0 + (0 + k) * 2 + 0) 0 :: x) ((fun x => al.getD ((0 + (0 + k) * 2).add 0).succ 0 :: x) []))) E).isSome) == true && true) && (decide (0 ≤ Int.ofNat i) && decide (Int.ofNat i < Int.ofNat ln))) && ((!(!(findC (CK.ints 2) (CV.is ((fun x => al.getD (0 + (0 + k) * 2 + 0) 0 :: x) ((fun x => al.getD ((0 + (0 + k) * 2).add 0).succ 0 :: x) []))) E).isSome) == true || (!(findC (CK.ints 2) (CV.is ((fun x => al.getD (0 + (0 + k) * 2 + 0) 0 :: x) ((fun x => al.getD ((0 + (0 + k) * 2).add 0).succ 0 :: x) []))) E).isSome) == true && true && decide (((0 + (0 + i) * 2).add 0).succ.succ ≤ l.length)) && ((!(!(findC (CK.ints 2) (CV.is ((fun x => al.getD (0 + (0 + k) * 2 + 0) 0 :: x) ((fun x => al.getD ((0 + (0 + k) * 2).add 0).succ 0 :: x) []))) E).isSome) == true || true) && ((!(!(findC (CK.ints 2) (CV.is ((fun x => al.getD (0 + (0 + k) * 2 + 0) 0 :: x) ((fun x => al.getD ((0 + (0 + k) * 2).add 0).succ 0 :: x) []))) E).isSome) == true || true) && ((!(!(findC (CK.ints 2) (CV.is ((fun x => al.getD (0 + (0 + k) * 2 + 0) 0 :: x) ((fun x => al.getD ((0 + (0 + k) * 2).add 0).succ 0 :: x) []))) E).isSome) == true || (!(findC (CK.ints 2) (CV.is ((fun x => al.getD (0 + (0 + k) * 2 + 0) 0 :: x) ((fun x => al.getD ((0 + (0 + k) * 2).add 0).succ 0 :: x) []))) E).isSome) == true && ((!(findC (CK.ints 2) (CV.is ((fun x => al.getD (0 + (0 + k) * 2 + 0) 0 :: x) ((fun x => al.getD ((0 + (0 + k) * 2).add 0).succ 0 :: x) []))) E).isSome) == true && true) && (decide (0 ≤ Int.ofNat k) && decide (Int.ofNat k < Int.ofNat an))) && ((!(!(findC (CK.ints 2) (CV.is ((fun x => al.getD (0 + (0 + k) * 2 + 0) 0 :: x) ((fun x => al.getD ((0 + (0 + k) * 2).add 0).succ 0 :: x) []))) E).isSome) == true || (!(findC (CK.ints 2) (CV.is ((fun x => al.getD (0 + (0 + k) * 2 + 0) 0 :: x) ((fun x => al.getD ((0 + (0 + k) * 2).add 0).succ 0 :: x) []))) E).isSome) == true && true && decide (((0 + (0 + k) * 2).add 0).succ.succ ≤ al.length)) && ((!(!(findC (CK.ints 2) (CV.is ((fun x => al.getD (0 + (0 + k) * 2 + 0) 0 :: x) ((fun x => al.getD ((0 + (0 + k) * 2).add 0).succ 0 :: x) []))) E).isSome) == true || (!(findC (CK.ints 2) (CV.is ((fun x => al.getD (0 + (0 + k) * 2 + 0) 0 :: x) ((fun x => al.getD ((0 + (0 + k) * 2).add 0).succ 0 :: x) []))) E).isSome) == true && ((!(findC (CK.ints 2) (CV.is ((fun x => al.getD (0 + (0 + k) * 2 + 0) 0 :: x) ((fun x => al.getD ((0 + (0 + k) * 2).add 0).succ 0 :: x) []))) E).isSome) == true && ((!(findC (CK.ints 2) (CV.is ((fun x => al.getD (0 + (0 + k) * 2 + 0) 0 :: x) ((fun x => al.getD ((0 + (0 + k) * 2).add 0).succ 0 :: x) []))) E).isSome) == true && true)) && (decide ((0 + m) * 2 ≤ q.length) && decide (m ≤ 1000000000) && true && true)) && ((bif !(findC (CK.ints 2) (CV.is ((fun x => al.getD (0 + (0 + k) * 2 + 0) 0 :: x) ((fun x => al.getD ((0 + (0 + k) * 2).add 0).succ 0 :: x) []))) E).isSome then (!(findC (CK.ints 2) (CV.is ((fun x => al.getD (0 + (0 + k) * 2 + 0) 0 :: x) ((fun x => al.getD ((0 + (0 + k) * 2).add 0).succ 0 :: x) []))) E).isSome) == true else true) && true && true)))))))))) && true && ((!bif !(findC (CK.ints 2) (CV.is ((fun x => al.getD (0 + (0 + k) * 2 + 0) 0 :: x) ((fun x => al.getD ((0 + (0 + k) * 2).add 0).succ 0 :: x) []))) E).isSome then forF (List.take (m * 2) q) m (l.getD (0 + (0 + i) * 2 + 0) 0) (l.getD ((0 + (0 + i) * 2).add 0).succ 0) (al.getD (0 + (0 + k) * 2 + 0) 0) (al.getD ((0 + (0 + k) * 2).add 0).succ 0) else false) && true)) && (rng64 (Int.ofNat k.succ) && true))) from by kernel_rfl)]
  dsimp only
  simp only [ra_f, rb_f, take_all2 hq, take2 hq]
  unfold tst85 knw at h
  have i1 : ((0 + (0 + k) * 2).add 0).succ.succ ≤ al.length := by simp; omega
  have i2 : ((0 + (0 + i) * 2).add 0).succ.succ ≤ l.length := by simp; omega
  simp only [decide_eq_true i1, decide_eq_true i2]
  generalize (findC (CK.ints 2) (CV.is [ra al k, rb al k]) E).isSome = K at *
  generalize forF q m (ra l i) (rb l i) (ra al k) (rb al k) = Fo at *
  cases K <;> cases Fo <;> first | (simp at h; done) | (simp [bndL, hq, rng64]; omega)
theorem m85t {q : List Int} {m : Nat} {al : List Int} {an : Nat} {E : List (CV × CV)} {l : List Int} {ln i k : Nat} (hq : q.length = m * 2) (hm : m ≤ 1000000000) (ha : al.length = an * 2) (han : an ≤ 100) (hl : l.length = ln * 2) (hln : ln ≤ 100) (hi : i < ln) (hk : k < an) (h : tst85 q m al E l i k = true) (hs : 0 ≤ stp1 E (ra l i) (rb l i) ∧ stp1 E (ra l i) (rb l i) ≤ 1000) : Exec PP T none x85.nt 0 M85 (U85 q m al an E l ln i k) .n (U85 q m al an (upd85 al E l i k) (l.take (ln * 2) ++ [ra al k, rb al k]) (ln + 1) i (k + 1)) := by
  refine exec_orun envc85 false 60 [true, true] [0, 1, 2, 13] (fun _ => rfl) (by kernel_rfl) (by kernel_rfl) (by kernel_rfl) ?_
  rw [(show obOf (orun gc85 false 60 M85 (U85 q m al an E l ln i k) [true, true]) = (decide (Int.ofNat k < Int.ofNat an) && true && (decide (0 ≤ Int.ofNat k) && decide (Int.ofNat k < Int.ofNat an) && (decide (((0 + (0 + k) * 2).add 0).succ.succ ≤ al.length) && true) && ((!(!(findC (CK.ints 2) (CV.is ((fun x => al.getD (0 + (0 + k) * 2 + 0) 0 :: x) ((fun x => al.getD ((0 + (0 + k) * 2).add 0).succ 0 :: x) []))) E).isSome) == true || true) && ((!(!(findC (CK.ints 2) (CV.is ((fun x => al.getD (0 + (0 + k) * 2 + 0) 0 :: x) ((fun x => al.getD ((0 + (0 + k) * 2).add 0).succ 0 :: x) []))) E).isSome) == true || true) && ((!(!(findC (CK.ints 2) (CV.is ((fun x => al.getD (0 + (0 + k) * 2 + 0) 0 :: x) ((fun x => al.getD ((0 + (0 + k) * 2).add 0).succ 0 :: x) []))) E).isSome) == true || true) && ((!(!(findC (CK.ints 2) (CV.is ((fun x => al.getD (0 + (0 + k) * 2 + 0) 0 :: x) ((fun x => al.getD ((0 + (0 + k) * 2).add 0).succ 0 :: x) []))) E).isSome) == true || (!(findC (CK.ints 2) (CV.is ((fun x => al.getD (0 + (0 + k) * 2 + 0) 0 :: x) ((fun x => al.getD ((0 + (0 + k) * 2).add 0).succ 0 :: x) []))) E).isSome) == true && ((!(findC (CK.ints 2) (CV.is ((fun x => al.getD (0 + (0 + k) * 2 + 0) 0 :: x) ((fun x => al.getD ((0 + (0 + k) * 2).add 0).succ 0 :: x) []))) E).isSome) == true && true) && (decide (0 ≤ Int.ofNat i) && decide (Int.ofNat i < Int.ofNat ln))) && ((!(!(findC (CK.ints 2) (CV.is ((fun x => al.getD (0 + (0 + k) * 2 + 0) 0 :: x) ((fun x => al.getD ((0 + (0 + k) * 2).add 0).succ 0 :: x) []))) E).isSome) == true || (!(findC (CK.ints 2) (CV.is ((fun x => al.getD (0 + (0 + k) * 2 + 0) 0 :: x) ((fun x => al.getD ((0 + (0 + k) * 2).add 0).succ 0 :: x) []))) E).isSome) == true && true && decide (((0 + (0 + i) * 2).add 0).succ.succ ≤ l.length)) && ((!(!(findC (CK.ints 2) (CV.is ((fun x => al.getD (0 + (0 + k) * 2 + 0) 0 :: x) ((fun x => al.getD ((0 + (0 + k) * 2).add 0).succ 0 :: x) []))) E).isSome) == true || true) && ((!(!(findC (CK.ints 2) (CV.is ((fun x => al.getD (0 + (0 + k) * 2 + 0) 0 :: x) ((fun x => al.getD ((0 + (0 + k) * 2).add 0).succ 0 :: x) []))) E).isSome) == true || true) && ((!(!(findC (CK.ints 2) (CV.is ((fun x => al.getD (0 + (0 + k) * 2 + 0) 0 :: x) ((fun x => al.getD ((0 + (0 + k) * 2).add 0).succ 0 :: x) []))) E).isSome) == true || (!(findC (CK.ints 2) (CV.is ((fun x => al.getD (0 + (0 + k) * 2 + 0) 0 :: x) ((fun x => al.getD ((0 + (0 + k) * 2).add 0).succ 0 :: x) []))) E).isSome) == true && ((!(findC (CK.ints 2) (CV.is ((fun x => al.getD (0 + (0 + k) * 2 + 0) 0 :: x) ((fun x => al.getD ((0 + (0 + k) * 2).add 0).succ 0 :: x) []))) E).isSome) == true && true) && (decide (0 ≤ Int.ofNat k) && decide (Int.ofNat k < Int.ofNat an))) && ((!(!(findC (CK.ints 2) (CV.is ((fun x => al.getD (0 + (0 + k) * 2 + 0) 0 :: x) ((fun x => al.getD ((0 + (0 + k) * 2).add 0).succ 0 :: x) []))) E).isSome) == true || (!(findC (CK.ints 2) (CV.is ((fun x => al.getD (0 + (0 + k) * 2 + 0) 0 :: x) ((fun x => al.getD ((0 + (0 + k) * 2).add 0).succ 0 :: x) []))) E).isSome) == true && true && decide (((0 + (0 + k) * 2).add 0).succ.succ ≤ al.length)) && ((!(!(findC (CK.ints 2) (CV.is ((fun x => al.getD (0 + (0 + k) * 2 + 0) 0 :: x) ((fun x => al.getD ((0 + (0 + k) * 2).add 0).succ 0 :: x) []))) E).isSome) == true || (!(findC (CK.ints 2) (CV.is ((fun x => al.getD (0 + (0 + k) * 2 + 0) 0 :: x) ((fun x => al.getD ((0 + (0 + k) * 2).add 0).succ 0 :: x) []))) E).isSome) == true && ((!(findC (CK.ints 2) (CV.is ((fun x => al.getD (0 + (0 + k) * 2 + 0) 0 :: x) ((fun x => al.getD ((0 + (0 + k) * 2).add 0).succ 0 :: x) []))) E).isSome) == true && ((!(findC (CK.ints 2) (CV.is ((fun x => al.getD (0 + (0 + k) * 2 + 0) 0 :: x) ((fun x => al.getD ((0 + (0 + k) * 2).add 0).succ 0 :: x) []))) E).isSome) == true && true)) && (decide ((0 + m) * 2 ≤ q.length) && decide (m ≤ 1000000000) && true && true)) && ((bif !(findC (CK.ints 2) (CV.is ((fun x => al.getD (0 + (0 + k) * 2 + 0) 0 :: x) ((fun x => al.getD ((0 + (0 + k) * 2).add 0).succ 0 :: x) []))) E).isSome then (!(findC (CK.ints 2) (CV.is ((fun x => al.getD (0 + (0 + k) * 2 + 0) 0 :: x) ((fun x => al.getD ((0 + (0 + k) * 2).add 0).succ 0 :: x) []))) E).isSome) == true else true) && true && true)))))))))) && true && ((bif !(findC (CK.ints 2) (CV.is ((fun x => al.getD (0 + (0 + k) * 2 + 0) 0 :: x) ((fun x => al.getD ((0 + (0 + k) * 2).add 0).succ 0 :: x) []))) E).isSome then forF (List.take (m * 2) q) m (l.getD (0 + (0 + i) * 2 + 0) 0) (l.getD ((0 + (0 + i) * 2).add 0).succ 0) (al.getD (0 + (0 + k) * 2 + 0) 0) (al.getD ((0 + (0 + k) * 2).add 0).succ 0) else false) && (decide (0 ≤ Int.ofNat k) && decide (Int.ofNat k < Int.ofNat an) && (decide (((0 + (0 + k) * 2).add 0).succ.succ ≤ al.length) && (decide (0 ≤ Int.ofNat i) && decide (Int.ofNat i < Int.ofNat ln) && (decide (((0 + (0 + i) * 2).add 0).succ.succ ≤ l.length) && (rng64 ((match findC (CK.ints 2) (CV.is ((fun x => l.getD (0 + (0 + i) * 2 + 0) 0 :: x) ((fun x => l.getD ((0 + (0 + i) * 2).add 0).succ 0 :: x) []))) E with | some (CV.is (a :: tail)) => a | x => 0) + 1) && true)))) && true && (decide (0 ≤ Int.ofNat k) && decide (Int.ofNat k < Int.ofNat an) && (decide (((0 + (0 + k) * 2).add 0).succ.succ ≤ al.length) && (decide (2 ≤ Nat.succ 1) && decide (ln * 2 ≤ l.length) && decide (ln.succ ≤ 1000000000) && true && true && true)))))) && (rng64 (Int.ofNat k.succ) && true))) from by kernel_rfl)]
  dsimp only
  simp only [ra_f, rb_f, take_all2 hq, take2 hq]
  unfold tst85 knw at h
  have i1 : ((0 + (0 + k) * 2).add 0).succ.succ ≤ al.length := by simp; omega
  have i2 : ((0 + (0 + i) * 2).add 0).succ.succ ≤ l.length := by simp; omega
  simp only [decide_eq_true i1, decide_eq_true i2]
  generalize (findC (CK.ints 2) (CV.is [ra al k, rb al k]) E).isSome = K at *
  generalize forF q m (ra l i) (rb l i) (ra al k) (rb al k) = Fo at *
  unfold stp1 at hs
  generalize findC (CK.ints 2) (CV.is [ra l i, rb l i]) E = R at *
  rcases R with _ | ((_ | ⟨a, r⟩) | b | f) <;> cases K <;> cases Fo <;> first | (simp at h; done) | (simp at hs; simp [bndL, hq, rng64_eq]; omega) | (simp [bndL, hq, rng64_eq]; omega)
end Go.Proofs.Yteekkjfjpoaihaa.Eng
namespace Go.Proofs.Yteekkjfjpoaihaa.Eng
open Go Go.Proofs
theorem nd49 {l : List (Nat × Nat)} (hn : l.Nodup) (hr : ∀ p ∈ l, p.1 < 7 ∧ p.2 < 7) : l.length ≤ 49 :=
  Inv.short (s := (l.map fun p => (keyN p, CV.bl true), flatN l, l.length)) (l := l) ⟨rfl, rfl, by simp [List.map_map, Function.comp_def], hn, hr⟩
/-- what is reached, each with its number of steps -/
abbrev SL := List ((Nat × Nat) × Nat)
def entC (L : SL) : List (CV × CV) := L.map fun z => (keyN z.1, .is [Int.ofNat z.2])
def knwN (L : SL) (p : Nat × Nat) : Bool := L.any fun z => p == z.1
def stpN (L : SL) (p : Nat × Nat) : Nat := match L.find? (fun z => p == z.1) with | some z => z.2 | none => 0
theorem findC_ent (p : Nat × Nat) : ∀ L : SL, findC (.ints 2) (keyN p) (entC L) = (L.find? fun z => p == z.1).map fun z => .is [Int.ofNat z.2]
  | [] => rfl
  | z :: L => by
    show (bif eqC (.ints 2) (keyN p) (keyN z.1) then some (.is [Int.ofNat z.2]) else findC (.ints 2) (keyN p) (entC L)) = _
    rw [eqC_key, findC_ent p L]
    cases h : p == z.1 <;> simp [List.find?_cons, h]
theorem updC_ent (p : Nat × Nat) (v : CV) : ∀ L : SL, knwN L p = false → updC (.ints 2) (keyN p) v (entC L) = entC L ++ [(keyN p, v)]
  | [], _ => rfl
  | z :: L, h => by
    have h' : (p == z.1 || knwN L p) = false := h
    rw [Bool.or_eq_false_iff] at h'
    show (bif eqC (.ints 2) (keyN p) (keyN z.1) then _ else _ :: updC (.ints 2) (keyN p) v (entC L)) = _
    rw [eqC_key, h'.1, cond_false, updC_ent p v L h'.2]
    rfl
theorem knw_ent (L : SL) (p : Nat × Nat) : knw (entC L) (Int.ofNat p.1) (Int.ofNat p.2) = knwN L p := by
  show (findC (.ints 2) (keyN p) (entC L)).isSome = _
  rw [findC_ent, Option.isSome_map]
  unfold knwN
  induction L with
  | nil => rfl
  | cons z L ih => cases hb : p == z.1 <;> simp [List.find?_cons, hb, ih]
theorem stp_ent (L : SL) (p : Nat × Nat) : stp1 (entC L) (Int.ofNat p.1) (Int.ofNat p.2) = Int.ofNat (stpN L p) := by
  show (match findC (.ints 2) (keyN p) (entC L) with | some (.is (a :: _)) => a | _ => 0) = _
  rw [findC_ent]
  unfold stpN
  cases L.find? fun z => p == z.1 <;> rfl
theorem rab_flatN {l : List (Nat × Nat)} {i : Nat} (hi : i < l.length) : ra (flatN l) i = Int.ofNat (l.getD i (0, 0)).1 ∧ rb (flatN l) i = Int.ofNat (l.getD i (0, 0)).2 := flatN_at hi
def keysL (L : SL) : List (Nat × Nat) := L.map fun z => z.1
def fcN (q : List Int) (m : Nat) (z y : Nat × Nat) : Bool := forF q m (Int.ofNat z.1) (Int.ofNat z.2) (Int.ofNat y.1) (Int.ofNat y.2)
def cstep (q : List Int) (m : Nat) (A : List (Nat × Nat)) (L : SL) (i k : Nat) : SL :=
  bif !(knwN L (A.getD k (0, 0))) && fcN q m ((keysL L).getD i (0, 0)) (A.getD k (0, 0)) then L ++ [(A.getD k (0, 0), stpN L ((keysL L).getD i (0, 0)) + 1)] else L
def crow (q : List Int) (m : Nat) (A : List (Nat × Nat)) (L : SL) (i : Nat) : Nat → SL
  | 0 => L
  | k + 1 => cstep q m A (crow q m A L i k) i k
def cgo (q : List Int) (m : Nat) (A : List (Nat × Nat)) : Nat → Nat → SL → SL
  | 0, _, L => L
  | f + 1, i, L => if i < L.length then cgo q m A f (i + 1) (crow q m A L i A.length) else L
structure CI (L : SL) : Prop where
  nd : (keysL L).Nodup
  rng : ∀ p ∈ keysL L, p.1 < 7 ∧ p.2 < 7
  st : ∀ z ∈ L, z.2 ≤ L.length
theorem CI.short {L : SL} (h : CI L) : L.length ≤ 49 := by
  have := nd49 h.nd h.rng
  simpa [keysL] using this
theorem stpN_le {L : SL} (h : CI L) (p : Nat × Nat) : stpN L p ≤ L.length := by
  unfold stpN
  cases hf : L.find? fun z => p == z.1 with
  | none => simp
  | some z => exact h.st z (List.mem_of_find?_eq_some hf)
theorem CI.step {q : List Int} {m : Nat} {A : List (Nat × Nat)} (hA : ∀ p ∈ A, p.1 < 7 ∧ p.2 < 7) {L : SL} (h : CI L) {i k : Nat} (hk : k < A.length) : CI (cstep q m A L i k) := by
  unfold cstep
  cases hc : (!(knwN L (A.getD k (0, 0))) && fcN q m ((keysL L).getD i (0, 0)) (A.getD k (0, 0))) with
  | false => exact h
  | true =>
    rw [cond_true]
    simp only [Bool.and_eq_true, Bool.not_eq_true'] at hc
    have hn : A.getD k (0, 0) ∉ keysL L := fun hm => by
      obtain ⟨z, hz, e⟩ := List.mem_map.1 hm
      have : knwN L (A.getD k (0, 0)) = true := List.any_eq_true.2 ⟨z, hz, by rw [e]; simp⟩
      rw [hc.1] at this
      cases this
    refine ⟨?_, fun p hp => ?_, fun z hz => ?_⟩
    · rw [show keysL (L ++ [(A.getD k (0, 0), stpN L ((keysL L).getD i (0, 0)) + 1)]) = keysL L ++ [A.getD k (0, 0)] by simp [keysL]]
      rw [List.nodup_append]
      refine ⟨h.nd, by simp, fun a ha b hb => ?_⟩
      rw [List.mem_singleton] at hb
      subst hb
      exact fun e => hn (e ▸ ha)
    · rw [show keysL (L ++ [(A.getD k (0, 0), stpN L ((keysL L).getD i (0, 0)) + 1)]) = keysL L ++ [A.getD k (0, 0)] by simp [keysL]] at hp
      rcases List.mem_append.1 hp with hp | hp
      · exact h.rng p hp
      · rw [List.mem_singleton] at hp
        subst hp
        exact hA _ (by simp [hk])
    · rw [List.length_append]
      rcases List.mem_append.1 hz with hz | hz
      · have := h.st z hz
        simp
        omega
      · rw [List.mem_singleton] at hz
        subst hz
        have := stpN_le h ((keysL L).getD i (0, 0))
        show stpN L ((keysL L).getD i (0, 0)) + 1 ≤ L.length + 1
        omega
theorem CI.row {q : List Int} {m : Nat} {A : List (Nat × Nat)} (hA : ∀ p ∈ A, p.1 < 7 ∧ p.2 < 7) {L : SL} (h : CI L) {i : Nat} : ∀ k, k ≤ A.length → CI (crow q m A L i k)
  | 0, _ => h
  | k + 1, hk => (CI.row hA h k (by omega)).step hA (by omega)
theorem cstep_pre {q : List Int} {m : Nat} {A : List (Nat × Nat)} (L : SL) (i k : Nat) : L <+: cstep q m A L i k := by
  unfold cstep
  cases !(knwN L (A.getD k (0, 0))) && fcN q m ((keysL L).getD i (0, 0)) (A.getD k (0, 0))
  · exact List.prefix_refl _
  · exact List.prefix_append _ _
theorem crow_pre {q : List Int} {m : Nat} {A : List (Nat × Nat)} (L : SL) (i : Nat) : ∀ k, L <+: crow q m A L i k
  | 0 => List.prefix_refl _
  | k + 1 => (crow_pre L i k).trans (cstep_pre _ i k)
theorem cgo_pre {q : List Int} {m : Nat} {A : List (Nat × Nat)} : ∀ (f i : Nat) (L : SL), L <+: cgo q m A f i L
  | 0, _, L => List.prefix_refl _
  | f + 1, i, L => by
    unfold cgo
    split
    · exact (crow_pre L i A.length).trans (cgo_pre f (i + 1) _)
    · exact List.prefix_refl _
theorem CI.go {q : List Int} {m : Nat} {A : List (Nat × Nat)} (hA : ∀ p ∈ A, p.1 < 7 ∧ p.2 < 7) : ∀ (f i : Nat) {L : SL}, CI L → CI (cgo q m A f i L)
  | 0, _, L, h => h
  | f + 1, i, L, h => by
    unfold cgo
    split
    · exact CI.go hA f (i + 1) (h.row hA A.length (Nat.le_refl _))
    · exact h
abbrev SC (q : List Int) (m : Nat) (A : List (Nat × Nat)) (L : SL) (i : Nat) : St := S85 q m (flatN A) A.length (entC L) (flatN (keysL L)) L.length i
abbrev UC (q : List Int) (m : Nat) (A : List (Nat × Nat)) (L : SL) (i k : Nat) : St := U85 q m (flatN A) A.length (entC L) (flatN (keysL L)) L.length i k
theorem m85 {q : List Int} {m : Nat} {A : List (Nat × Nat)} {L : SL} {i k : Nat} (hq : q.length = m * 2) (hm : m ≤ 1000000000) (hAl : A.length ≤ 49) (h : CI L) (hi : i < L.length) (hk : k < A.length) : Exec PP T none x85.nt 0 M85 (UC q m A L i k) .n (UC q m A (cstep q m A L i k) i (k + 1)) := by
  have hkl : (keysL L).length = L.length := by simp [keysL]
  obtain ⟨e1, e2⟩ := rab_flatN hk
  obtain ⟨e3, e4⟩ := rab_flatN (l := keysL L) (i := i) (by omega)
  have hl : (flatN (keysL L)).length = L.length * 2 := by rw [flatN_len, hkl]
  have ht : tst85 q m (flatN A) (entC L) (flatN (keysL L)) i k = (!(knwN L (A.getD k (0, 0))) && fcN q m ((keysL L).getD i (0, 0)) (A.getD k (0, 0))) := by
    unfold tst85 fcN
    rw [e1, e2, e3, e4, knw_ent]
    cases knwN L (A.getD k (0, 0)) <;> rfl
  unfold cstep
  cases hc : (!(knwN L (A.getD k (0, 0))) && fcN q m ((keysL L).getD i (0, 0)) (A.getD k (0, 0))) with
  | false =>
    rw [hc] at ht
    exact m85f hq hm (flatN_len A) (by omega) hl hi hk ht
  | true =>
    rw [hc] at ht
    rw [cond_true]
    simp only [Bool.and_eq_true, Bool.not_eq_true'] at hc
    have hs := stpN_le h ((keysL L).getD i (0, 0))
    have hsh := h.short
    have := m85t hq hm (flatN_len A) (by omega) hl (by omega) hi hk ht (by rw [e3, e4, stp_ent]; exact ⟨Int.natCast_nonneg _, by
      have h9 : stpN L ((keysL L).getD i (0, 0)) ≤ 1000 := by omega
      exact Int.ofNat_le.2 h9⟩)
    refine exec_eq this ?_
    have k1 : upd85 (flatN A) (entC L) (flatN (keysL L)) i k = entC (L ++ [(A.getD k (0, 0), stpN L ((keysL L).getD i (0, 0)) + 1)]) := by
      unfold upd85
      rw [e1, e2, e3, e4, stp_ent]
      have := updC_ent (A.getD k (0, 0)) (.is [Int.ofNat (stpN L ((keysL L).getD i (0, 0))) + 1]) L hc.1
      refine Eq.trans this ?_
      simp [entC]
    have k2 : (flatN (keysL L)).take (L.length * 2) ++ [ra (flatN A) k, rb (flatN A) k] = flatN (keysL (L ++ [(A.getD k (0, 0), stpN L ((keysL L).getD i (0, 0)) + 1)])) := by
      rw [e1, e2, ← hl, List.take_length]
      simp [flatN, keysL, List.flatMap_append]
    unfold UC
    rw [k1, k2, List.length_append]
    rfl
theorem m85x {q : List Int} {m : Nat} {al : List Int} {an : Nat} {E : List (CV × CV)} {l : List Int} {ln i : Nat}  : Exec PP T none x85.nt 0 M85 (U85 q m al an E l ln i an) (.x 2) (U85 q m al an E l ln i an) := by
  refine exec_orun envc85 false 60 [false] [0, 1, 2, 3] (fun _ => rfl) (by kernel_rfl) (by kernel_rfl) (by kernel_rfl) ?_
  rw [(show obOf (orun gc85 false 60 M85 (U85 q m al an E l ln i an) [false]) = (!decide (Int.ofNat an < Int.ofNat an) && true) from by kernel_rfl)]
  all_goals (first | rfl | (simp; done) | (simp; omega) | (simp [rng64]; done) | (simp [rng64]; omega) | (simp [rng64_eq]; omega))
theorem l85a {q : List Int} {m : Nat} {al : List Int} {an : Nat} {E : List (CV × CV)} {l : List Int} {ln i : Nat} (h : i < ln) : Exec PP T none x85.nt 0 L85.a (S85 q m al an E l ln i) .n (S85 q m al an E l ln i) := by
  refine exec_orun env0 false 60 [true] [0, 1, 2, 3] (fun _ => rfl) (by kernel_rfl) (by kernel_rfl) (by kernel_rfl) ?_
  rw [(show obOf (orun g0 false 60 L85.a (S85 q m al an E l ln i) [true]) = (decide (Int.ofNat i < Int.ofNat ln) && true) from by kernel_rfl)]
  all_goals (first | rfl | (simp; done) | (simp; omega) | (simp [rng64]; done) | (simp [rng64]; omega) | (simp [rng64_eq]; omega))
theorem l85x {q : List Int} {m : Nat} {al : List Int} {an : Nat} {E : List (CV × CV)} {l : List Int} {ln i : Nat} (h : ¬ i < ln) : Exec PP T none x85.nt 0 L85.a (S85 q m al an E l ln i) (.x 0) (mkSt [(8, lsS 0 an), (9, ⟨true, .av (.s (.mp 1))⟩)] [⟨false, .ivec 38 .i64 2 al⟩, ⟨false, .map (.ints 2) .int1 E⟩] 2 []) := by
  refine exec_orun env0 false 60 [false] [1, 2] (fun _ => rfl) (by kernel_rfl) (by kernel_rfl) (by kernel_rfl) ?_
  rw [(show obOf (orun g0 false 60 L85.a (S85 q m al an E l ln i) [false]) = (!decide (Int.ofNat i < Int.ofNat ln) && true) from by kernel_rfl)]
  all_goals (first | rfl | (simp; done) | (simp; omega) | (simp [rng64]; done) | (simp [rng64]; omega) | (simp [rng64_eq]; omega))
theorem l85c {q : List Int} {m : Nat} {al : List Int} {an : Nat} {E : List (CV × CV)} {l : List Int} {ln i : Nat}  : Exec PP T none x85.nt 0 L85.b.a.i.a (S85 q m al an E l ln i) .n (U85 q m al an E l ln i 0) := by
  refine exec_orun env0 false 60 [] [0, 1, 2, 3] (fun _ => rfl) (by kernel_rfl) (by kernel_rfl) (by kernel_rfl) (by kernel_rfl)
theorem l85e {q : List Int} {m : Nat} {al : List Int} {an : Nat} {E : List (CV × CV)} {l : List Int} {ln i k : Nat} (h : i < 100) : Exec PP T none x85.nt 0 L85.b.b (U85 q m al an E l ln i k) .n (S85 q m al an E l ln (i + 1)) := by
  refine exec_orun env0 false 60 [] [0, 1, 2, 3] (fun _ => rfl) (by kernel_rfl) (by kernel_rfl) (by kernel_rfl) ?_
  rw [(show obOf (orun g0 false 60 L85.b.b (U85 q m al an E l ln i k) []) = (rng64 (Int.ofNat i.succ) && true) from by kernel_rfl)]
  all_goals (first | rfl | (simp; done) | (simp; omega) | (simp [rng64]; done) | (simp [rng64]; omega) | (simp [rng64_eq]; omega))
theorem l85 {q : List Int} {m : Nat} {A : List (Nat × Nat)} {L : SL} {i : Nat} (hq : q.length = m * 2) (hm : m ≤ 1000000000) (hAl : A.length ≤ 49) (hA : ∀ p ∈ A, p.1 < 7 ∧ p.2 < 7) (h : CI L) (hi : i < L.length) : Exec PP T none x85.nt 0 L85 (SC q m A L i) .n (SC q m A (crow q m A L i A.length) (i + 1)) := by
  have hsh := h.short
  refine exec_seq (x := L85.a) (y := L85.b) (l85a hi) (exec_seq (x := L85.b.a) (y := L85.b.b) (exec_block (id := 1) (x := L85.b.a.i) (e := .n) (exec_seq (x := L85.b.a.i.a) (y := L85.b.a.i.b) l85c (exec_block (id := 2) (x := .loop M85) (e := .x 2) (S1 := UC q m A (crow q m A L i A.length) i A.length) ?_))) (l85e (by omega)))
  exact exec_loop_up (fun k => UC q m A (crow q m A L i k) i k) A.length (fun k hk => m85 hq hm hAl (h.row hA k (by omega)) (by
    have := (crow_pre (q := q) (m := m) (A := A) L i k).length_le
    omega) hk) m85x (by simp) 0 (by omega)
abbrev EC (A : List (Nat × Nat)) (L : SL) : St := mkSt [(8, lsS 0 A.length), (9, ⟨true, .av (.s (.mp 1))⟩)] [⟨false, .ivec 38 .i64 2 (flatN A)⟩, ⟨false, .map (.ints 2) .int1 (entC L)⟩] 2 []
theorem loop85 {q : List Int} {m : Nat} {A : List (Nat × Nat)} (hq : q.length = m * 2) (hm : m ≤ 1000000000) (hAl : A.length ≤ 49) (hA : ∀ p ∈ A, p.1 < 7 ∧ p.2 < 7) : ∀ (f i : Nat) (L : SL), CI L → i ≤ L.length → 50 ≤ f + i → ∃ j, LoopX (Exec PP T none x85.nt 0 L85) j (SC q m A L i) (.x 0) (EC A (cgo q m A f i L))
  | 0, i, L, h, hi, hf => absurd h.short (by omega)
  | f + 1, i, L, h, hi, hf => by
    unfold cgo
    split
    · rename_i hlt
      obtain ⟨j, hj⟩ := loop85 hq hm hAl hA f (i + 1) (crow q m A L i A.length) (h.row hA A.length (Nat.le_refl _)) (by
        have := (crow_pre (q := q) (m := m) (A := A) L i A.length).length_le
        omega) (by omega)
      exact ⟨j + 1, .step (l85 hq hm hAl hA h hlt) hj⟩
    · rename_i hlt
      exact ⟨0, .done (exec_seq_x (x := L85.a) (y := L85.b) (l85x hlt) (by simp)) (by simp)⟩
end Go.Proofs.Yteekkjfjpoaihaa.Eng
namespace Go.Proofs.Yteekkjfjpoaihaa.Eng
open Go Go.Proofs
def N85 : XC := x85.body.b.b.b.b.b.b.b.a.b.i.i
abbrev T85 (al : List Int) (an : Nat) (E : List (CV × CV)) (o : List Int) (on : Nat) (fr : List Int) (fn k : Nat) : St := mkSt [(8, lsS 0 an), (9, ⟨true, .av (.s (.mp 1))⟩), (15, lsS 2 on), (16, s1S 3 fn), (17, iS k)] [⟨false, .ivec 38 .i64 2 al⟩, ⟨false, .map (.ints 2) .int1 E⟩, ⟨false, .ivec 38 .i64 2 o⟩, ⟨false, .ivec 3 .i64 1 fr⟩] 4 []
theorem n85f {al : List Int} {an : Nat} {E : List (CV × CV)} {o : List Int} {on : Nat} {fr : List Int} {fn k : Nat} (ha : al.length = an * 2) (han : an ≤ 100) (hk : k < an) (h : knw E (ra al k) (rb al k) = false) : Exec PP T none x85.nt 0 N85 (T85 al an E o on fr fn k) .n (T85 al an E o on fr fn (k + 1)) := by
  refine exec_orun env0 false 60 [true, false] [0, 1, 2, 3] (fun _ => rfl) (by kernel_rfl) (by kernel_rfl) (by kernel_rfl) ?_
  rw [(show obOf (orun g0 false 60 N85 (T85 al an E o on fr fn k) [true, false]) = (decide (Int.ofNat k < Int.ofNat an) && true && (decide (0 ≤ Int.ofNat k) && decide (Int.ofNat k < Int.ofNat an) && (decide (((0 + (0 + k) * 2).add 0).succ.succ ≤ al.length) && true) && (!(findC (CK.ints 2) (CV.is ((fun x => al.getD (0 + (0 + k) * 2 + 0) 0 :: x) ((fun x => al.getD ((0 + (0 + k) * 2).add 0).succ 0 :: x) []))) E).isSome && true) && (rng64 (Int.ofNat k.succ) && true))) from by kernel_rfl)]
  dsimp only
  simp only [ra_f, rb_f]
  unfold knw at h
  rw [h]
  have i1 : ((0 + (0 + k) * 2).add 0).succ.succ ≤ al.length := by simp; omega
  simp only [decide_eq_true i1]
  simp [rng64]
  omega
theorem n85t {al : List Int} {an : Nat} {E : List (CV × CV)} {o : List Int} {on : Nat} {fr : List Int} {fn k : Nat} (ha : al.length = an * 2) (han : an ≤ 100) (hk : k < an) (ho : o.length = on * 2) (hf : fr.length = fn * 1) (hon : on ≤ 100) (hfn : fn ≤ 100) (h : knw E (ra al k) (rb al k) = true) : Exec PP T none x85.nt 0 N85 (T85 al an E o on fr fn k) .n (T85 al an E (o.take (on * 2) ++ [ra al k, rb al k]) (on + 1) (fr.take (fn * 1) ++ [stp1 E (ra al k) (rb al k)]) (fn + 1) (k + 1)) := by
  refine exec_orun env0 false 60 [true, true] [0, 1, 5, 7] (fun _ => rfl) (by kernel_rfl) (by kernel_rfl) (by kernel_rfl) ?_
  rw [(show obOf (orun g0 false 60 N85 (T85 al an E o on fr fn k) [true, true]) = (decide (Int.ofNat k < Int.ofNat an) && true && (decide (0 ≤ Int.ofNat k) && decide (Int.ofNat k < Int.ofNat an) && (decide (((0 + (0 + k) * 2).add 0).succ.succ ≤ al.length) && true) && ((findC (CK.ints 2) (CV.is ((fun x => al.getD (0 + (0 + k) * 2 + 0) 0 :: x) ((fun x => al.getD ((0 + (0 + k) * 2).add 0).succ 0 :: x) []))) E).isSome && (decide (0 ≤ Int.ofNat k) && decide (Int.ofNat k < Int.ofNat an) && (decide (((0 + (0 + k) * 2).add 0).succ.succ ≤ al.length) && (decide (2 ≤ Nat.succ 1) && decide (on * 2 ≤ o.length) && decide (on.succ ≤ 1000000000) && true && true && true)) && (decide (1 ≤ 1) && decide (fn * 1 ≤ fr.length) && decide (fn.succ ≤ 1000000000) && true && true && true))) && (rng64 (Int.ofNat k.succ) && true))) from by kernel_rfl)]
  dsimp only
  simp only [ra_f, rb_f]
  unfold knw at h
  rw [h]
  have i1 : ((0 + (0 + k) * 2).add 0).succ.succ ≤ al.length := by simp; omega
  simp only [decide_eq_true i1]
  simp [rng64, bndL]
  omega
theorem n85x {al : List Int} {an : Nat} {E : List (CV × CV)} {o : List Int} {on : Nat} {fr : List Int} {fn : Nat}  : Exec PP T none x85.nt 0 N85 (T85 al an E o on fr fn an) (.x 4) (T85 al an E o on fr fn an) := by
  refine exec_orun env0 false 60 [false] [0, 1, 2, 3] (fun _ => rfl) (by kernel_rfl) (by kernel_rfl) (by kernel_rfl) ?_
  rw [(show obOf (orun g0 false 60 N85 (T85 al an E o on fr fn an) [false]) = (!decide (Int.ofNat an < Int.ofNat an) && true) from by kernel_rfl)]
  all_goals (first | rfl | (simp; done) | (simp; omega) | (simp [rng64]; done) | (simp [rng64]; omega) | (simp [rng64_eq]; omega))
abbrev R0 (al : List Int) (an : Nat) (E : List (CV × CV)) : St := mkSt [(8, lsS 0 an), (9, ⟨true, .av (.s (.mp 1))⟩)] [⟨false, .ivec 38 .i64 2 al⟩, ⟨false, .map (.ints 2) .int1 E⟩] 2 []
abbrev R1 (al : List Int) (an : Nat) (E : List (CV × CV)) : St := mkSt [(15, lsS 2 0), (8, lsS 0 an), (9, ⟨true, .av (.s (.mp 1))⟩)] [⟨false, .ivec 38 .i64 2 al⟩, ⟨false, .map (.ints 2) .int1 E⟩, ⟨false, .ivec 38 .i64 2 []⟩] 3 []
abbrev R2 (al : List Int) (an : Nat) (E : List (CV × CV)) : St := mkSt [(16, s1S 3 0), (15, lsS 2 0), (8, lsS 0 an), (9, ⟨true, .av (.s (.mp 1))⟩)] [⟨false, .ivec 38 .i64 2 al⟩, ⟨false, .map (.ints 2) .int1 E⟩, ⟨false, .ivec 38 .i64 2 []⟩, ⟨false, .ivec 3 .i64 1 []⟩] 4 []
theorem f85q {al : List Int} {an : Nat} {E : List (CV × CV)}  : Exec PP T none x85.nt 0 x85.body.b.b.b.b.b.a (R0 al an E) .n (mkSt [(8, lsS 0 an), (9, ⟨true, .av (.s (.mp 1))⟩), (15, ⟨true, .av (.s .nils)⟩)] [⟨false, .ivec 38 .i64 2 al⟩, ⟨false, .map (.ints 2) .int1 E⟩] 2 []) := by
  refine exec_orun env0 false 60 [] [0, 1] (fun _ => rfl) (by kernel_rfl) (by kernel_rfl) (by kernel_rfl) (by kernel_rfl)
theorem f85 {al : List Int} {an : Nat} {E : List (CV × CV)} : Exec PP T none x85.nt 0 x85.body.b.b.b.b.b.a (R0 al an E) .n (R1 al an E) := f85q.post (weak_nil 15 38 .i64 2 rfl rfl rfl)
theorem g85q {al : List Int} {an : Nat} {E : List (CV × CV)}  : Exec PP T none x85.nt 0 x85.body.b.b.b.b.b.b.a (R1 al an E) .n (mkSt [(15, lsS 2 0), (8, lsS 0 an), (9, ⟨true, .av (.s (.mp 1))⟩), (16, ⟨true, .av (.s .nils)⟩)] [⟨false, .ivec 38 .i64 2 al⟩, ⟨false, .map (.ints 2) .int1 E⟩, ⟨false, .ivec 38 .i64 2 []⟩] 3 []) := by
  refine exec_orun env0 false 60 [] [0, 1, 2] (fun _ => rfl) (by kernel_rfl) (by kernel_rfl) (by kernel_rfl) (by kernel_rfl)
theorem g85 {al : List Int} {an : Nat} {E : List (CV × CV)} : Exec PP T none x85.nt 0 x85.body.b.b.b.b.b.b.a (R1 al an E) .n (R2 al an E) := g85q.post (weak_nil 16 3 .i64 1 rfl rfl rfl)
theorem h85 {al : List Int} {an : Nat} {E : List (CV × CV)}  : Exec PP T none x85.nt 0 x85.body.b.b.b.b.b.b.b.a.a (R2 al an E) .n (T85 al an E [] 0 [] 0 0) := by
  refine exec_orun env0 false 60 [] [0, 1, 2, 3] (fun _ => rfl) (by kernel_rfl) (by kernel_rfl) (by kernel_rfl) (by kernel_rfl)
theorem i85 {al : List Int} {an : Nat} {E : List (CV × CV)} {o : List Int} {on : Nat} {fr : List Int} {fn k : Nat}  : Exec PP T none x85.nt 0 x85.body.b.b.b.b.b.b.b.b (T85 al an E o on fr fn k) .r (mkSt [(6, lsS 0 on), (7, s1S 1 fn)] [⟨false, .ivec 38 .i64 2 o⟩, ⟨false, .ivec 3 .i64 1 fr⟩] 2 []) := by
  refine exec_orun env0 false 60 [] [2, 3] (fun _ => rfl) (by kernel_rfl) (by kernel_rfl) (by kernel_rfl) (by kernel_rfl)
def outC (A : List (Nat × Nat)) (L : SL) (k : Nat) : List (Nat × Nat) := (A.take k).filter (knwN L)
def farC (A : List (Nat × Nat)) (L : SL) (k : Nat) : List Int := (outC A L k).map fun p => Int.ofNat (stpN L p)
theorem outC_succ {A : List (Nat × Nat)} {L : SL} {k : Nat} (hk : k < A.length) : outC A L (k + 1) = bif knwN L (A.getD k (0, 0)) then outC A L k ++ [A.getD k (0, 0)] else outC A L k := by
  unfold outC
  rw [take_succ hk, List.filter_append]
  cases h : knwN L (A.getD k (0, 0)) <;> simp only [List.filter_cons, List.filter_nil, h, cond_true, cond_false] <;> simp
theorem outC_len (A : List (Nat × Nat)) (L : SL) (k : Nat) : (outC A L k).length ≤ A.length := by
  have h1 := List.length_filter_le (knwN L) (A.take k)
  have h2 := List.length_take_le k A
  unfold outC
  have h3 : (A.take k).length ≤ A.length := by simp; omega
  omega
abbrev TC (A : List (Nat × Nat)) (L : SL) (k : Nat) : St := T85 (flatN A) A.length (entC L) (flatN (outC A L k)) (outC A L k).length (farC A L k) (farC A L k).length k
theorem n85 {A : List (Nat × Nat)} {L : SL} {k : Nat} (hAl : A.length ≤ 49) (hk : k < A.length) : Exec PP T none x85.nt 0 N85 (TC A L k) .n (TC A L (k + 1)) := by
  obtain ⟨e1, e2⟩ := rab_flatN hk
  have hl := outC_len A L k
  have hfl : (farC A L k).length = (outC A L k).length := by simp [farC]
  have hs := outC_succ (L := L) hk
  cases h : knwN L (A.getD k (0, 0)) with
  | false =>
    rw [h, cond_false] at hs
    have hf : farC A L (k + 1) = farC A L k := by unfold farC; rw [hs]
    unfold TC
    rw [hs, hf]
    exact n85f (flatN_len A) (by omega) hk (by rw [e1, e2, knw_ent, h])
  | true =>
    rw [h, cond_true] at hs
    have hf : farC A L (k + 1) = farC A L k ++ [Int.ofNat (stpN L (A.getD k (0, 0)))] := by unfold farC; rw [hs]; simp
    have := n85t (E := entC L) (flatN_len A) (by omega) hk (flatN_len (outC A L k)) (fr := farC A L k) (fn := (farC A L k).length) (by omega) (by omega) (by omega) (by rw [e1, e2, knw_ent, h])
    refine exec_eq this ?_
    rw [e1, e2, stp_ent, ← flatN_len, List.take_length, Nat.mul_one, List.take_length]
    unfold TC
    rw [hs, hf, List.length_append, List.length_append]
    have : flatN (outC A L k ++ [A.getD k (0, 0)]) = flatN (outC A L k) ++ [Int.ofNat (A.getD k (0, 0)).1, Int.ofNat (A.getD k (0, 0)).2] := by simp [flatN, List.flatMap_append]
    rw [this]
    rfl
abbrev Q0 (n : Nat) (q : List Int) (m : Nat) (a b : Nat) : St := mkSt [(0, iS n), (1, lsS 0 m), (5, g1S 1)] [⟨true, .xvec .i64 2 q⟩, ⟨false, .row 38 [.int .i64 (Int.ofNat a), .int .i64 (Int.ofNat b)] 0 ff⟩] 2 []
abbrev Q1 (q : List Int) (m : Nat) (a b : Nat) (al : List Int) (an : Nat) : St := mkSt [(1, lsS 0 m), (5, g1S 1), (8, lsS 2 an)] [⟨true, .xvec .i64 2 q⟩, ⟨false, .row 38 [.int .i64 (Int.ofNat a), .int .i64 (Int.ofNat b)] 0 ff⟩, ⟨false, .ivec 38 .i64 2 al⟩] 3 []
abbrev Q2 (q : List Int) (m : Nat) (a b : Nat) (al : List Int) (an : Nat) : St := mkSt [(1, lsS 0 m), (5, g1S 1), (8, lsS 2 an), (9, ⟨true, .av (.s (.mp 3))⟩)] [⟨true, .xvec .i64 2 q⟩, ⟨false, .row 38 [.int .i64 (Int.ofNat a), .int .i64 (Int.ofNat b)] 0 ff⟩, ⟨false, .ivec 38 .i64 2 al⟩, ⟨false, .map (.ints 2) .int1 [(keyN (a, b), .is [0])]⟩] 4 []
abbrev Q3 (q : List Int) (m : Nat) (a b : Nat) (al : List Int) (an : Nat) : St := mkSt [(1, lsS 0 m), (8, lsS 1 an), (9, ⟨true, .av (.s (.mp 2))⟩), (10, lsS 3 1)] [⟨true, .xvec .i64 2 q⟩, ⟨false, .ivec 38 .i64 2 al⟩, ⟨false, .map (.ints 2) .int1 [(keyN (a, b), .is [0])]⟩, ⟨false, .ivec 38 .i64 2 [Int.ofNat a, Int.ofNat b]⟩] 4 []
theorem a85 {n : Nat} {q : List Int} {m a b : Nat}  : Exec PP T none x85.nt 0 x85.body.a (startSt [.s (.int .i64 (Int.ofNat n)), .s (.sl 0 0 2 m), .pb [.int .i64 (Int.ofNat a), .int .i64 (Int.ofNat b)] 0 ff] [⟨true, .xvec .i64 2 q⟩]) .n (Q0 n q m a b) := by
  refine exec_orun env0 false 60 [] [0, 1] (fun _ => rfl) (by kernel_rfl) (by kernel_rfl) (by kernel_rfl) (by kernel_rfl)
theorem b85 {n : Nat} {q : List Int} {m a b : Nat} (hq : q.length = m * 2) (hm : m ≤ 1000000000) (hn : n ≤ 7) : Exec PP T none x85.nt 0 x85.body.b.a (Q0 n q m a b) .n (Q1 q m a b (flat (listL (gg84 ((q.drop (0 * 2)).take (m * 2)) m) n n)) (listL (gg84 ((q.drop (0 * 2)).take (m * 2)) m) n n).length) := by
  refine exec_orun enva85 false 60 [] [0, 1, 2] (fun _ => rfl) (by kernel_rfl) (by kernel_rfl) (by kernel_rfl) ?_
  rw [(show obOf (orun ga85 false 60 x85.body.b.a (Q0 n q m a b) []) = (decide ((0 + m) * 2 ≤ q.length) && decide (m ≤ 1000000000) && true && (decide (0 ≤ Int.ofNat n) && decide (Int.ofNat n ≤ 7)) && true && true && true) from by kernel_rfl)]
  simp [bndL, hq, cRarrows]
  omega
theorem cc85 {q : List Int} {m a b : Nat} {al : List Int} {an : Nat}  : Exec PP T none x85.nt 0 x85.body.b.b.a (Q1 q m a b al an) .n (Q2 q m a b al an) := by
  refine exec_orun env0 false 60 [] [0, 1, 2, 3] (fun _ => rfl) (by kernel_rfl) (by kernel_rfl) (by kernel_rfl) (by kernel_rfl)
theorem d85 {q : List Int} {m a b : Nat} {al : List Int} {an : Nat}  : Exec PP T none x85.nt 0 x85.body.b.b.b.a (Q2 q m a b al an) .n (Q3 q m a b al an) := by
  refine exec_orun env0 false 60 [] [0, 2, 3, 4] (fun _ => rfl) (by kernel_rfl) (by kernel_rfl) (by kernel_rfl) (by kernel_rfl)
theorem e85 {q : List Int} {m a b : Nat} {al : List Int} {an : Nat}  : Exec PP T none x85.nt 0 x85.body.b.b.b.b.a.a (Q3 q m a b al an) .n (S85 q m al an [(keyN (a, b), .is [0])] [Int.ofNat a, Int.ofNat b] 1 0) := by
  refine exec_orun env0 false 60 [] [0, 1, 2, 3] (fun _ => rfl) (by kernel_rfl) (by kernel_rfl) (by kernel_rfl) (by kernel_rfl)
def arrR (q : List Int) (m n : Nat) : List (Nat × Nat) := pairsN (gg84 q m) n n
def clsL (q : List Int) (m n : Nat) (x : Nat × Nat) : SL := cgo q m (arrR q m n) 50 0 [(x, 0)]
theorem arrR_rng {q : List Int} {m n : Nat} (hn : n ≤ 7) : ∀ p ∈ arrR q m n, p.1 < 7 ∧ p.2 < 7 := fun p hp => by
  unfold arrR pairsN at hp
  simp only [List.mem_flatMap, List.mem_map, List.mem_filter, List.mem_range] at hp
  obtain ⟨x, h1, y, ⟨h2, _⟩, rfl⟩ := hp
  simp only
  omega
theorem arrR_len {q : List Int} {m n : Nat} (hn : n ≤ 7) : (arrR q m n).length ≤ 49 := by
  have := listL_len (gg84 q m) n n
  have h2 : n * n ≤ 7 * 7 := Nat.mul_le_mul hn hn
  rw [listL_pairs, List.length_map] at this
  unfold arrR
  omega
theorem CI.start {x : Nat × Nat} (h1 : x.1 < 7) (h2 : x.2 < 7) : CI [(x, 0)] where
  nd := by simp [keysL]
  rng := fun p hp => by
    simp [keysL] at hp
    subst hp
    exact ⟨h1, h2⟩
  st := fun z hz => by
    rw [List.mem_singleton] at hz
    subst hz
    simp
def outR (q : List Int) (m n : Nat) (x : Nat × Nat) : List (Nat × Nat) := outC (arrR q m n) (clsL q m n x) (arrR q m n).length
def farR (q : List Int) (m n : Nat) (x : Nat × Nat) : List Int := farC (arrR q m n) (clsL q m n x) (arrR q m n).length
theorem body85 {n : Nat} {q : List Int} {m a b : Nat} (hq : q.length = m * 2) (hm : m ≤ 1000000000) (hn : n ≤ 7) (ha : a < 7) (hb : b < 7) : Exec PP T none x85.nt 0 x85.body (startSt [.s (.int .i64 (Int.ofNat n)), .s (.sl 0 0 2 m), .pb [.int .i64 (Int.ofNat a), .int .i64 (Int.ofNat b)] 0 ff] [⟨true, .xvec .i64 2 q⟩]) .r
    (mkSt [(6, lsS 0 (outR q m n (a, b)).length), (7, s1S 1 (farR q m n (a, b)).length)] [⟨false, .ivec 38 .i64 2 (flatN (outR q m n (a, b)))⟩, ⟨false, .ivec 3 .i64 1 (farR q m n (a, b))⟩] 2 []) := by
  have hb85 := b85 (a := a) (b := b) hq hm hn
  rw [take_all2 hq] at hb85
  have e1 : flat (listL (gg84 q m) n n) = flatN (arrR q m n) := by rw [listL_pairs, flat_ofN]; rfl
  have e2 : (listL (gg84 q m) n n).length = (arrR q m n).length := by rw [listL_pairs, List.length_map]; rfl
  rw [e1, e2] at hb85
  have hA := arrR_rng (q := q) (m := m) hn
  have hAl := arrR_len (q := q) (m := m) hn
  have hL := CI.start (x := (a, b)) ha hb
  obtain ⟨j, hj⟩ := loop85 hq hm hAl hA 50 0 [((a, b), 0)] hL (by simp) (by omega)
  refine exec_seq (x := x85.body.a) (y := x85.body.b) a85 (exec_seq (x := x85.body.b.a) (y := x85.body.b.b) hb85 (exec_seq (x := x85.body.b.b.a) (y := x85.body.b.b.b) cc85 (exec_seq (x := x85.body.b.b.b.a) (y := x85.body.b.b.b.b) d85 (exec_seq (x := x85.body.b.b.b.b.a) (y := x85.body.b.b.b.b.b) (exec_seq (x := x85.body.b.b.b.b.a.a) (y := .block 0 (.loop L85)) e85 (exec_block (e := .x 0) (exec_loop hj)))
    (exec_seq (x := x85.body.b.b.b.b.b.a) (y := x85.body.b.b.b.b.b.b) f85 (exec_seq (x := x85.body.b.b.b.b.b.b.a) (y := x85.body.b.b.b.b.b.b.b) g85 (exec_seq (x := x85.body.b.b.b.b.b.b.b.a) (y := x85.body.b.b.b.b.b.b.b.b) (exec_seq (x := x85.body.b.b.b.b.b.b.b.a.a) (y := .block 4 (.loop N85)) h85 (exec_block (e := .x 4) (S1 := TC (arrR q m n) (clsL q m n (a, b)) (arrR q m n).length) ?_)) i85)))))))
  exact exec_loop_up (fun k => TC (arrR q m n) (clsL q m n (a, b)) k) (arrR q m n).length (fun k hk => n85 hAl hk) n85x (by simp) 0 (by omega)
def cRClass : List PA → Bool := fun pas => match pas with | [.int n, .sl _ q m, .pr a b] => decide (0 ≤ n) && decide (n ≤ 7) && (decide (0 ≤ a) && decide (a < 7) && (decide (0 ≤ b) && decide (b < 7))) | _ => false
def oRClass : List PA → List (Nat × Nat) := fun pas => match pas with | [.int n, .sl _ q m, .pr a b] => outR q m n.toNat (a.toNat, b.toNat) | _ => []
def fRClass : List PA → List Int := fun pas => match pas with | [.int n, .sl _ q m, .pr a b] => farR q m n.toNat (a.toNat, b.toNat) | _ => []
def vRClass : List PA → TV := fun pas => .tup [.s (.sl 0 0 2 (oRClass pas).length), .s (.sl 1 0 1 (fRClass pas).length)]
def nRClass : List PA → List HO := fun pas => [⟨false, .ivec 38 .i64 2 (flatN (oRClass pas))⟩, ⟨false, .ivec 3 .i64 1 (fRClass pas)⟩]
noncomputable abbrev spRClass : Spec := genS [.int, .sl 2, .pr] cRClass vRClass nRClass
theorem ok85 : SpecOK PP (compC T) 85 spRClass := ok_gen o85 (by kernel_rfl) fun pas hf hc => match pas, hf with
  | [.int n, .sl _ q m, .pr a b], ⟨_, ⟨rfl, hq, hm⟩, _⟩ => by
    unfold cRClass at hc
    simp only [Bool.and_eq_true, decide_eq_true_eq] at hc
    obtain ⟨k, rfl⟩ : ∃ k : Nat, n = Int.ofNat k := ⟨n.toNat, by simp; omega⟩
    obtain ⟨x, rfl⟩ : ∃ k : Nat, a = Int.ofNat k := ⟨a.toNat, by simp; omega⟩
    obtain ⟨y, rfl⟩ : ∃ k : Nat, b = Int.ofNat k := ⟨b.toNat, by simp; omega⟩
    exact ⟨_, 2, .r, body85 hq hm (by have := hc.1.2; simp at this; omega) (by have := hc.2.1.2; simp at this; omega) (by have := hc.2.2.2; simp at this; omega), fun _ => rfl, by kernel_rfl, by kernel_rfl, by kernel_rfl⟩
end Go.Proofs.Yteekkjfjpoaihaa.Eng
namespace Go.Proofs.Yteekkjfjpoaihaa.Eng
open Go Go.Proofs
theorem ra_g (q : List Int) (i : Nat) : q.getD (0 + ((0 + i) * 2 + 0)) 0 = ra q i := rfl
theorem rb_g (q : List Int) (i : Nat) : q.getD (Nat.add 0 ((0 + i) * 2)).succ 0 = rb q i := rfl
noncomputable def Lc36 : List (Nat × Spec) := [(85, spRClass)]
theorem Lc36_ok : SpecsL Lc36 := specsL_cons ok85 (genS_fp) o85 (fun p hp => absurd hp (by simp))
noncomputable abbrev gc36 : Cal → Option Spec := specsΓ Lc36
theorem envc36 : EnvOK PP T gc36 := envL Lc36_ok
noncomputable def La36 : List (Nat × Spec) := [(84, spRarrows)]
theorem La36_ok : SpecsL La36 := specsL_cons ok84 (genS_fp) o84 (fun p hp => absurd hp (by simp))
noncomputable abbrev ga36 : Cal → Option Spec := specsΓ La36
theorem enva36 : EnvOK PP T ga36 := envL La36_ok
def L36 : XC := x36.body.b.b.b.a.b.i.i
def M36 : XC := L36.b.a.i.b.b.i.i
abbrev S36 (n : Nat) (q : List Int) (m : Nat) (al : List Int) (an : Nat) (e : Int) (k : Nat) : St := mkSt [(0, iS n), (1, lsS 0 m), (5, lsS 1 an), (6, iS e), (7, iS k)] [⟨true, .xvec .i64 2 q⟩, ⟨false, .ivec 38 .i64 2 al⟩] 2 []
abbrev V36 (n : Nat) (q : List Int) (m : Nat) (al : List Int) (an : Nat) (e : Int) (k : Nat) (c : List Int) (cn : Nat) (fr : List Int) (fn : Nat) : St := mkSt [(0, iS n), (1, lsS 0 m), (5, lsS 1 an), (6, iS e), (7, iS k), (8, lsS 2 cn), (9, s1S 3 fn)] [⟨true, .xvec .i64 2 q⟩, ⟨false, .ivec 38 .i64 2 al⟩, ⟨false, .ivec 38 .i64 2 c⟩, ⟨false, .ivec 3 .i64 1 fr⟩] 4 []
abbrev U36 (n : Nat) (q : List Int) (m : Nat) (al : List Int) (an : Nat) (e : Int) (k : Nat) (c : List Int) (cn : Nat) (fr : List Int) (fn i : Nat) : St := mkSt [(0, iS n), (1, lsS 0 m), (5, lsS 1 an), (6, iS e), (7, iS k), (8, lsS 2 cn), (9, s1S 3 fn), (10, iS i)] [⟨true, .xvec .i64 2 q⟩, ⟨false, .ivec 38 .i64 2 al⟩, ⟨false, .ivec 38 .i64 2 c⟩, ⟨false, .ivec 3 .i64 1 fr⟩] 4 []
def tst36 (al c fr : List Int) (e : Int) (k i : Nat) : Bool := bif ra c i == rb al k && rb c i == ra al k then (bif e == 0 then true else decide (fr.getD (0 + (0 + i) * 1) 0 + 1 < e)) else false
theorem m36f {n : Nat} {q : List Int} {m : Nat} {al : List Int} {an : Nat} {e : Int} {k : Nat} {c : List Int} {cn : Nat} {fr : List Int} {fn i : Nat} (ha : al.length = an * 2) (hk : k < an) (hc : c.length = cn * 2) (hcn : cn ≤ 100) (hfr : fr.length = fn * 1) (hfn : fn = cn) (hi : i < cn) (hv : 0 ≤ at1 fr i ∧ at1 fr i ≤ 1000) (h : tst36 al c fr e k i = false) : Exec PP T none x36.nt 0 M36 (U36 n q m al an e k c cn fr fn i) .n (U36 n q m al an e k c cn fr fn (i + 1)) := by
  refine exec_orun env0 false 60 [true, false] [0, 1, 2, 3] (fun _ => rfl) (by kernel_rfl) (by kernel_rfl) (by kernel_rfl) ?_
  rw [(show obOf (orun g0 false 60 M36 (U36 n q m al an e k c cn fr fn i) [true, false]) = ((fun b0_ : Bool => (fun b1_ : Bool => decide (Int.ofNat i < Int.ofNat cn) && true && (decide (0 ≤ Int.ofNat i) && decide (Int.ofNat i < Int.ofNat cn) && (decide (((0 + (0 + i) * 2).add 0).succ.succ ≤ c.length) && (decide (0 ≤ Int.ofNat k) && decide (Int.ofNat k < Int.ofNat an) && (decide ((Nat.add 0 ((0 + k) * 2)).succ < al.length) && (decide (0 ≤ Int.ofNat k) && decide (Int.ofNat k < Int.ofNat an) && (decide (0 + ((0 + k) * 2 + 0) < al.length) && ((!(false != b0_) == true || true) && ((!(false != b0_) == true || (false != b0_) == true && true && true) && ((!(false != b0_) == true || (false != b0_) == true && true && true) && ((!b1_ || true) && ((!b1_ || true) && ((!b1_ || (false != b0_) == true && (e == 0) == false && ((false != b0_) == true && (e == 0) == false && true) && (decide (0 ≤ Int.ofNat i) && decide (Int.ofNat i < Int.ofNat fn))) && ((!b1_ || (false != b0_) == true && (e == 0) == false && true && decide (0 + (0 + i) * 1 < fr.length)) && ((!b1_ || (false != b0_) == true && (e == 0) == false && true && rng64 (fr.getD (0 + (0 + i) * 1) 0 + 1)) && ((!b1_ || true) && ((!b1_ || (false != b0_) == true && (e == 0) == false && ((false != b0_) == true && (e == 0) == false && true) && true) && ((!(false != b0_) == true || ((false != b0_) == true && bif e == 0 then true else (false != b0_) == true && (e == 0) == false) && true) && ((bif false != b0_ then (false != b0_) == true else true) && true && true))))))))))))))))) && true && ((!bif false != b0_ then bif e == 0 then true else decide (fr.getD (0 + (0 + i) * 1) 0 + 1 < e) else false) && true) && (rng64 (Int.ofNat i.succ) && true))) ((false != b0_) == true && (e == 0) == false)) ([c.getD (0 + (0 + i) * 2 + 0) 0, c.getD ((0 + (0 + i) * 2).add 0).succ 0] == [al.getD (Nat.add 0 ((0 + k) * 2)).succ 0, al.getD (0 + ((0 + k) * 2 + 0)) 0] && true)) from by kernel_rfl)]
  dsimp only
  try dsimp only
  simp only [ra_f, rb_f, ra_g, rb_g, beq_two]
  unfold tst36 at h
  unfold at1 at hv
  have i1 : ((0 + (0 + i) * 2).add 0).succ.succ ≤ c.length := by simp; omega
  have i2 : (Nat.add 0 ((0 + k) * 2)).succ < al.length := by simp; omega
  have i3 : 0 + ((0 + k) * 2 + 0) < al.length := by omega
  have i4 : 0 + (0 + i) * 1 < fr.length := by omega
  simp only [decide_eq_true i1, decide_eq_true i2, decide_eq_true i3, decide_eq_true i4]
  generalize (ra c i == rb al k && rb c i == ra al k) = K at *
  generalize (e == 0) = Z at *
  by_cases hD : fr.getD (0 + (0 + i) * 1) 0 + 1 < e
  · rw [decide_eq_true hD] at h
    rw [decide_eq_true hD]
    cases K <;> cases Z <;> first | (simp at h; done) | (simp [rng64_eq] at hv ⊢; omega)
  · rw [decide_eq_false hD] at h
    rw [decide_eq_false hD]
    cases K <;> cases Z <;> first | (simp at h; done) | (simp [rng64_eq] at hv ⊢; omega)
theorem m36t {n : Nat} {q : List Int} {m : Nat} {al : List Int} {an : Nat} {e : Int} {k : Nat} {c : List Int} {cn : Nat} {fr : List Int} {fn i : Nat} (ha : al.length = an * 2) (hk : k < an) (hc : c.length = cn * 2) (hcn : cn ≤ 100) (hfr : fr.length = fn * 1) (hfn : fn = cn) (hi : i < cn) (hv : 0 ≤ at1 fr i ∧ at1 fr i ≤ 1000) (h : tst36 al c fr e k i = true) : Exec PP T none x36.nt 0 M36 (U36 n q m al an e k c cn fr fn i) .n (U36 n q m al an (at1 fr i + 1) k c cn fr fn (i + 1)) := by
  refine exec_orun env0 false 60 [true, true] [0, 1, 2, 3] (fun _ => rfl) (by kernel_rfl) (by kernel_rfl) (by kernel_rfl) ?_
  rw [(show obOf (orun g0 false 60 M36 (U36 n q m al an e k c cn fr fn i) [true, true]) = ((fun b0_ : Bool => (fun b1_ : Bool => decide (Int.ofNat i < Int.ofNat cn) && true && (decide (0 ≤ Int.ofNat i) && decide (Int.ofNat i < Int.ofNat cn) && (decide (((0 + (0 + i) * 2).add 0).succ.succ ≤ c.length) && (decide (0 ≤ Int.ofNat k) && decide (Int.ofNat k < Int.ofNat an) && (decide ((Nat.add 0 ((0 + k) * 2)).succ < al.length) && (decide (0 ≤ Int.ofNat k) && decide (Int.ofNat k < Int.ofNat an) && (decide (0 + ((0 + k) * 2 + 0) < al.length) && ((!(false != b0_) == true || true) && ((!(false != b0_) == true || (false != b0_) == true && true && true) && ((!(false != b0_) == true || (false != b0_) == true && true && true) && ((!b1_ || true) && ((!b1_ || true) && ((!b1_ || (false != b0_) == true && (e == 0) == false && ((false != b0_) == true && (e == 0) == false && true) && (decide (0 ≤ Int.ofNat i) && decide (Int.ofNat i < Int.ofNat fn))) && ((!b1_ || (false != b0_) == true && (e == 0) == false && true && decide (0 + (0 + i) * 1 < fr.length)) && ((!b1_ || (false != b0_) == true && (e == 0) == false && true && rng64 (fr.getD (0 + (0 + i) * 1) 0 + 1)) && ((!b1_ || true) && ((!b1_ || (false != b0_) == true && (e == 0) == false && ((false != b0_) == true && (e == 0) == false && true) && true) && ((!(false != b0_) == true || ((false != b0_) == true && bif e == 0 then true else (false != b0_) == true && (e == 0) == false) && true) && ((bif false != b0_ then (false != b0_) == true else true) && true && true))))))))))))))))) && true && ((bif false != b0_ then bif e == 0 then true else decide (fr.getD (0 + (0 + i) * 1) 0 + 1 < e) else false) && (decide (0 ≤ Int.ofNat i) && decide (Int.ofNat i < Int.ofNat fn) && (decide (0 + (0 + i) * 1 < fr.length) && (rng64 (fr.getD (0 + (0 + i) * 1) 0 + 1) && true)))) && (rng64 (Int.ofNat i.succ) && true))) ((false != b0_) == true && (e == 0) == false)) ([c.getD (0 + (0 + i) * 2 + 0) 0, c.getD ((0 + (0 + i) * 2).add 0).succ 0] == [al.getD (Nat.add 0 ((0 + k) * 2)).succ 0, al.getD (0 + ((0 + k) * 2 + 0)) 0] && true)) from by kernel_rfl)]
  dsimp only
  try dsimp only
  simp only [ra_f, rb_f, ra_g, rb_g, beq_two]
  unfold tst36 at h
  unfold at1 at hv
  have i1 : ((0 + (0 + i) * 2).add 0).succ.succ ≤ c.length := by simp; omega
  have i2 : (Nat.add 0 ((0 + k) * 2)).succ < al.length := by simp; omega
  have i3 : 0 + ((0 + k) * 2 + 0) < al.length := by omega
  have i4 : 0 + (0 + i) * 1 < fr.length := by omega
  simp only [decide_eq_true i1, decide_eq_true i2, decide_eq_true i3, decide_eq_true i4]
  generalize (ra c i == rb al k && rb c i == ra al k) = K at *
  generalize (e == 0) = Z at *
  by_cases hD : fr.getD (0 + (0 + i) * 1) 0 + 1 < e
  · rw [decide_eq_true hD] at h
    rw [decide_eq_true hD]
    cases K <;> cases Z <;> first | (simp at h; done) | (simp [rng64_eq] at hv ⊢; omega)
  · rw [decide_eq_false hD] at h
    rw [decide_eq_false hD]
    cases K <;> cases Z <;> first | (simp at h; done) | (simp [rng64_eq] at hv ⊢; omega)
theorem m36x {n : Nat} {q : List Int} {m : Nat} {al : List Int} {an : Nat} {e : Int} {k : Nat} {c : List Int} {cn : Nat} {fr : List Int} {fn : Nat}  : Exec PP T none x36.nt 0 M36 (U36 n q m al an e k c cn fr fn cn) (.x 2) (U36 n q m al an e k c cn fr fn cn) := by
  refine exec_orun env0 false 60 [false] [0, 1, 2, 3] (fun _ => rfl) (by kernel_rfl) (by kernel_rfl) (by kernel_rfl) ?_
  rw [(show obOf (orun g0 false 60 M36 (U36 n q m al an e k c cn fr fn cn) [false]) = (!decide (Int.ofNat cn < Int.ofNat cn) && true) from by kernel_rfl)]
  all_goals (first | rfl | (simp; done) | (simp; omega) | (simp [rng64]; done) | (simp [rng64]; omega) | (simp [rng64_eq]; omega))
abbrev P36 (n : Nat) (q : List Int) (m : Nat) (al : List Int) (k : Nat) : List PA := [.int (Int.ofNat n), .sl 2 q m, .pr (ra al k) (rb al k)]
theorem l36c {n : Nat} {q : List Int} {m : Nat} {al : List Int} {an : Nat} {e : Int} {k : Nat} (hq : q.length = m * 2) (hm : m ≤ 1000000000) (hn : n ≤ 7) (ha : al.length = an * 2) (hk : k < an) (h1 : 0 ≤ ra al k ∧ ra al k < 7) (h2 : 0 ≤ rb al k ∧ rb al k < 7) : Exec PP T none x36.nt 0 L36.b.a.i.a (S36 n q m al an e k) .n (V36 n q m al an e k (flatN (oRClass (P36 n ((q.drop (0 * 2)).take (m * 2)) m al k))) (oRClass (P36 n ((q.drop (0 * 2)).take (m * 2)) m al k)).length (fRClass (P36 n ((q.drop (0 * 2)).take (m * 2)) m al k)) (fRClass (P36 n ((q.drop (0 * 2)).take (m * 2)) m al k)).length) := by
  refine exec_orun envc36 false 60 [] [0, 1, 2, 3] (fun _ => rfl) (by kernel_rfl) (by kernel_rfl) (by kernel_rfl) ?_
  rw [(show obOf (orun gc36 false 60 L36.b.a.i.a (S36 n q m al an e k) []) = (decide (0 ≤ Int.ofNat k) && decide (Int.ofNat k < Int.ofNat an) && (decide (((0 + (0 + k) * 2).add 0).succ.succ ≤ al.length) && (decide ((0 + m) * 2 ≤ q.length) && decide (m ≤ 1000000000) && true && (decide (0 ≤ Int.ofNat n) && decide (Int.ofNat n ≤ 7) && (decide (0 ≤ al.getD (0 + (0 + k) * 2 + 0) 0) && decide (al.getD (0 + (0 + k) * 2 + 0) 0 < 7) && (decide (0 ≤ al.getD ((0 + (0 + k) * 2).add 0).succ 0) && decide (al.getD ((0 + (0 + k) * 2).add 0).succ 0 < 7)))) && true && true && true))) from by kernel_rfl)]
  try dsimp only
  rw [← ra_f] at h1
  rw [← rb_f] at h2
  have i1 : ((0 + (0 + k) * 2).add 0).succ.succ ≤ al.length := by simp; omega
  simp only [decide_eq_true i1, decide_eq_true h1.1, decide_eq_true h1.2, decide_eq_true h2.1, decide_eq_true h2.2]
  simp [hq]
  omega
theorem l36d {n : Nat} {q : List Int} {m : Nat} {al : List Int} {an : Nat} {e : Int} {k : Nat} {c : List Int} {cn : Nat} {fr : List Int} {fn : Nat}  : Exec PP T none x36.nt 0 L36.b.a.i.b.a (V36 n q m al an e k c cn fr fn) .n (U36 n q m al an e k c cn fr fn 0) := by
  refine exec_orun env0 false 60 [] [0, 1, 2, 3] (fun _ => rfl) (by kernel_rfl) (by kernel_rfl) (by kernel_rfl) (by kernel_rfl)
theorem l36a {n : Nat} {q : List Int} {m : Nat} {al : List Int} {an : Nat} {e : Int} {k : Nat} (hk : k < an) : Exec PP T none x36.nt 0 L36.a (S36 n q m al an e k) .n (S36 n q m al an e k) := by
  refine exec_orun env0 false 60 [true] [0, 1] (fun _ => rfl) (by kernel_rfl) (by kernel_rfl) (by kernel_rfl) ?_
  rw [(show obOf (orun g0 false 60 L36.a (S36 n q m al an e k) [true]) = (decide (Int.ofNat k < Int.ofNat an) && true) from by kernel_rfl)]
  all_goals (first | rfl | (simp; done) | (simp; omega) | (simp [rng64]; done) | (simp [rng64]; omega) | (simp [rng64_eq]; omega))
theorem l36x {n : Nat} {q : List Int} {m : Nat} {al : List Int} {an : Nat} {e : Int}  : Exec PP T none x36.nt 0 L36.a (S36 n q m al an e an) (.x 0) (S36 n q m al an e an) := by
  refine exec_orun env0 false 60 [false] [0, 1] (fun _ => rfl) (by kernel_rfl) (by kernel_rfl) (by kernel_rfl) ?_
  rw [(show obOf (orun g0 false 60 L36.a (S36 n q m al an e an) [false]) = (!decide (Int.ofNat an < Int.ofNat an) && true) from by kernel_rfl)]
  all_goals (first | rfl | (simp; done) | (simp; omega) | (simp [rng64]; done) | (simp [rng64]; omega) | (simp [rng64_eq]; omega))
theorem l36e {n : Nat} {q : List Int} {m : Nat} {al : List Int} {an : Nat} {e : Int} {k : Nat} {c : List Int} {cn : Nat} {fr : List Int} {fn i : Nat} (hk : k < 100) : Exec PP T none x36.nt 0 L36.b.b (U36 n q m al an e k c cn fr fn i) .n (S36 n q m al an e (k + 1)) := by
  refine exec_orun env0 false 60 [] [0, 1] (fun _ => rfl) (by kernel_rfl) (by kernel_rfl) (by kernel_rfl) ?_
  rw [(show obOf (orun g0 false 60 L36.b.b (U36 n q m al an e k c cn fr fn i) []) = (rng64 (Int.ofNat k.succ) && true) from by kernel_rfl)]
  all_goals (first | rfl | (simp; done) | (simp; omega) | (simp [rng64]; done) | (simp [rng64]; omega) | (simp [rng64_eq]; omega))
theorem a36 {n : Nat} {q : List Int} {m : Nat}  : Exec PP T none x36.nt 0 x36.body.a (startSt [.s (.int .i64 (Int.ofNat n)), .s (.sl 0 0 2 m)] [⟨true, .xvec .i64 2 q⟩]) .n (mkSt [(0, iS n), (1, lsS 0 m)] [⟨true, .xvec .i64 2 q⟩] 1 []) := by
  refine exec_orun env0 false 60 [] [0] (fun _ => rfl) (by kernel_rfl) (by kernel_rfl) (by kernel_rfl) (by kernel_rfl)
theorem b36 {n : Nat} {q : List Int} {m : Nat} (hq : q.length = m * 2) (hm : m ≤ 1000000000) (hn : n ≤ 7) : Exec PP T none x36.nt 0 x36.body.b.a (mkSt [(0, iS n), (1, lsS 0 m)] [⟨true, .xvec .i64 2 q⟩] 1 []) .n (mkSt [(0, iS n), (1, lsS 0 m), (5, lsS 1 (listL (gg84 ((q.drop (0 * 2)).take (m * 2)) m) n n).length)] [⟨true, .xvec .i64 2 q⟩, ⟨false, .ivec 38 .i64 2 (flat (listL (gg84 ((q.drop (0 * 2)).take (m * 2)) m) n n))⟩] 2 []) := by
  refine exec_orun enva36 false 60 [] [0, 1] (fun _ => rfl) (by kernel_rfl) (by kernel_rfl) (by kernel_rfl) ?_
  rw [(show obOf (orun ga36 false 60 x36.body.b.a (mkSt [(0, iS n), (1, lsS 0 m)] [⟨true, .xvec .i64 2 q⟩] 1 []) []) = (decide ((0 + m) * 2 ≤ q.length) && decide (m ≤ 1000000000) && true && (decide (0 ≤ Int.ofNat n) && decide (Int.ofNat n ≤ 7)) && true && true && true) from by kernel_rfl)]
  simp [bndL, hq, cRarrows]
  omega
theorem cc36 {n : Nat} {q : List Int} {m : Nat} {al : List Int} {an : Nat}  : Exec PP T none x36.nt 0 x36.body.b.b.a (mkSt [(0, iS n), (1, lsS 0 m), (5, lsS 1 an)] [⟨true, .xvec .i64 2 q⟩, ⟨false, .ivec 38 .i64 2 al⟩] 2 []) .n (mkSt [(0, iS n), (1, lsS 0 m), (5, lsS 1 an), (6, iS 0)] [⟨true, .xvec .i64 2 q⟩, ⟨false, .ivec 38 .i64 2 al⟩] 2 []) := by
  refine exec_orun env0 false 60 [] [0, 1] (fun _ => rfl) (by kernel_rfl) (by kernel_rfl) (by kernel_rfl) (by kernel_rfl)
theorem d36 {n : Nat} {q : List Int} {m : Nat} {al : List Int} {an : Nat}  : Exec PP T none x36.nt 0 x36.body.b.b.b.a.a (mkSt [(0, iS n), (1, lsS 0 m), (5, lsS 1 an), (6, iS 0)] [⟨true, .xvec .i64 2 q⟩, ⟨false, .ivec 38 .i64 2 al⟩] 2 []) .n (S36 n q m al an 0 0) := by
  refine exec_orun env0 false 60 [] [0, 1] (fun _ => rfl) (by kernel_rfl) (by kernel_rfl) (by kernel_rfl) (by kernel_rfl)
theorem e36 {n : Nat} {q : List Int} {m : Nat} {al : List Int} {an : Nat} {e : Int}  : Exec PP T none x36.nt 0 x36.body.b.b.b.b (S36 n q m al an e an) .r (RI 4 e) := by
  refine exec_orun env0 false 60 [] [] (fun _ => rfl) (by kernel_rfl) (by kernel_rfl) (by kernel_rfl) (by kernel_rfl)
def clRow (y : Nat × Nat) (C : List (Nat × Nat)) (F : List Int) (e : Int) : Nat → Int
  | 0 => e
  | i + 1 => bif (C.getD i (0, 0) == (y.2, y.1)) && (clRow y C F e i == 0 || decide (F.getD i 0 + 1 < clRow y C F e i)) then F.getD i 0 + 1 else clRow y C F e i
def clAll (q : List Int) (m n : Nat) : Nat → Int
  | 0 => 0
  | k + 1 => clRow ((arrR q m n).getD k (0, 0)) (outR q m n ((arrR q m n).getD k (0, 0))) (farR q m n ((arrR q m n).getD k (0, 0))) (clAll q m n k) (outR q m n ((arrR q m n).getD k (0, 0))).length
theorem farR_bnd {q : List Int} {m n : Nat} {x : Nat × Nat} (hn : n ≤ 7) (h1 : x.1 < 7) (h2 : x.2 < 7) : ∀ v ∈ farR q m n x, 0 ≤ v ∧ v ≤ 1000 := fun v hv => by
  unfold farR farC at hv
  obtain ⟨p, _, rfl⟩ := List.mem_map.1 hv
  have hC := CI.go (q := q) (m := m) (arrR_rng (q := q) (m := m) hn) 50 0 (CI.start h1 h2)
  have k1 := stpN_le hC p
  have k2 := hC.short
  refine ⟨by simp, ?_⟩
  have : stpN (clsL q m n x) p ≤ 1000 := by
    show stpN (cgo q m (arrR q m n) 50 0 [(x, 0)]) p ≤ 1000
    omega
  exact Int.ofNat_le.2 this
theorem farR_len (q : List Int) (m n : Nat) (x : Nat × Nat) : (farR q m n x).length = (outR q m n x).length := by simp [farR, farC, outR]
theorem outR_len {q : List Int} {m n : Nat} {x : Nat × Nat} (hn : n ≤ 7) : (outR q m n x).length ≤ 49 := by
  have h1 := outC_len (arrR q m n) (clsL q m n x) (arrR q m n).length
  have h2 := arrR_len (q := q) (m := m) hn
  unfold outR
  omega
theorem m36 {n : Nat} {q : List Int} {m k i : Nat} {A C : List (Nat × Nat)} {F : List Int} {e : Int} (hk : k < A.length) (hcl : C.length ≤ 49) (hF : F.length = C.length) (hFb : ∀ v ∈ F, 0 ≤ v ∧ v ≤ 1000) (hi : i < C.length) :
    Exec PP T none x36.nt 0 M36 (U36 n q m (flatN A) A.length (clRow (A.getD k (0, 0)) C F e i) k (flatN C) C.length F F.length i) .n (U36 n q m (flatN A) A.length (clRow (A.getD k (0, 0)) C F e (i + 1)) k (flatN C) C.length F F.length (i + 1)) := by
  obtain ⟨e1, e2⟩ := rab_flatN hk
  obtain ⟨e3, e4⟩ := rab_flatN hi
  have hv : at1 F i = F.getD i 0 := at1_eq F i
  have hb : 0 ≤ at1 F i ∧ at1 F i ≤ 1000 := by
    rw [hv]
    have : F.getD i 0 ∈ F := by simp [show i < F.length by omega]
    exact hFb _ this
  have ht : tst36 (flatN A) (flatN C) F (clRow (A.getD k (0, 0)) C F e i) k i = ((C.getD i (0, 0) == ((A.getD k (0, 0)).2, (A.getD k (0, 0)).1)) && (clRow (A.getD k (0, 0)) C F e i == 0 || decide (F.getD i 0 + 1 < clRow (A.getD k (0, 0)) C F e i))) := by
    unfold tst36
    rw [e1, e2, e3, e4, show F.getD (0 + (0 + i) * 1) 0 = F.getD i 0 from hv]
    have : (Int.ofNat (C.getD i (0, 0)).1 == Int.ofNat (A.getD k (0, 0)).2 && Int.ofNat (C.getD i (0, 0)).2 == Int.ofNat (A.getD k (0, 0)).1) = (C.getD i (0, 0) == ((A.getD k (0, 0)).2, (A.getD k (0, 0)).1)) := by
      rw [Bool.eq_iff_iff]
      generalize C.getD i (0, 0) = c
      obtain ⟨c1, c2⟩ := c
      simp
      omega
    rw [this]
    cases (C.getD i (0, 0) == ((A.getD k (0, 0)).2, (A.getD k (0, 0)).1)) <;> cases (clRow (A.getD k (0, 0)) C F e i == 0) <;> rfl
  show Exec _ _ _ _ _ _ _ _ (U36 n q m (flatN A) A.length (bif (C.getD i (0, 0) == ((A.getD k (0, 0)).2, (A.getD k (0, 0)).1)) && (clRow (A.getD k (0, 0)) C F e i == 0 || decide (F.getD i 0 + 1 < clRow (A.getD k (0, 0)) C F e i)) then F.getD i 0 + 1 else clRow (A.getD k (0, 0)) C F e i) k (flatN C) C.length F F.length (i + 1))
  rw [← ht]
  cases hh : tst36 (flatN A) (flatN C) F (clRow (A.getD k (0, 0)) C F e i) k i with
  | false => exact m36f (flatN_len A) hk (flatN_len C) (by omega) (by omega) hF hi hb hh
  | true =>
    rw [cond_true, ← hv]
    exact m36t (flatN_len A) hk (flatN_len C) (by omega) (by omega) hF hi hb hh
abbrev W36 (n : Nat) (q : List Int) (m k : Nat) (e : Int) (i : Nat) : St := U36 n q m (flatN (arrR q m n)) (arrR q m n).length (clRow ((arrR q m n).getD k (0, 0)) (outR q m n ((arrR q m n).getD k (0, 0))) (farR q m n ((arrR q m n).getD k (0, 0))) e i) k (flatN (outR q m n ((arrR q m n).getD k (0, 0)))) (outR q m n ((arrR q m n).getD k (0, 0))).length (farR q m n ((arrR q m n).getD k (0, 0))) (farR q m n ((arrR q m n).getD k (0, 0))).length i
theorem l36 {n : Nat} {q : List Int} {m k : Nat} {e : Int} (hq : q.length = m * 2) (hm : m ≤ 1000000000) (hn : n ≤ 7) (hk : k < (arrR q m n).length) : Exec PP T none x36.nt 0 L36 (S36 n q m (flatN (arrR q m n)) (arrR q m n).length e k) .n
    (S36 n q m (flatN (arrR q m n)) (arrR q m n).length (clRow ((arrR q m n).getD k (0, 0)) (outR q m n ((arrR q m n).getD k (0, 0))) (farR q m n ((arrR q m n).getD k (0, 0))) e (outR q m n ((arrR q m n).getD k (0, 0))).length) (k + 1)) := by
  have hA := arrR_rng (q := q) (m := m) hn
  have hAl := arrR_len (q := q) (m := m) hn
  obtain ⟨e1, e2⟩ := rab_flatN hk
  have hr := hA ((arrR q m n).getD k (0, 0)) (by simp [hk])
  have hcc := l36c (e := e) hq hm hn (flatN_len (arrR q m n)) hk (by rw [e1]; exact rng7 hr.1) (by rw [e2]; exact rng7 hr.2)
  rw [take_all2 hq] at hcc
  have k1 : oRClass (P36 n q m (flatN (arrR q m n)) k) = outR q m n ((arrR q m n).getD k (0, 0)) := by
    unfold P36
    rw [e1, e2]
    rfl
  have k2 : fRClass (P36 n q m (flatN (arrR q m n)) k) = farR q m n ((arrR q m n).getD k (0, 0)) := by
    unfold P36
    rw [e1, e2]
    rfl
  rw [k1, k2] at hcc
  refine exec_seq (x := L36.a) (y := L36.b) (l36a hk) (exec_seq (x := L36.b.a) (y := L36.b.b) (exec_block (id := 1) (x := L36.b.a.i) (e := .n) (exec_seq (x := L36.b.a.i.a) (y := L36.b.a.i.b) hcc (exec_seq (x := L36.b.a.i.b.a) (y := L36.b.a.i.b.b) l36d (exec_block (id := 2) (x := .loop M36) (e := .x 2) (S1 := W36 n q m k e (outR q m n ((arrR q m n).getD k (0, 0))).length) ?_)))) (l36e (by omega)))
  exact exec_loop_up (fun i => W36 n q m k e i) (outR q m n ((arrR q m n).getD k (0, 0))).length
    (fun i hi => m36 hk (outR_len hn) (farR_len q m n _) (farR_bnd hn hr.1 hr.2) hi) m36x (by simp) 0 (by omega)
theorem body36 {n : Nat} {q : List Int} {m : Nat} (hq : q.length = m * 2) (hm : m ≤ 1000000000) (hn : n ≤ 7) : Exec PP T none x36.nt 0 x36.body (startSt [.s (.int .i64 (Int.ofNat n)), .s (.sl 0 0 2 m)] [⟨true, .xvec .i64 2 q⟩]) .r (RI 4 (clAll q m n (arrR q m n).length)) := by
  have hb := b36 hq hm hn
  rw [take_all2 hq] at hb
  have e1 : flat (listL (gg84 q m) n n) = flatN (arrR q m n) := by rw [listL_pairs, flat_ofN]; rfl
  have e2 : (listL (gg84 q m) n n).length = (arrR q m n).length := by rw [listL_pairs, List.length_map]; rfl
  rw [e1, e2] at hb
  refine exec_seq (x := x36.body.a) (y := x36.body.b) a36 (exec_seq (x := x36.body.b.a) (y := x36.body.b.b) hb (exec_seq (x := x36.body.b.b.a) (y := x36.body.b.b.b) cc36 (exec_seq (x := x36.body.b.b.b.a) (y := x36.body.b.b.b.b) (exec_seq (x := x36.body.b.b.b.a.a) (y := .block 0 (.loop L36)) d36 (exec_block (e := .x 0) (S1 := S36 n q m (flatN (arrR q m n)) (arrR q m n).length (clAll q m n (arrR q m n).length) (arrR q m n).length) ?_)) e36)))
  exact exec_loop_up (fun k => S36 n q m (flatN (arrR q m n)) (arrR q m n).length (clAll q m n k) k) (arrR q m n).length (fun k hk => l36 hq hm hn hk) (exec_seq_x (x := L36.a) (y := L36.b) l36x (by simp)) (by simp) 0 (by omega)
def cRClash : List PA → Bool := fun pas => match pas with | [.int n, .sl _ q m] => decide (0 ≤ n) && decide (n ≤ 7) | _ => false
def clashR (q : List Int) (m n : Nat) : Int := clAll q m n (arrR q m n).length
def vRClash : List PA → TV := fun pas => match pas with | [.int n, .sl _ q m] => I (clashR q m n.toNat) | _ => anyT
noncomputable abbrev spRClash : Spec := genS [.int, .sl 2] cRClash vRClash fun _ => []
theorem ok36 : SpecOK PP (compC T) 36 spRClash := ok_gen o36 (by kernel_rfl) fun pas hf hc => match pas, hf with
  | [.int n, .sl _ q m], ⟨_, ⟨rfl, hq, hm⟩, _⟩ => by
    unfold cRClash at hc
    simp only [Bool.and_eq_true, decide_eq_true_eq] at hc
    obtain ⟨k, rfl⟩ : ∃ k : Nat, n = Int.ofNat k := ⟨n.toNat, by simp; omega⟩
    exact ⟨_, 0, .r, body36 hq hm (by have := hc.2; simp at this; omega), fun _ => rfl, by kernel_rfl, by kernel_rfl, by kernel_rfl⟩
end Go.Proofs.Yteekkjfjpoaihaa.Eng
namespace Go.Proofs.Yteekkjfjpoaihaa.Eng
open Go Go.Proofs
def roH (h : HO) : HO := ⟨true, h.o⟩
theorem spec_ro {f : FuncId} {x : XFn} (hx : FunOK PP T f x) {A : List AV} {hs : List HO} {B : Nat} {ts : List (Nat × Slot)} {ex : XE} {nx : Nat} {tv : TV}
    (hcl : hs.all (fun h => h.o.ids.all fun j => Nat.blt j hs.length) = true) (hai : (A.flatMap AV.ids).all (fun j => Nat.blt j hs.length) = true) (hlen : Nat.ble A.length x.nt = true)
    (hrun : Exec PP T none x.nt hs.length x.body (mkSt (slotsOf A) (hs.map roH) B []) ex (mkSt ts (hs.map roH) nx [])) (hex : ex ≠ .n → ex = .r) (hres : resV (mkSt ts (hs.map roH) nx []).sl.get (mkSt ts (hs.map roH) nx []).hp.get x.res = some (true, tv)) (hids : tv.ids = []) :
    SpecOK PP (compC T) f (spAt A (mkSt [] hs B []).hp.get B tv [] []) := by
  have hidx : ∀ (j : Nat) (o : HO), (hs.map roH)[j]? = some o → ∃ h, hs[j]? = some h ∧ o = roH h := fun j o hj => by
    rw [List.getElem?_map] at hj
    cases hh : hs[j]? with
    | none => rw [hh] at hj; cases hj
    | some h => rw [hh] at hj; cases hj; exact ⟨h, rfl, rfl⟩
  have hsome : ∀ j, j < hs.length → ((mkSt (slotsOf A) (hs.map roH) B []).hp.get j).isSome = true := fun j hj => by
    rw [mkSt_hp]
    simp
    omega
  have hclo : ∀ (j : Nat) (o : HO), (hs.map roH)[j]? = some o → ∀ i ∈ o.o.ids, i < hs.length := fun j o hj i hi => by
    obtain ⟨h, h1, rfl⟩ := hidx j o hj
    exact Nat.le_of_ble_eq_true (List.all_eq_true.1 (List.all_eq_true.1 hcl h (List.mem_of_getElem? h1)) i hi)
  have hA : AtOK (mkSt [] hs B []).hp.get (mkSt (slotsOf A) (hs.map roH) B []).hp hs.length B [] [] (hs.map roH) := {
    start := fun j o hj => by
      rw [mkSt_hp] at hj
      rw [mkSt_hp]
      obtain ⟨h, h1, rfl⟩ := hidx j o hj
      exact ⟨h, h1, rfl, fun hro => by cases hro⟩
    keep := hsome
    len := by simp
    new := rfl
    news_eq := by rw [List.drop_eq_nil_of_le (by simp)]; rfl
    upd_eq := fun u hu => by cases hu
    ids := fun j o hj i hi => by
      rw [List.length_map]
      exact hclo j o hj i hi }
  obtain ⟨_, fn, hf, hxf⟩ := hx
  intro ctx m h w args vals base e hH hargs hfr hup hr hvc
  simp only [spAt, Option.some.injEq] at hr
  subst hr
  obtain ⟨rfl, rfl, rfl⟩ := atB_of hvc
  refine callsIn_exec (kp := hs.length) (S := mkSt (slotsOf args) (hs.map roH) base []) (tv := tv) tokP hf hxf (Nat.le_of_ble_eq_true hlen) (fun t s hs' => by
    have := (alGet_slots args 0 t s hs').2
    simpa using this) rfl hrun (by by_cases h : ex = .n; exact .inl h; exact .inr (hex h)) rfl hres (hrel_part hH (fun j o hj i hi => hsome i (hclo j o (by rw [mkSt_hp] at hj; exact hj) i hi)) hA.start) (All2.sub hargs fun j hj => if_pos (hsome j (Nat.le_of_ble_eq_true (List.all_eq_true.1 hai j hj)))) fun v w' m1 hk hv hH1 => ?_
  have e1 : leaveH (mkSt ts (hs.map roH) nx []).hp.get (mkSt ts (hs.map roH) nx []).df = fun j => (hs.map roH)[j]? := by
    funext j
    show (mkSt ts (hs.map roH) nx []).hp.get j = _
    rw [mkSt_hp]
  rw [e1] at hH1
  have hv' : TR (subM m m1 (fun k => hs.length + k) base 0) tv v := by
    have := TR.ren (m' := subM m m1 (fun k => hs.length + k) base 0) (ρ := fun j => j) hv (fun j hj => by rw [hids] at hj; cases hj)
    rw [TV.ren_id (fun j hj => rfl)] at this
    exact this
  exact ⟨v, _, rfl, hv', hA.stp hH hfr (fun id mb hid hm => hk id mb hid (by simp [hA.keep id hid, hm])) hH1⟩
end Go.Proofs.Yteekkjfjpoaihaa.Eng
namespace Go.Proofs.Yteekkjfjpoaihaa.Ori
/-- an arrow forces another one -/
def Gam (E : Nat → Nat → Prop) (x y : Nat × Nat) : Prop := (x.1 = y.1 ∧ ¬ E x.2 y.2) ∨ (x.2 = y.2 ∧ ¬ E x.1 y.1)
/-- what is reached from an arrow -/
inductive Cls (E : Nat → Nat → Prop) (x : Nat × Nat) : Nat × Nat → Prop
  | refl : Cls E x x
  | step {y z : Nat × Nat} : Cls E x y → Gam E y z → E z.1 z.2 → Cls E x z
structure Graph (E : Nat → Nat → Prop) : Prop where
  sym : ∀ {a b}, E a b → E b a
  irr : ∀ a, ¬ E a a
def sw (x : Nat × Nat) : Nat × Nat := (x.2, x.1)
section
variable {E : Nat → Nat → Prop}
theorem Cls.mem {x y : Nat × Nat} (h : Cls E x y) (hx : E x.1 x.2) : E y.1 y.2 := by
  cases h with
  | refl => exact hx
  | step _ _ h => exact h
theorem Gam.symm (hG : Graph E) {x y : Nat × Nat} (h : Gam E x y) : Gam E y x := by
  rcases h with ⟨h1, h2⟩ | ⟨h1, h2⟩
  · exact .inl ⟨h1.symm, fun h => h2 (hG.sym h)⟩
  · exact .inr ⟨h1.symm, fun h => h2 (hG.sym h)⟩
theorem Gam.sw {x y : Nat × Nat} (h : Gam E x y) : Gam E (sw x) (sw y) := by
  rcases h with ⟨h1, h2⟩ | ⟨h1, h2⟩
  · exact .inr ⟨h1, h2⟩
  · exact .inl ⟨h1, h2⟩
theorem Cls.trans {x y z : Nat × Nat} (h : Cls E x y) (k : Cls E y z) : Cls E x z := by
  induction k with
  | refl => exact h
  | step _ g e ih => exact .step ih g e
theorem Cls.symm (hG : Graph E) {x y : Nat × Nat} (hx : E x.1 x.2) (h : Cls E x y) : Cls E y x := by
  induction h with
  | refl => exact .refl
  | step h g _ ih => exact (Cls.step .refl (g.symm hG) (h.mem hx)).trans ih
theorem Cls.sw (hG : Graph E) {x y : Nat × Nat} (h : Cls E x y) : Cls E (sw x) (Ori.sw y) := by
  induction h with
  | refl => exact .refl
  | step _ g e ih => exact .step ih g.sw (hG.sym e)
/-- no class holds an arrow and the same one turned -/
def NoClash (E : Nat → Nat → Prop) : Prop := ∀ x : Nat × Nat, E x.1 x.2 → ¬ Cls E x (sw x)
/-- the triangle's law -/
theorem triangle (hG : Graph E) {a b c : Nat} (hab : E a b) (hac : E a c) (hbc : E b c) (h1 : ¬ Cls E (b, c) (a, c)) (h2 : ¬ Cls E (b, c) (b, a)) {y : Nat × Nat} (hy : Cls E (b, c) y) :
    (E a y.1 ∧ Cls E (a, b) (a, y.1)) ∧ E a y.2 ∧ Cls E (a, c) (a, y.2) := by
  induction hy with
  | refl => exact ⟨⟨hab, .refl⟩, hac, .refl⟩
  | step hy g e ih =>
    rename_i y z
    obtain ⟨⟨i1, i2⟩, i3, i4⟩ := ih
    rcases g with ⟨g1, g2⟩ | ⟨g1, g2⟩
    · have hE : E a z.2 := Classical.byContradiction fun hn => h2 (by
        have s1 : Cls E (b, c) (y.1, a) := (hy.step (z := z) (.inl ⟨g1, g2⟩) e).step (.inl ⟨g1.symm, fun h => hn (hG.sym h)⟩) (hG.sym i1)
        have s2 : Cls E (b, a) (y.1, a) := i2.sw hG
        exact s1.trans (s2.symm hG (hG.sym hab)))
      rw [← g1]
      exact ⟨⟨i1, i2⟩, hE, i4.step (.inl ⟨rfl, g2⟩) hE⟩
    · have hE : E a z.1 := Classical.byContradiction fun hn => h1 (by
        have s1 : Cls E (b, c) (a, y.2) := (hy.step (z := z) (.inr ⟨g1, g2⟩) e).step (.inr ⟨g1.symm, fun h => hn (hG.sym h)⟩) i3
        exact s1.trans (i4.symm hG hac))
      rw [← g1]
      exact ⟨⟨hE, i2.step (.inl ⟨rfl, g2⟩) hE⟩, i3, i4⟩
/-- a class without a clash is transitive -/
theorem cls_trans (hG : Graph E) (hN : NoClash E) {x : Nat × Nat} {a b c : Nat} (hx : E x.1 x.2) (h1 : Cls E x (a, b)) (h2 : Cls E x (b, c)) : Cls E x (a, c) := by
  have hab : E a b := h1.mem hx
  have hbc : E b c := h2.mem hx
  have h12 : Cls E (a, b) (b, c) := (h1.symm hG hx).trans h2
  have hac : E a c := Classical.byContradiction fun hn => hN (b, c) hbc (by
    have s : Cls E (a, b) (c, b) := Cls.step .refl (.inr ⟨rfl, hn⟩) (hG.sym hbc)
    exact (h12.symm hG hab).trans s)
  refine Classical.byContradiction fun hn => ?_
  have := triangle hG hab hac hbc (fun h => hn (h2.trans h)) (fun h => hN (a, b) hab (h12.trans h)) (h12.symm hG hab)
  exact hG.irr a this.1.1
/-- its second part -/
theorem triangle2 (hG : Graph E) {a b c a' : Nat} (hab : E a b) (hac : E a c) (hbc : E b c) (h1 : ¬ Cls E (b, c) (a, c)) (h2 : ¬ Cls E (b, c) (b, a)) (h : Cls E (a, b) (a', b)) : E a' c ∧ Cls E (a, c) (a', c) := by
  have hb' : E a' b := h.mem hab
  have h2' : ¬ Cls E (a, b) (c, b) := fun k => h2 ((k.sw hG).symm hG (hG.sym hab))
  have hac' : E a' c := Classical.byContradiction fun hn => h2' (h.trans (Cls.step .refl (.inr ⟨rfl, hn⟩) (hG.sym hbc)))
  refine ⟨hac', ?_⟩
  -- the apex c over the arrow (a, b), or over (a', b)
  by_cases hB : Cls E (a, b) (a, c)
  · by_cases hD : Cls E (a, b) (a', c)
    · exact (hB.symm hG hab).trans hD
    · have t := triangle hG (a := c) (b := a') (c := b) (hG.sym hac') (hG.sym hbc) hb' (fun k => h2' (h.trans k)) (fun k => hD (h.trans k)) (h.symm hG hab)
      exact (t.1.2.sw hG).symm hG hac'
  · have t := triangle hG (a := c) (b := a) (c := b) (hG.sym hac) (hG.sym hbc) hab h2' hB h
    exact t.1.2.sw hG
/-- the same, the other way round -/
theorem triangle2' (hG : Graph E) {a b c a' : Nat} (hab : E a b) (hac : E a c) (hbc : E b c) (h1 : ¬ Cls E (b, c) (a, c)) (h2 : ¬ Cls E (b, c) (b, a)) (h : Cls E (a, c) (a', c)) : E a' b ∧ Cls E (a, b) (a', b) :=
  triangle2 hG hac hab (hG.sym hbc) (fun k => h2 (k.sw hG)) (fun k => h1 (k.sw hG)) h
/-- where an arrow to b is in the class of an arrow to c: all one class -/
theorem triangle3 (hG : Graph E) {a b c : Nat} (hab : E a b) (hac : E a c) (hbc : E b c) (h2 : ¬ Cls E (b, c) (b, a)) {y : Nat × Nat} (h : Cls E (a, b) y) (hy : y.1 = c ∨ y.2 = c) : Cls E (a, b) (a, c) := by
  refine Classical.byContradiction fun hB => ?_
  have h2' : ¬ Cls E (a, b) (c, b) := fun k => h2 ((k.sw hG).symm hG (hG.sym hab))
  have t := triangle hG (a := c) (b := a) (c := b) (hG.sym hac) (hG.sym hbc) hab h2' hB h
  rcases hy with e | e
  · rw [e] at t; exact hG.irr c t.1.1
  · rw [e] at t; exact hG.irr c t.2.1
/-- what is left without a class -/
def Less (E : Nat → Nat → Prop) (x : Nat × Nat) (a b : Nat) : Prop := E a b ∧ ¬ Cls E x (a, b) ∧ ¬ Cls E x (b, a)
theorem Less.graph (hG : Graph E) (x : Nat × Nat) : Graph (Less E x) := ⟨fun ⟨h1, h2, h3⟩ => ⟨hG.sym h1, h3, h2⟩, fun a h => hG.irr a h.1⟩
theorem Less.cls (hG : Graph E) {x y z : Nat × Nat} (h : Less E x y.1 y.2) (k : Cls E y z) : Less E x z.1 z.2 := by
  have hz := k.mem h.1
  refine ⟨hz, fun c => h.2.1 (c.trans (k.symm hG h.1)), fun c => h.2.2 (c.trans ?_)⟩
  exact (k.symm hG h.1).sw hG
variable {b c : Nat}
/-- the two classes at a node that sees the class -/
def Two (E : Nat → Nat → Prop) (b c p : Nat) (z : Nat × Nat) : Prop := Cls E (p, b) z ∨ Cls E (p, c) z
theorem good_of (hG : Graph E) (hbc : E b c) {p q q' : Nat} (h1 : Less E (b, c) p q) (h2 : Less E (b, c) p q') (hq : Cls E (b, c) (q, q')) :
    (Less E (b, c) p b ∧ Less E (b, c) p c) ∧ Cls E (p, b) (p, q) ∧ Cls E (p, c) (p, q') := by
  have hqq : E q q' := hq.mem hbc
  have t := triangle hG h1.1 h2.1 hqq (fun k => h2.2.1 (hq.trans k)) (fun k => h1.2.2 (hq.trans k)) (hq.symm hG hbc)
  exact ⟨⟨h1.cls hG t.1.2, h2.cls hG t.2.2⟩, t.1.2.symm hG h1.1, t.2.2.symm hG h2.1⟩
/-- a step that is new where the class is gone -/
theorem new_step (hG : Graph E) (hbc : E b c) {x y : Nat × Nat} (hx : Less E (b, c) x.1 x.2) (hy : Less E (b, c) y.1 y.2) (g : Gam (Less E (b, c)) x y) :
    Gam E x y ∨ (∃ p, (Less E (b, c) p b ∧ Less E (b, c) p c) ∧ ((Cls E (p, b) x ∧ Cls E (p, c) y) ∨ (Cls E (p, c) x ∧ Cls E (p, b) y))) ∨
      ∃ p, (Less E (b, c) p b ∧ Less E (b, c) p c) ∧ ((Cls E (p, b) (sw x) ∧ Cls E (p, c) (sw y)) ∨ (Cls E (p, c) (sw x) ∧ Cls E (p, b) (sw y))) := by
  rcases g with ⟨g1, g2⟩ | ⟨g1, g2⟩
  · by_cases hE : E x.2 y.2
    · right; left
      have hc : Cls E (b, c) (x.2, y.2) ∨ Cls E (b, c) (y.2, x.2) := Classical.byContradiction fun hn => g2 ⟨hE, fun h => hn (.inl h), fun h => hn (.inr h)⟩
      obtain ⟨x1, x2⟩ := x
      obtain ⟨y1, y2⟩ := y
      simp only at g1 hc hx hy
      subst g1
      rcases hc with hc | hc
      · obtain ⟨k1, k2, k3⟩ := good_of hG hbc hx hy hc
        exact ⟨x1, k1, .inl ⟨k2, k3⟩⟩
      · obtain ⟨k1, k2, k3⟩ := good_of hG hbc hy hx hc
        exact ⟨x1, k1, .inr ⟨k3, k2⟩⟩
    · exact .inl (.inl ⟨g1, hE⟩)
  · by_cases hE : E x.1 y.1
    · right; right
      have hc : Cls E (b, c) (x.1, y.1) ∨ Cls E (b, c) (y.1, x.1) := Classical.byContradiction fun hn => g2 ⟨hE, fun h => hn (.inl h), fun h => hn (.inr h)⟩
      obtain ⟨x1, x2⟩ := x
      obtain ⟨y1, y2⟩ := y
      simp only at g1 hc hx hy
      subst g1
      have hx' := (Less.graph hG (b, c)).sym hx
      have hy' := (Less.graph hG (b, c)).sym hy
      rcases hc with hc | hc
      · obtain ⟨k1, k2, k3⟩ := good_of hG hbc hx' hy' hc
        exact ⟨x2, k1, .inl ⟨k2, k3⟩⟩
      · obtain ⟨k1, k2, k3⟩ := good_of hG hbc hy' hx' hc
        exact ⟨x2, k1, .inr ⟨k3, k2⟩⟩
    · exact .inl (.inr ⟨g1, hE⟩)
/-- both conditions of the triangle's law -/
theorem cond1 {p : Nat} (h : Less E (b, c) p c) : ¬ Cls E (b, c) (p, c) := h.2.1
theorem cond2 {p : Nat} (h : Less E (b, c) p b) : ¬ Cls E (b, c) (b, p) := h.2.2
theorem cond2' (hG : Graph E) (hbc : E b c) {p : Nat} (h : Less E (b, c) p c) : ¬ Cls E (c, b) (c, p) := fun k => h.2.1 (k.sw hG)
/-- if the arrow from p to b reaches one that touches c, the two classes at p are one; and the other way round -/
theorem one_b (hG : Graph E) (hbc : E b c) {p : Nat} (hb : Less E (b, c) p b) (hc : Less E (b, c) p c) {y : Nat × Nat} (h : Cls E (p, b) y) (hy : y.1 = c ∨ y.2 = c) : Cls E (p, b) (p, c) :=
  triangle3 hG hb.1 hc.1 hbc (cond2 hb) h hy
theorem one_c (hG : Graph E) (hbc : E b c) {p : Nat} (hb : Less E (b, c) p b) (hc : Less E (b, c) p c) {y : Nat × Nat} (h : Cls E (p, c) y) (hy : y.1 = b ∨ y.2 = b) : Cls E (p, c) (p, b) :=
  triangle3 hG hc.1 hb.1 (hG.sym hbc) (cond2' hG hbc hc) h hy
/-- the two classes are closed under the steps that are left -/
theorem two_closed (hG : Graph E) (hN : NoClash E) (hbc : E b c) {p : Nat} (hb : Less E (b, c) p b) (hc : Less E (b, c) p c) {x y : Nat × Nat} (hx : Two E b c p x) (hxe : Less E (b, c) x.1 x.2) (hye : Less E (b, c) y.1 y.2) (g : Gam (Less E (b, c)) x y) : Two E b c p y := by
  rcases new_step hG hbc hxe hye g with g | ⟨p', ⟨hb', hc'⟩, h⟩ | ⟨p', ⟨hb', hc'⟩, h⟩
  · rcases hx with h | h
    · exact .inl (h.step g hye.1)
    · exact .inr (h.step g hye.1)
  · -- from the same side
    rcases hx with hx | hx <;> rcases h with ⟨h1, h2⟩ | ⟨h1, h2⟩
    · have k : Cls E (p, b) (p', b) := hx.trans (h1.symm hG hb'.1)
      exact .inr ((triangle2 hG hb.1 hc.1 hbc (cond1 hc) (cond2 hb) k).2.trans h2)
    · have k : Cls E (p, b) (p', c) := hx.trans (h1.symm hG hc'.1)
      have o := one_b hG hbc hb hc k (.inr rfl)
      have k2 : Cls E (p, c) (p', c) := (o.symm hG hb.1).trans k
      exact .inl ((triangle2' hG hb.1 hc.1 hbc (cond1 hc) (cond2 hb) k2).2.trans h2)
    · have k : Cls E (p, c) (p', b) := hx.trans (h1.symm hG hb'.1)
      have o := one_c hG hbc hb hc k (.inr rfl)
      have k2 : Cls E (p, b) (p', b) := (o.symm hG hc.1).trans k
      exact .inr ((triangle2 hG hb.1 hc.1 hbc (cond1 hc) (cond2 hb) k2).2.trans h2)
    · have k : Cls E (p, c) (p', c) := hx.trans (h1.symm hG hc'.1)
      exact .inl ((triangle2' hG hb.1 hc.1 hbc (cond1 hc) (cond2 hb) k).2.trans h2)
  · -- from the other side
    have hb'' : E b p' := hG.sym hb'.1
    have hc'' : E c p' := hG.sym hc'.1
    have both : ∀ {q : Nat × Nat}, (Cls E (p, b) (b, p') ∨ Cls E (p, b) (c, p') ∨ Cls E (p, c) (b, p') ∨ Cls E (p, c) (c, p')) → Cls E (p, b) (p, c) ∧ Cls E (p, b) (b, p') ∧ Cls E (p, b) (c, p') := by
      intro _ h
      have fin : Cls E (p, b) (p, c) → (Cls E (p, b) (b, p') ∨ Cls E (p, b) (c, p')) → Cls E (p, b) (p, c) ∧ Cls E (p, b) (b, p') ∧ Cls E (p, b) (c, p') := by
        intro o h
        rcases h with h | h
        · -- (p', b) is turned in the class; so is (c, p)
          have e1 : Cls E (p', b) (c, p) := ((h.symm hG hb.1).trans o).sw hG
          have e2 := one_b hG hbc hb' hc' e1 (.inl rfl)
          exact ⟨o, h, h.trans (e2.sw hG)⟩
        · have e1 : Cls E (p', c) (b, p) := (h.symm hG hb.1).sw hG
          have e2 := one_c hG hbc hb' hc' e1 (.inl rfl)
          exact ⟨o, h.trans (e2.sw hG), h⟩
      rcases h with h | h | h | h
      · by_cases o : Cls E (p, b) (p, c)
        · exact fin o (.inl h)
        · -- the apex c over the arrow (p, b)
          have h2' : ¬ Cls E (p, b) (c, b) := fun k => cond2 hb ((k.sw hG).symm hG (hG.sym hb.1))
          have t := triangle hG (a := c) (b := p) (c := b) (hG.sym hc.1) (hG.sym hbc) hb.1 h2' o h
          exact absurd (t.1.2.sw hG).symm fun k => absurd ((t.1.2.symm hG (hG.sym hc.1)).sw hG) (fun k => hc.2.1 k)
      · have o := one_b hG hbc hb hc h (.inl rfl)
        exact fin o (.inr h)
      · have o := one_c hG hbc hb hc h (.inl rfl)
        exact fin (o.symm hG hc.1) (.inl ((o.symm hG hc.1).trans h))
      · by_cases o : Cls E (p, c) (p, b)
        · exact fin (o.symm hG hc.1) (.inr ((o.symm hG hc.1).trans h))
        · have h2' : ¬ Cls E (p, c) (b, c) := fun k => cond1 hc (k.symm hG hc.1)
          have t := triangle hG (a := b) (b := p) (c := c) (hG.sym hb.1) hbc hc.1 h2' o h
          exact absurd ((t.1.2.symm hG (hG.sym hb.1)).sw hG) (fun k => hb.2.2 (k.sw hG))
    rcases hx with hx | hx <;> rcases h with ⟨h1, h2⟩ | ⟨h1, h2⟩
    · obtain ⟨o, o1, o2⟩ := both (q := x) (.inl (hx.trans ((h1.symm hG hb'.1).sw hG)))
      exact .inl (o2.trans (h2.sw hG))
    · obtain ⟨o, o1, o2⟩ := both (q := x) (.inr (.inl (hx.trans ((h1.symm hG hc'.1).sw hG))))
      exact .inl (o1.trans (h2.sw hG))
    · obtain ⟨o, o1, o2⟩ := both (q := x) (.inr (.inr (.inl (hx.trans ((h1.symm hG hb'.1).sw hG)))))
      exact .inl (o2.trans (h2.sw hG))
    · obtain ⟨o, o1, o2⟩ := both (q := x) (.inr (.inr (.inr (hx.trans ((h1.symm hG hc'.1).sw hG)))))
      exact .inl (o1.trans (h2.sw hG))
theorem two_cls (hG : Graph E) (hN : NoClash E) (hbc : E b c) {p : Nat} (hb : Less E (b, c) p b) (hc : Less E (b, c) p c) {x y : Nat × Nat} (hx : Two E b c p x) (hxe : Less E (b, c) x.1 x.2) (h : Cls (Less E (b, c)) x y) : Two E b c p y := by
  induction h with
  | refl => exact hx
  | step h g e ih => exact two_closed hG hN hbc hb hc ih (h.mem hxe) e g
/-- no arrow and its turned one in the two classes -/
theorem two_clash (hG : Graph E) (hN : NoClash E) (hbc : E b c) {p : Nat} (hb : Less E (b, c) p b) (hc : Less E (b, c) p c) {x : Nat × Nat} (h1 : Two E b c p x) (h2 : Two E b c p (sw x)) : False := by
  have cross : ¬ Cls E (p, b) (c, p) := fun k => by
    have := cls_trans hG hN hb.1 k .refl
    exact hb.2.2 ((this.sw hG).symm hG (hG.sym hb.1))
  rcases h1 with h1 | h1 <;> rcases h2 with h2 | h2
  · exact hN (p, b) hb.1 (h1.trans ((h2.symm hG hb.1).sw hG))
  · exact cross (h1.trans ((h2.symm hG hc.1).sw hG))
  · exact cross (h2.trans ((h1.symm hG hc.1).sw hG))
  · exact hN (p, c) hc.1 (h1.trans ((h2.symm hG hc.1).sw hG))
/-- what is left without a class has no clash -/
theorem less_noClash (hG : Graph E) (hN : NoClash E) (hbc : E b c) : NoClash (Less E (b, c)) := by
  intro d hd hcl
  have hG' := Less.graph hG (b, c)
  have key : ∀ {z : Nat × Nat}, Cls (Less E (b, c)) d z → Cls E d z ∨ ∃ x p, Cls (Less E (b, c)) d x ∧ (Less E (b, c) p b ∧ Less E (b, c) p c) ∧ (Two E b c p x ∨ Two E b c p (sw x)) := by
    intro z h
    induction h with
    | refl => exact .inl .refl
    | step h g e ih =>
      rename_i y z
      rcases ih with ih | ih
      · rcases new_step hG hbc (h.mem hd) e g with g' | ⟨p, hp, k⟩ | ⟨p, hp, k⟩
        · exact .inl (ih.step g' e.1)
        · exact .inr ⟨y, p, h, hp, .inl (by rcases k with ⟨k, _⟩ | ⟨k, _⟩; exact .inl k; exact .inr k)⟩
        · exact .inr ⟨y, p, h, hp, .inr (by rcases k with ⟨k, _⟩ | ⟨k, _⟩; exact .inl k; exact .inr k)⟩
      · exact .inr ih
  rcases key hcl with h | ⟨x, p, h, ⟨hb, hc⟩, k⟩
  · exact hN d hd.1 h
  · have hxe : Less E (b, c) x.1 x.2 := h.mem hd
    have h1 : Cls (Less E (b, c)) x d := h.symm hG' hd
    have h2 : Cls (Less E (b, c)) x (sw d) := h1.trans hcl
    rcases k with k | k
    · exact two_clash hG hN hbc hb hc (two_cls hG hN hbc hb hc k hxe h1) (two_cls hG hN hbc hb hc k hxe h2)
    · have hse : Less E (b, c) (sw x).1 (sw x).2 := hG'.sym hxe
      exact two_clash hG hN hbc hb hc (two_cls hG hN hbc hb hc k hse (h2.sw hG')) (two_cls hG hN hbc hb hc k hse (h1.sw hG'))
/-- a transitive orientation -/
structure TO (E F : Nat → Nat → Prop) : Prop where
  sub : ∀ {a b}, F a b → E a b
  all : ∀ {a b}, E a b → F a b ∨ F b a
  asym : ∀ {a b}, F a b → ¬ F b a
  trans : ∀ {a b c}, F a b → F b c → F a c
/-- a class with an orientation of what is left -/
theorem to_join (hG : Graph E) (hN : NoClash E) {x : Nat × Nat} (hx : E x.1 x.2) {F : Nat → Nat → Prop} (hF : TO (Less E x) F) : TO E fun a b => Cls E x (a, b) ∨ F a b where
  sub := fun h => by
    rcases h with h | h
    · exact h.mem hx
    · exact (hF.sub h).1
  all := fun {a b} h => by
    by_cases h1 : Cls E x (a, b)
    · exact .inl (.inl h1)
    · by_cases h2 : Cls E x (b, a)
      · exact .inr (.inl h2)
      · rcases hF.all ⟨h, h1, h2⟩ with k | k
        · exact .inl (.inr k)
        · exact .inr (.inr k)
  asym := fun {a b} h k => by
    rcases h with h | h <;> rcases k with k | k
    · exact hN (a, b) (h.mem hx) ((h.symm hG hx).trans k)
    · exact (hF.sub k).2.2 h
    · exact (hF.sub h).2.2 k
    · exact hF.asym h k
  trans := fun {a b c} h k => by
    rcases h with h | h <;> rcases k with k | k
    · exact .inl (cls_trans hG hN hx h k)
    · have hbc := hF.sub k
      have hac : E a c := Classical.byContradiction fun hn => hbc.2.2 (h.step (.inr ⟨rfl, hn⟩) (hG.sym hbc.1))
      by_cases h1 : Cls E x (a, c)
      · exact .inl h1
      · by_cases h2 : Cls E x (c, a)
        · exact absurd (cls_trans hG hN hx h2 h) hbc.2.2
        · rcases hF.all ⟨hac, h1, h2⟩ with q | q
          · exact .inr q
          · exact absurd h (hF.sub (hF.trans k q)).2.2
    · have hab := hF.sub h
      have hac : E a c := Classical.byContradiction fun hn => hab.2.2 (k.step (.inl ⟨rfl, fun e => hn (hG.sym e)⟩) (hG.sym hab.1))
      by_cases h1 : Cls E x (a, c)
      · exact .inl h1
      · by_cases h2 : Cls E x (c, a)
        · exact absurd (cls_trans hG hN hx k h2) hab.2.2
        · rcases hF.all ⟨hac, h1, h2⟩ with q | q
          · exact .inr q
          · exact absurd k (hF.sub (hF.trans q h)).2.2
    · exact .inr (hF.trans h k)
/-- an orientation has with each arrow all of its class -/
theorem to_cls (hG : Graph E) {F : Nat → Nat → Prop} (hF : TO E F) {x y : Nat × Nat} (hx : F x.1 x.2) (h : Cls E x y) : F y.1 y.2 := by
  induction h with
  | refl => exact hx
  | step h g e ih =>
    rename_i y z
    rcases hF.all e with k | k
    · exact k
    · exfalso
      rcases g with ⟨g1, g2⟩ | ⟨g1, g2⟩
      · rw [← g1] at k
        exact g2 (hG.sym (hF.sub (hF.trans k ih)))
      · rw [← g1] at k
        exact g2 (hF.sub (hF.trans ih k))
theorem to_noClash (hG : Graph E) {F : Nat → Nat → Prop} (hF : TO E F) : NoClash E := by
  intro x hx h
  rcases hF.all hx with k | k
  · exact hF.asym k (to_cls hG hF k h)
  · exact hF.asym k (to_cls hG hF k (h.sw hG))
end
end Go.Proofs.Yteekkjfjpoaihaa.Ori

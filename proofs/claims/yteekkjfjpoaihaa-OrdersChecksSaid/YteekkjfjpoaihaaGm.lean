/- The law of orders: what order refuses is what R.IsOrder refuses; and OrdersChecks' contract. -/
import Derived.Test.YteekkjfjpoaihaaGl
set_option linter.all false
namespace Go.Proofs.Yteekkjfjpoaihaa.Eng
open Go Go.Proofs

theorem pairAt_eq (q : List Int) (i : Nat) (a b : Int) : pairAt q i a b = (pa q i == a && pb q i == b) := rfl

theorem hasP_succ (q : List Int) (m : Nat) (a b : Int) : hasP q (m + 1) a b = (hasP q m a b || pairAt q m a b) := by
  unfold hasP
  rw [List.range_succ, List.any_append]
  simp

theorem hasP_iff (q : List Int) (m : Nat) (a b : Int) : hasP q m a b = true ↔ ∃ i, i < m ∧ pa q i = a ∧ pb q i = b := by
  unfold hasP
  simp only [List.any_eq_true, List.mem_range, pairAt_eq, Bool.and_eq_true, beq_iff_eq]

theorem at7_relS {f : Nat → Bool} {a b : Int} {x y : Nat} (ha : 0 ≤ a ∧ a < 7) (hb : 0 ≤ b ∧ b < 7) (hx : x < 7) (hy : y < 7) : at7 (relS f a b) x y = (at7 f x y || (a == (x : Int) && b == (y : Int))) := by
  unfold at7 relS
  simp only [List.length_nil]
  by_cases h : a = (x : Int) ∧ b = (y : Int)
  · obtain ⟨rfl, rfl⟩ := h
    rw [beqT (by simp)]
    simp
  · rw [beqF (by omega)]
    have : (a == (x : Int) && b == (y : Int)) = false := by
      cases hh : (a == (x : Int) && b == (y : Int)) with
      | false => rfl
      | true => simp at hh; exact absurd hh h
    rw [this, cond_false, Bool.or_false]

theorem relF_at {n : Int} {q : List Int} (hn : (decide (n < 1) || decide (n > 7)) = false) : ∀ {m : Nat}, (∀ i, i < m → badO n q i = false) → ∀ {x y : Nat}, x < 7 → y < 7 → at7 (relF q m) x y = hasP q m x y
  | 0, _, x, y, hx, hy => rfl
  | m + 1, h, x, y, hx, hy => by
    obtain ⟨h1, h2⟩ := badO_rng hn (h m (by omega))
    show at7 (relS (relF q m) (pa q m) (pb q m)) x y = _
    rw [at7_relS h1 h2 hx hy, hasP_succ, pairAt_eq, relF_at hn (fun i hi => h i (by omega)) hx hy]

theorem any_of {f : Nat → Bool} {m i : Nat} (hi : i < m) (h : f i = true) : (List.range m).any f = true := by
  rw [List.any_eq_true]
  exact ⟨i, List.mem_range.2 hi, h⟩

theorem orderE_isOrd {n : Int} {q : List Int} {m : Nat} (hn : (decide (n < 1) || decide (n > 7)) = false) : orderE n q m = bif isOrd n q m then 0 else 30 := by
  unfold orderE isOrd
  rw [hn, cond_false]
  cases hb : (List.range m).any (badO n q) with
  | true =>
    obtain ⟨i, h1, h2, _⟩ := any_first _ _ hb
    have : badI n q m i = true := by
      unfold badI
      have : bad28 n q m i (pa q i) (pb q i) = true := by
        simp only [badO, badD, Bool.or_eq_true, decide_eq_true_eq] at h2
        simp only [bad28, Bool.or_eq_true, decide_eq_true_eq]
        rcases h2 with ((h2 | h2) | h2) | h2
        · rw [Int.min_def] at h2
          split at h2 <;> simp [h2]
        · rw [ge_iff_le, Int.max_def] at h2
          split at h2 <;> simp [h2]
        · simp [h2]
        · simp [h2]
      rw [this]; rfl
    rw [any_of h1 this]
    rfl
  | false =>
    have h3 := any_none _ _ hb
    rw [cond_false]
    have hat : ∀ {x y : Nat}, x < 7 → y < 7 → at7 (relF q m) x y = hasP q m x y := fun hx hy => relF_at hn h3 hx hy
    cases ht : transB (relF q m) with
    | false =>
      simp only [transB, Bool.not_eq_false'] at ht
      obtain ⟨x, hx, h, _⟩ := any_first _ _ ht
      obtain ⟨y, hy, h, _⟩ := any_first _ _ h
      simp only [bb51, Bool.and_eq_true, Bool.or_eq_true] at h
      obtain ⟨h1, h2⟩ := h
      rw [hat hx hy, hasP_iff] at h1
      obtain ⟨i, hi, h4, h5⟩ := h1
      have : badI n q m i = true := by
        unfold badI
        rw [h4, h5, Bool.or_eq_true]
        rcases h2 with h2 | h2
        · rw [hat hy hx] at h2
          exact .inl (by simp [bad28, h2])
        · obtain ⟨z, hz, h, _⟩ := any_first _ _ h2
          simp only [bc51, Bool.and_eq_true, Bool.not_eq_true'] at h
          rw [hat hy hz, hat hx hz, hasP_iff] at h
          obtain ⟨⟨k, hk, h6, h7⟩, h8⟩ := h
          exact .inr (any_of hk (by simp [in28, h6, h7, h8]))
      rw [any_of hi this]
      rfl
    | true =>
      cases hI : (List.range m).any (badI n q m) with
      | false => rfl
      | true =>
        exfalso
        obtain ⟨i, hi, h, _⟩ := any_first _ _ hI
        have hbo := h3 i hi
        obtain ⟨⟨r1, r2⟩, r3, r4⟩ := badO_rng hn hbo
        have hxy : hasP q m (pa q i) (pb q i) = true := (hasP_iff _ _ _ _).2 ⟨i, hi, rfl, rfl⟩
        have key : ∀ {x y : Nat}, x < 7 → y < 7 → bb51 (relF q m) x y = false := fun {x y} hx hy => by
          simp only [transB, Bool.not_eq_true'] at ht
          exact any_none _ _ (any_none _ _ ht x hx) y hy
        have hk := key (x := (pa q i).toNat) (y := (pb q i).toNat) (by omega) (by omega)
        have ea : (((pa q i).toNat : Nat) : Int) = pa q i := by omega
        have eb : (((pb q i).toNat : Nat) : Int) = pb q i := by omega
        simp only [bb51, hat (show (pa q i).toNat < 7 by omega) (show (pb q i).toNat < 7 by omega), hat (show (pb q i).toNat < 7 by omega) (show (pa q i).toNat < 7 by omega), ea, eb, hxy, Bool.true_and, Bool.or_eq_false_iff] at hk
        simp only [badI, Bool.or_eq_true] at h
        rcases h with h | h
        · simp only [badO, badD, Bool.or_eq_false_iff, decide_eq_false_iff_not] at hbo
          obtain ⟨⟨⟨b1, b2⟩, b3⟩, b4⟩ := hbo
          simp only [bad28, b3, b4, hk.1, Bool.or_false, Bool.or_eq_true, decide_eq_true_eq] at h
          omega
        · obtain ⟨k, hk1, hk2, _⟩ := any_first _ _ h
          simp only [in28, Bool.and_eq_true, beq_iff_eq, Bool.not_eq_true'] at hk2
          obtain ⟨⟨s1, s2⟩, s3, s4⟩ := badO_rng hn (h3 k hk1)
          have := any_none _ _ hk.2 (pb q k).toNat (by omega)
          have ec : (((pb q k).toNat : Nat) : Int) = pb q k := by omega
          simp only [bc51, hat (show (pb q i).toNat < 7 by omega) (show (pb q k).toNat < 7 by omega), hat (show (pa q i).toNat < 7 by omega) (show (pb q k).toNat < 7 by omega), ea, eb, ec, hk2.2, Bool.not_false, Bool.and_true] at this
          rw [(hasP_iff _ _ _ _).2 ⟨k, hk1, hk2.1, rfl⟩] at this
          cases this

theorem checkP_cases {n : Int} {q : List Int} {m : Nat} (hn : (decide (n < 1) || decide (n > 7)) = false) : checkP n q m = 0 ∨ checkP n q m = 20 := by
  unfold checkP
  rw [hn, cond_false]
  cases (List.range m).any (badAt n q) <;> simp

theorem body6 (h11 : SpecOK PP (compC T) 11 (pureS gAwake)) {n : Int} {q : List Int} {m : Nat} {a b : Int} (hq : q.length = m * 2) : Exec PP T none x6.nt 0 x6.body (startSt (A6 n m a b) (H1 q)) .r (RB 6 true) := by
  cases hn : (decide (n < 1) || decide (n > 7)) with
  | true => exact body6_0 h11 hq hn (by unfold checkP; rw [hn]; rfl) (by unfold orderE; rw [hn]; rfl)
  | false =>
    have ho := orderE_isOrd (q := fewQ q m) (m := fewN m) hn
    cases hi : isOrd n (fewQ q m) (fewN m) with
    | true =>
      rw [hi] at ho
      rcases checkP_cases (q := fewQ q m) (m := fewN m) hn with hw | hw
      · exact body6_2 h11 hq hn hw ho hi
      · exact body6_1 h11 hq hn hw ho hi
    | false =>
      rw [hi] at ho
      rcases checkP_cases (q := fewQ q m) (m := fewN m) hn with hw | hw
      · exact body6_3 h11 hq hn hw ho hi
      · exact body6_4 h11 hq hn hw ho hi

theorem ok6 (h11 : SpecOK PP (compC T) 11 (pureS gAwake)) : SpecOK PP (compC T) 6 (pureS (intPairsP 1 anyC fun _ _ _ => B true)) :=
  intPairsP_ok o6 1 anyC (fun _ _ _ => [(6, ⟨true, B true⟩)]) (fun _ _ _ => []) 0 _ (by kernel_rfl) (fun n q m rest hl hp hq _ _ => (by
    match rest, hl with
    | [r1], _ =>
    simp only [List.all_cons, List.all_nil, Bool.and_true] at hp
    obtain ⟨a, b, f, rfl⟩ := isPair_ex hp
    exact body6 h11 hq)) (fun n q m => by kernel_rfl) (fun n q m => by kernel_rfl)

end Go.Proofs.Yteekkjfjpoaihaa.Eng

/- Contracts by hand, part 4: slices.Compare of two pairs. -/
import Derived.Test.YteekkjfjpoaihaaGc
set_option linter.all false
namespace Go.Proofs.Yteekkjfjpoaihaa.Eng
open Go Go.Proofs

def gCmp (args : List AV) (_ : Nat → Option HO) : Option (Bool × TV × List Nat) := match args with
  | [.s (.int .i64 a), .s (.int .i64 b)] => some (true, I (cmpI a b), [])
  | _ => none
theorem gCmp_fp : PureFp gCmp := by
  intro args h h' q hg hf
  exact hg
theorem ok112 : SpecOK PP (compC T) 112 (pureS gCmp) := by
  refine spec_pure tokP o112 fun ctx m h w args vals v rd base hH hargs hg => ?_
  unfold gCmp at hg
  split at hg
  · rename_i a b
    simp only [Option.some.injEq, Prod.mk.injEq] at hg
    obtain ⟨_, rfl, rfl⟩ := hg
    match vals, hargs with
    | [v1, v2], ⟨ha1, ha2, _⟩ =>
      exact ⟨emV, [], [.s (.int .i64 a), .s (.int .i64 b)], shown_val (ts := [(4, ⟨true, I (cmpI a b)⟩)]) ro0 ⟨ha1, ha2, trivial⟩ (by kernel_rfl) body112 (fun _ => rfl) (by kernel_rfl) (by kernel_rfl)⟩
  · cases hg

/-- the ints that a view of an array shows -/
def vwOf (h : Nat → Option HO) : AV → Option (Bool × List Int × List Nat)
  | .s (.vw id off _ len) => match h id with
    | some ⟨_, .ivec _ .i64 _ l⟩ => some (decide (off + len ≤ l.length), (l.drop off).take len, [id])
    | some ⟨_, .xvec .i64 _ l⟩ => some (decide (off + len ≤ l.length), (l.drop off).take len, [id])
    | some ⟨_, .row _ pre _ _⟩ => match intsOf .i64 pre with
      | some l => some (decide (off + len ≤ l.length), (l.drop off).take len, [id])
      | none => none
    | _ => none
  | _ => none

theorem vwOf_fp {h h' : Nat → Option HO} {s : AV} {q : Bool × List Int × List Nat} (hq : vwOf h s = some q) (hf : ∀ id ∈ q.2.2, h' id = h id) : vwOf h' s = some q := by
  unfold vwOf at hq
  split at hq
  · rename_i id off sz len
    have key : h' id = h id := by
      split at hq
      · cases hq; exact hf id (by simp)
      · cases hq; exact hf id (by simp)
      · split at hq
        · cases hq; exact hf id (by simp)
        · cases hq
      · cases hq
    simp only [vwOf, key]
    exact hq
  · cases hq

theorem intsOf_all2 {m : MM} {k : IntKind} : ∀ {pre : List SV} {l : List Int} {vs : List Value}, intsOf k pre = some l → All2 (SR m) pre vs → vs = l.map (Value.int k)
  | [], l, [], h, _ => by simp [intsOf] at h; subst h; rfl
  | [], _, _ :: _, _, h => h.elim
  | _ :: _, _, [], _, h => h.elim
  | x :: pre, l, v :: vs, h, ⟨h1, h2⟩ => by
    cases x <;> simp only [intsOf, reduceCtorEq] at h
    split at h
    · rename_i k' a hk
      subst hk
      obtain ⟨r, hr, rfl⟩ := Option.map_eq_some_iff.1 h
      rw [List.map_cons, ← intsOf_all2 hr h2]
      congr 1
    · cases h

theorem view_vw {cmp : Cmp} {ctx : Ctx} {m : MM} {h : Nat → Option HO} {w : World} {id off sz len : Nat} {v : Value} {l : List Int} {rd : List Nat} (hH : HRel cmp ctx m h w) (hv : AR m (.s (.vw id off sz len)) v) (hs : vwOf h (.s (.vw id off sz len)) = some (true, l, rd)) :
    ∃ mb : MB, (∀ m', OR cmp m' mb (.xvec .i64 1 l) w) ∧ (∀ b, mb.b = some b → b < w.heap.size) ∧ (∀ (m' : MM) id, m' id = some mb → SR m' (.vw id 0 1 len) v) ∧ l.length = len := by
  obtain ⟨mb, b, c, hm, hb, rfl⟩ := hv
  have key : ∀ q : List Int, (b < w.heap.size ∧ ∀ j, j < q.length → w.cell? ⟨b, mb.base + j, none⟩ = some (.int .i64 (q.getD j 0))) → off + len ≤ q.length →
      ∃ mb' : MB, (∀ m', OR cmp m' mb' (.xvec .i64 1 ((q.drop off).take len)) w) ∧ (∀ b, mb'.b = some b → b < w.heap.size) ∧ (∀ (m' : MM) id, m' id = some mb' → SR m' (.vw id 0 1 len) (.slice (some ⟨b, mb.base + off, none⟩) len c)) ∧ ((q.drop off).take len).length = len := by
    intro q ⟨hlt, hc⟩ hle
    have hlen : ((q.drop off).take len).length = len := by rw [List.length_take, List.length_drop]; omega
    refine ⟨⟨some b, mb.base + off, 0⟩, fun m' => .inr ⟨b, rfl, fun j hj => ?_⟩, fun b' hb' => (by cases hb'; exact hlt), fun m' id hm => ⟨_, b, c, hm, rfl, rfl⟩, hlen⟩
    rw [hlen] at hj
    have := hc (off + j) (by omega)
    show w.cell? ⟨b, mb.base + off + j, none⟩ = _
    rw [show mb.base + off + j = mb.base + (off + j) by omega, this]
    congr 2
    simp only [List.getD_eq_getElem?_getD]
    rw [List.getElem?_take_of_lt hj, List.getElem?_drop]
  simp only [vwOf] at hs
  split at hs
  · rename_i ro ty szo q hid
    simp only [Option.some.injEq, Prod.mk.injEq, decide_eq_true_eq] at hs
    obtain ⟨hle, rfl, _⟩ := hs
    obtain ⟨mb', h1, h2, h3, _⟩ := hH.obj id _ hid
    rw [hm] at h1
    cases h1
    refine key q ?_ hle
    rcases h2 with ⟨h2, _⟩ | ⟨b', cur, e1, e2, e3, e4, e5, e6⟩
    · rw [hb] at h2; cases h2
    · rw [hb] at e1
      cases e1
      refine ⟨h3 rfl b hb, fun j hj => ?_⟩
      have := e6 j hj
      rw [e2, Nat.zero_add]
      simp [World.cell?, e3, this]
  · rename_i ro szo q hid
    simp only [Option.some.injEq, Prod.mk.injEq, decide_eq_true_eq] at hs
    obtain ⟨hle, rfl, _⟩ := hs
    obtain ⟨mb', h1, h2, h3, _⟩ := hH.obj id _ hid
    rw [hm] at h1
    cases h1
    refine key q ?_ hle
    rcases h2 with ⟨h2, _⟩ | ⟨b', e1, e2⟩
    · rw [hb] at h2; cases h2
    · rw [hb] at e1
      cases e1
      exact ⟨h3 rfl b hb, e2⟩
  · rename_i ro ty pre n f hid
    split at hs
    case h_2 => cases hs
    rename_i q hq
    simp only [Option.some.injEq, Prod.mk.injEq, decide_eq_true_eq] at hs
    obtain ⟨hle, rfl, _⟩ := hs
    obtain ⟨mb', h1, h2, h3, _⟩ := hH.obj id _ hid
    rw [hm] at h1
    cases h1
    refine key q ?_ hle
    obtain ⟨b', cs, e1, e2, e3, vs, e4, e5, e6⟩ := h2
    rw [hb] at e1
    cases e1
    refine ⟨h3 rfl b hb, fun j hj => ?_⟩
    rw [e2, Nat.zero_add]
    have := intsOf_all2 hq e4
    subst this
    simp only [World.cell?, e3, e6]
    rw [List.getElem?_toArray, List.getElem?_append_left (by simpa using hj)]
    simp [hj]
  · cases hs

def mm2 (a b : MB) : MM := fun j => bif Nat.beq j 0 then some a else bif Nat.beq j 1 then some b else none

theorem ro2 {cmp : Cmp} {w : World} {a b : MB} {o o' : AO} (h1 : ∀ m', OR cmp m' a o w) (h2 : ∀ x, a.b = some x → x < w.heap.size) (h3 : ∀ m', OR cmp m' b o' w) (h4 : ∀ x, b.b = some x → x < w.heap.size) : RoView cmp (mm2 a b) [⟨true, o⟩, ⟨true, o'⟩] w := by
  refine ⟨fun j ho hj => ?_, fun j hj => ?_⟩
  · match j, hj with
    | 0, hj => simp only [List.getElem?_cons_zero, Option.some.injEq] at hj; subst hj; exact ⟨rfl, a, rfl, h1 _, h2⟩
    | 1, hj => simp only [List.getElem?_cons_succ, List.getElem?_cons_zero, Option.some.injEq] at hj; subst hj; exact ⟨rfl, b, rfl, h3 _, h4⟩
    | j + 2, hj => simp at hj
  · simp at hj
    show (bif Nat.beq j 0 then some a else bif Nat.beq j 1 then some b else none) = none
    rw [beqF (by omega), beqF (by omega)]; rfl

def L2 : List (Nat × Spec) := (112, pureS gCmp) :: L1
theorem L2_ok : SpecsL L2 := specsL_cons ok112 (pureS_fp gCmp_fp) o112 L1_ok
noncomputable abbrev g2 : Cal → Option Spec := specsΓ L2
theorem env2 : EnvOK PP T g2 := envL L2_ok

def cmp2 (a0 a1 b0 b1 : Int) : Int := bif cmpI a0 b0 != 0 then cmpI a0 b0 else cmpI a1 b1

abbrev A93 : List AV := [.s (.vw 0 0 1 2), .s (.vw 1 0 1 2)]
abbrev V93 (a0 a1 b0 b1 : Int) : List HO := [⟨true, .xvec .i64 1 [a0, a1]⟩, ⟨true, .xvec .i64 1 [b0, b1]⟩]

theorem body93 {a0 a1 b0 b1 : Int} : Exec PP T none x93.nt 0 x93.body (startSt A93 (V93 a0 a1 b0 b1)) .r (RI 4 (cmp2 a0 a1 b0 b1)) := by
  unfold cmp2
  cases h1 : (cmpI a0 b0 != 0) with
  | true =>
    refine exec_orun env2 false 90 [true, false, true] [] (fun _ => rfl) (by kernel_rfl) (by kernel_rfl) (by kernel_rfl) ?_
    rw [(show obOf (orun g2 false 90 x93.body (startSt A93 (V93 a0 a1 b0 b1)) [true, false, true]) = (decide (0 < 2) && true && (decide (0 ≤ 0) && decide (0 < 2) && (decide (0 < Nat.succ 1) && true) && (!decide (0 ≥ 2) && true && (decide (0 ≤ 0) && decide (0 < 2) && (decide (0 < Nat.succ 1) && true) && (cmpI a0 b0 != 0 && true))))) from by kernel_rfl)]
    simp [rng64]
    simpa [cmpI] using h1
  | false =>
    have h1' : cmpI a0 b0 = 0 := by simpa using h1
    cases h2 : (cmpI a1 b1 != 0) with
    | true =>
      refine exec_orun env2 false 90 [true, false, false, true, false, true] [] (fun _ => rfl) (by kernel_rfl) (by kernel_rfl) (by kernel_rfl) ?_
      rw [(show obOf (orun g2 false 90 x93.body (startSt A93 (V93 a0 a1 b0 b1)) [true, false, false, true, false, true]) = (decide (0 < 2) && true && (decide (0 ≤ 0) && decide (0 < 2) && (decide (0 < Nat.succ 1) && true) && (!decide (0 ≥ 2) && true && (decide (0 ≤ 0) && decide (0 < 2) && (decide (0 < Nat.succ 1) && true) && (!cmpI a0 b0 != 0 && true))) && (rng64 1 && true)) && (decide (1 < 2) && true && (decide (0 ≤ 1) && decide (1 < 2) && (decide (1 < Nat.succ 1) && true) && (!decide (1 ≥ 2) && true && (decide (0 ≤ 1) && decide (1 < 2) && (decide (1 < Nat.succ 1) && true) && (cmpI a1 b1 != 0 && true)))))) from by kernel_rfl)]
      simp [rng64]
      exact ⟨by simpa [cmpI] using h1', by simpa [cmpI] using h2⟩
    | false =>
      have h2' : cmpI a1 b1 = 0 := by simpa using h2
      rw [h2']
      refine exec_orun env2 false 90 [true, false, false, true, false, false, false, false] [] (fun _ => rfl) (by kernel_rfl) (by kernel_rfl) (by kernel_rfl) ?_
      rw [(show obOf (orun g2 false 90 x93.body (startSt A93 (V93 a0 a1 b0 b1)) [true, false, false, true, false, false, false, false]) = (decide (0 < 2) && true && (decide (0 ≤ 0) && decide (0 < 2) && (decide (0 < Nat.succ 1) && true) && (!decide (0 ≥ 2) && true && (decide (0 ≤ 0) && decide (0 < 2) && (decide (0 < Nat.succ 1) && true) && (!cmpI a0 b0 != 0 && true))) && (rng64 1 && true)) && (decide (1 < 2) && true && (decide (0 ≤ 1) && decide (1 < 2) && (decide (1 < Nat.succ 1) && true) && (!decide (1 ≥ 2) && true && (decide (0 ≤ 1) && decide (1 < 2) && (decide (1 < Nat.succ 1) && true) && (!cmpI a1 b1 != 0 && true))) && (rng64 2 && true)) && (!decide (2 < 2) && true)) && (!decide (2 < 2) && true && true)) from by kernel_rfl)]
      simp [rng64]
      exact ⟨by simpa [cmpI] using h1', by simpa [cmpI] using h2'⟩

def gCompare (args : List AV) (h : Nat → Option HO) : Option (Bool × TV × List Nat) := match args with
  | [.s (.vw i o z 2), .s (.vw i' o' z' 2)] => match vwOf h (.s (.vw i o z 2)), vwOf h (.s (.vw i' o' z' 2)) with
    | some (c, l, r), some (c', l', r') => some (c && c', I (cmp2 (l.getD 0 0) (l.getD 1 0) (l'.getD 0 0) (l'.getD 1 0)), r ++ r')
    | _, _ => none
  | _ => none
theorem gCompare_fp : PureFp gCompare := by
  intro args h h' q hg hf
  unfold gCompare at hg ⊢
  split at hg
  · split at hg
    · rename_i h1 h2
      cases hg
      rw [vwOf_fp h1 fun id hid => hf id (List.mem_append.2 (.inl hid)), vwOf_fp h2 fun id hid => hf id (List.mem_append.2 (.inr hid))]
    · cases hg
  · cases hg
theorem ok93 : SpecOK PP (compC T) 93 (pureS gCompare) := by
  refine spec_pure tokP o93 fun ctx m h w args vals v rd base hH hargs hg => ?_
  unfold gCompare at hg
  split at hg
  · rename_i i o z i' o' z'
    split at hg
    · rename_i c l r c' l' r' h1 h2
      simp only [Option.some.injEq, Prod.mk.injEq, Bool.and_eq_true] at hg
      obtain ⟨⟨rfl, rfl⟩, rfl, rfl⟩ := hg
      match vals, hargs with
      | [v1, v2], ⟨ha1, ha2, _⟩ =>
        obtain ⟨mb, k1, k2, k3, k4⟩ := view_vw hH ha1 h1
        obtain ⟨mb', q1, q2, q3, q4⟩ := view_vw hH ha2 h2
        obtain ⟨a0, a1, rfl⟩ := two k4
        obtain ⟨b0, b1, rfl⟩ := two q4
        exact ⟨mm2 mb mb', V93 a0 a1 b0 b1, A93, shown_val (ts := [(4, ⟨true, I (cmp2 a0 a1 b0 b1)⟩)]) (ro2 k1 k2 q1 q2) ⟨k3 (mm2 mb mb') 0 rfl, q3 (mm2 mb mb') 1 rfl, trivial⟩ (by kernel_rfl) body93 (fun _ => rfl) (by kernel_rfl) (by kernel_rfl)⟩
    · cases hg
  · cases hg

end Go.Proofs.Yteekkjfjpoaihaa.Eng

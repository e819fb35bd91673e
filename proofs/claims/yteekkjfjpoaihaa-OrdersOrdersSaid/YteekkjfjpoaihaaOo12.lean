/- A part of the proof of ordersOrders_holds. -/
import Derived.Test.YteekkjfjpoaihaaOo11
set_option linter.all false
namespace Go.Proofs.Yteekkjfjpoaihaa.Eng
open Go Go.Proofs
open Go.Proofs.Yteekkjfjpoaihaa.Ori
/-- a graph as the program keeps it -/
structure GOK (n : Nat) (f : Nat → Bool) : Prop where
  sym : ∀ {x y}, x < n → y < n → at7 f x y = true → at7 f y x = true
  irr : ∀ {x}, x < n → at7 f x x = false
def Ed (n : Nat) (f : Nat → Bool) (x y : Nat) : Prop := x < n ∧ y < n ∧ at7 f x y = true
theorem GOK.graph {n : Nat} {f : Nat → Bool} (h : GOK n f) : Graph (Ed n f) := ⟨fun ⟨a, b, c⟩ => ⟨b, a, h.sym a b c⟩, fun a ⟨h1, _, h2⟩ => by rw [h.irr h1] at h2; cases h2⟩
theorem mem_pushL {l : List (Nat × Nat)} {p q : Nat × Nat} : q ∈ pushL l p ↔ q ∈ l ∨ q = p := by
  unfold pushL
  cases h : l.contains p with
  | true =>
    have := List.contains_iff_mem.1 h
    simp only [cond_true]
    constructor
    · exact .inl
    · rintro (h | rfl)
      · exact h
      · exact this
  | false => simp
theorem mem_stepL {f : Nat → Bool} {a b c : Nat} {l : List (Nat × Nat)} {q : Nat × Nat} : q ∈ stepL f a b c l ↔ q ∈ l ∨ (cnd1 f a b c = true ∧ q = (a, c)) ∨ (cnd2 f a b c = true ∧ q = (c, b)) := by
  unfold stepL
  cases h1 : cnd1 f a b c <;> cases h2 : cnd2 f a b c <;> simp only [cond_true, cond_false, mem_pushL] <;> simp
  exact or_assoc
theorem mem_forcedL {f : Nat → Bool} {a b : Nat} {l : List (Nat × Nat)} {q : Nat × Nat} : ∀ n, q ∈ forcedL f a b l n ↔ q ∈ l ∨ q = (a, b) ∨ ∃ c, c < n ∧ ((cnd1 f a b c = true ∧ q = (a, c)) ∨ (cnd2 f a b c = true ∧ q = (c, b)))
  | 0 => by
    show q ∈ pushL l (a, b) ↔ _
    rw [mem_pushL]
    simp
  | c + 1 => by
    show q ∈ stepL f a b c (forcedL f a b l c) ↔ _
    rw [mem_stepL, mem_forcedL c]
    constructor
    · rintro ((h | h | ⟨d, hd, h⟩) | h)
      · exact .inl h
      · exact .inr (.inl h)
      · exact .inr (.inr ⟨d, by omega, h⟩)
      · exact .inr (.inr ⟨c, by omega, h⟩)
    · rintro (h | h | ⟨d, hd, h⟩)
      · exact .inl (.inl h)
      · exact .inl (.inr (.inl h))
      · by_cases e : d = c
        · subst e; exact .inr h
        · exact .inl (.inr (.inr ⟨d, by omega, h⟩))
theorem pushL_pre (l : List (Nat × Nat)) (p : Nat × Nat) : l <+: pushL l p := by
  unfold pushL
  cases l.contains p
  · exact List.prefix_append _ _
  · exact List.prefix_refl _
theorem stepL_pre {f : Nat → Bool} {a b c : Nat} (l : List (Nat × Nat)) : l <+: stepL f a b c l := by
  unfold stepL
  cases cnd1 f a b c <;> cases cnd2 f a b c
  · exact List.prefix_refl _
  · exact pushL_pre _ _
  · exact pushL_pre _ _
  · exact (pushL_pre _ _).trans (pushL_pre _ _)
theorem forcedL_pre {f : Nat → Bool} {a b : Nat} (l : List (Nat × Nat)) : ∀ n, l <+: forcedL f a b l n
  | 0 => pushL_pre _ _
  | n + 1 => (forcedL_pre l n).trans (stepL_pre _)
theorem lstI_pre {n : Nat} {f : Nat → Bool} {a b i : Nat} : ∀ k, lstI n f a b i <+: lstI n f a b (i + k)
  | 0 => List.prefix_refl _
  | k + 1 => (lstI_pre k).trans (forcedL_pre _ n)
theorem pre_getD {l l' : List (Nat × Nat)} (h : l <+: l') {i : Nat} (hi : i < l.length) : l'.getD i (0, 0) = l.getD i (0, 0) := by
  obtain ⟨t, rfl⟩ := h
  rw [List.getD_eq_getElem?_getD, List.getD_eq_getElem?_getD, List.getElem?_append_left hi]
section
variable {n : Nat} {f : Nat → Bool} {a b : Nat}
theorem lst_long (hn : n ≤ 7) (ha : a < n) (hb : b < n) : ∀ j, j < stopR n f a b → j < (lstI n f a b j).length := by
  intro j hj
  have h := (stopR_spec (n := n) (f := f) (a := a) (b := b) (by omega) (by omega) hn).2
  have hI := invI (n := n) (f := f) (a := a) (b := b) (by omega) (by omega) hn j fun k hk => h k (by omega)
  rw [← hI.m]
  exact h j hj
theorem lst_end (hn : n ≤ 7) (ha : a < n) (hb : b < n) : (rchL n f a b).length ≤ stopR n f a b := by
  have h := (stopR_spec (n := n) (f := f) (a := a) (b := b) (by omega) (by omega) hn)
  have hI := rch_inv (n := n) (f := f) (a := a) (b := b) (by omega) (by omega) hn
  rw [← hI.m]
  have := h.1
  show (sigI n f a b (stopR n f a b)).2.2 ≤ _
  omega
theorem lst_snd (hab : Ed n f a b) : ∀ i, (∀ j, j < i → j < (lstI n f a b j).length) → ∀ p ∈ lstI n f a b i, Cls (Ed n f) (a, b) p
  | 0, _, p, hp => by
    simp [lstI] at hp
    subst hp
    exact .refl
  | i + 1, h, p, hp => by
    have ih := lst_snd hab i fun j hj => h j (by omega)
    have hi := h i (by omega)
    have hm : (lstI n f a b i).getD i (0, 0) ∈ lstI n f a b i := by simp [hi]
    have hx := ih _ hm
    have hE := hx.mem hab
    have hp' : p ∈ forcedL f ((lstI n f a b i).getD i (0, 0)).1 ((lstI n f a b i).getD i (0, 0)).2 (lstI n f a b i) n := hp
    clear hp
    generalize (lstI n f a b i).getD i (0, 0) = x at hm hx hE hp'
    rcases (mem_forcedL n).1 hp' with h | h | ⟨c, hc, ⟨h1, h2⟩ | ⟨h1, h2⟩⟩
    · exact ih p h
    · subst h
      exact hx
    · subst h2
      unfold cnd1 at h1
      simp at h1
      exact .step hx (.inl ⟨rfl, fun e => by have := e.2.2; rw [h1.2.2] at this; cases this⟩) ⟨hE.1, hc, h1.2.1⟩
    · subst h2
      unfold cnd2 at h1
      simp at h1
      exact .step hx (.inr ⟨rfl, fun e => by have := e.2.2; rw [h1.2.2] at this; cases this⟩) ⟨hc, hE.2.1, h1.2.1⟩
/-- what is reached is the class -/
theorem mem_rch (hn : n ≤ 7) (hab : Ed n f a b) {p : Nat × Nat} : p ∈ rchL n f a b ↔ Cls (Ed n f) (a, b) p := by
  constructor
  · exact lst_snd hab _ (lst_long hn hab.1 hab.2.1) p
  · intro h
    induction h with
    | refl => exact rchL_mem
    | step hy g e ih =>
      rename_i y z
      have hE := hy.mem hab
      obtain ⟨k, hk, hg⟩ := List.getElem_of_mem ih
      have hks : k < stopR n f a b := by
        have := lst_end (f := f) hn hab.1 hab.2.1
        omega
      obtain ⟨d, hd⟩ : ∃ d, stopR n f a b = k + 1 + d := ⟨stopR n f a b - (k + 1), by omega⟩
      have hkl := lst_long (f := f) hn hab.1 hab.2.1 k hks
      have e1 : (lstI n f a b k).getD k (0, 0) = y := by
        have hp : lstI n f a b k <+: rchL n f a b := by
          unfold rchL
          rw [hd, show k + 1 + d = k + (1 + d) by omega]
          exact lstI_pre _
        rw [← pre_getD hp hkl]
        simp [hk, hg]
      have hin : ∀ q, q ∈ lstI n f a b (k + 1) → q ∈ rchL n f a b := fun q hq => by
        have hp : lstI n f a b (k + 1) <+: rchL n f a b := by
          unfold rchL
          rw [hd]
          exact lstI_pre _
        exact hp.subset hq
      have hst : ∀ q, (q = y ∨ ∃ c, c < n ∧ ((cnd1 f y.1 y.2 c = true ∧ q = (y.1, c)) ∨ (cnd2 f y.1 y.2 c = true ∧ q = (c, y.2)))) → q ∈ rchL n f a b := fun q hq => by
        refine hin q ?_
        show q ∈ forcedL f _ _ (lstI n f a b k) n
        rw [e1]
        exact (mem_forcedL n).2 (.inr hq)
      rcases g with ⟨g1, g2⟩ | ⟨g1, g2⟩
      · by_cases hz : z.2 = y.2
        · have : z = y := Prod.ext g1.symm hz
          rw [this]; exact ih
        · refine hst z (.inr ⟨z.2, e.2.1, .inl ⟨?_, Prod.ext g1.symm rfl⟩⟩)
          unfold cnd1
          rw [beqF hz, Bool.not_false, Bool.true_and, Bool.and_eq_true]
          refine ⟨by rw [g1]; exact e.2.2, ?_⟩
          cases h : at7 f y.2 z.2 with
          | false => rfl
          | true => exact absurd ⟨hE.2.1, e.2.1, h⟩ g2
      · by_cases hz : z.1 = y.1
        · have : z = y := Prod.ext hz g1.symm
          rw [this]; exact ih
        · refine hst z (.inr ⟨z.1, e.1, .inr ⟨?_, Prod.ext rfl g1.symm⟩⟩)
          unfold cnd2
          rw [beqF hz, Bool.not_false, Bool.true_and, Bool.and_eq_true]
          refine ⟨by rw [g1]; exact e.2.2, ?_⟩
          cases h : at7 f y.1 z.1 with
          | false => rfl
          | true => exact absurd ⟨hE.1, e.1, h⟩ g2
end
end Go.Proofs.Yteekkjfjpoaihaa.Eng
namespace Go.Proofs.Yteekkjfjpoaihaa.Eng
open Go Go.Proofs
open Go.Proofs.Yteekkjfjpoaihaa.Ori
def Rl (o : Nat → Bool) (x y : Nat) : Prop := x < 7 ∧ y < 7 ∧ at7 o x y = true
theorem transB_iff {f : Nat → Bool} : transB f = true ↔ ∀ a b, a < 7 → b < 7 → at7 f a b = true → at7 f b a = false ∧ ∀ c, c < 7 → at7 f b c = true → at7 f a c = true := by
  unfold transB
  rw [Bool.not_eq_true', List.any_eq_false]
  constructor
  · intro h a b ha hb hab
    have h1 := h a (List.mem_range.2 ha)
    rw [Bool.not_eq_true, List.any_eq_false] at h1
    have h2 := h1 b (List.mem_range.2 hb)
    unfold bb51 at h2
    rw [hab, Bool.true_and, Bool.not_eq_true, Bool.or_eq_false_iff, List.any_eq_false] at h2
    refine ⟨h2.1, fun c hc hbc => ?_⟩
    have h3 := h2.2 c (List.mem_range.2 hc)
    unfold bc51 at h3
    rw [hbc] at h3
    simpa using h3
  · intro h a ha
    rw [Bool.not_eq_true, List.any_eq_false]
    intro b hb
    have ha := List.mem_range.1 ha
    have hb := List.mem_range.1 hb
    unfold bb51
    cases hab : at7 f a b with
    | false => simp
    | true =>
      obtain ⟨h1, h2⟩ := h a b ha hb hab
      rw [h1, Bool.true_and, Bool.false_or, Bool.not_eq_true, List.any_eq_false]
      intro c hc
      unfold bc51
      cases hbc : at7 f b c with
      | false => simp
      | true => rw [h2 c (List.mem_range.1 hc) hbc]; simp
theorem transB_Rl {o : Nat → Bool} : transB o = true ↔ (∀ {a b}, Rl o a b → ¬ Rl o b a) ∧ ∀ {a b c}, Rl o a b → Rl o b c → Rl o a c := by
  rw [transB_iff]
  constructor
  · intro h
    refine ⟨fun {a b} h1 h2 => ?_, fun {a b c} h1 h2 => ⟨h1.1, h2.2.1, (h a b h1.1 h1.2.1 h1.2.2).2 c h2.2.1 h2.2.2⟩⟩
    have := (h a b h1.1 h1.2.1 h1.2.2).1
    rw [h2.2.2] at this
    cases this
  · rintro ⟨h1, h2⟩ a b ha hb hab
    refine ⟨?_, fun c hc hbc => (h2 ⟨ha, hb, hab⟩ ⟨hb, hc, hbc⟩).2.2⟩
    cases hba : at7 o b a with
    | false => rfl
    | true => exact absurd ⟨hb, ha, hba⟩ (h1 ⟨ha, hb, hab⟩)
section
variable {n : Nat} {f : Nat → Bool}
/-- what orient has in hand, before it fails -/
structure OInv (n : Nat) (f : Nat → Bool) (s : (Nat → Bool) × (Nat → Bool)) : Prop where
  gok : GOK n s.2
  sub : ∀ {x y}, Ed n s.2 x y → Ed n f x y
  osub : ∀ {x y}, Rl s.1 x y → Ed n f x y
  dis : ∀ {x y}, Rl s.1 x y → ¬ Ed n s.2 x y ∧ ¬ Ed n s.2 y x
  all : ∀ {x y}, Ed n f x y → Ed n s.2 x y ∨ Rl s.1 x y ∨ Rl s.1 y x
theorem OInv.zero (hf : GOK n f) : OInv n f (ff, f) where
  gok := hf
  sub := id
  osub := fun h => by have := h.2.2; cases this
  dis := fun h => by have := h.2.2; cases this
  all := .inl
theorem clsO_mem {l : Nat → Bool} (hn : n ≤ 7) (h : ¬ (arrowsL n l).length = 0) {p : Nat × Nat} : p ∈ clsO n l ↔ Cls (Ed n l) (fstX n l, fstY n l) p := by
  obtain ⟨_, _, h1, h2, h3⟩ := fst_spec h
  exact mem_rch hn ⟨h1, h2, h3⟩
theorem fst_ed {l : Nat → Bool} (h : ¬ (arrowsL n l).length = 0) : Ed n l (fstX n l) (fstY n l) := by
  obtain ⟨_, _, h1, h2, h3⟩ := fst_spec h
  exact ⟨h1, h2, h3⟩
theorem cls_rng {l : Nat → Bool} (hn : n ≤ 7) (h : ¬ (arrowsL n l).length = 0) : ∀ p ∈ clsO n l, p.1 < 7 ∧ p.2 < 7 := (cls_ok hn h).rng
/-- what is left, as the law has it -/
theorem ed_cut {l : Nat → Bool} (hn : n ≤ 7) (h : ¬ (arrowsL n l).length = 0) {x y : Nat} : Ed n (cutL l (clsO n l)) x y ↔ Less (Ed n l) (fstX n l, fstY n l) x y := by
  have key : x < n → y < n → (at7 (cutL l (clsO n l)) x y = true ↔ at7 l x y = true ∧ ¬ Cls (Ed n l) (fstX n l, fstY n l) (x, y) ∧ ¬ Cls (Ed n l) (fstX n l, fstY n l) (y, x)) := fun hx hy => by
    rw [at7_cutL (cls_rng hn h) (by omega) (by omega), Bool.and_eq_true, Bool.and_eq_true, ← clsO_mem hn h, ← clsO_mem hn h, Bool.not_eq_true', Bool.not_eq_true']
    rw [← List.contains_iff_mem, ← List.contains_iff_mem]
    simp
  unfold Less
  constructor
  · rintro ⟨h1, h2, h3⟩
    obtain ⟨k1, k2, k3⟩ := (key h1 h2).1 h3
    exact ⟨⟨h1, h2, k1⟩, k2, k3⟩
  · rintro ⟨⟨h1, h2, k1⟩, k2, k3⟩
    exact ⟨h1, h2, (key h1 h2).2 ⟨k1, k2, k3⟩⟩
theorem rl_or {o l : Nat → Bool} (hn : n ≤ 7) (h : ¬ (arrowsL n l).length = 0) {x y : Nat} : Rl (orS o (clsO n l)) x y ↔ Rl o x y ∨ Cls (Ed n l) (fstX n l, fstY n l) (x, y) := by
  constructor
  · rintro ⟨h1, h2, h3⟩
    rw [at7_orS (cls_rng hn h) h1 h2, Bool.or_eq_true] at h3
    rcases h3 with h3 | h3
    · exact .inl ⟨h1, h2, h3⟩
    · exact .inr ((clsO_mem hn h).1 (List.contains_iff_mem.1 h3))
  · rintro (⟨h1, h2, h3⟩ | h3)
    · exact ⟨h1, h2, by rw [at7_orS (cls_rng hn h) h1 h2, h3]; rfl⟩
    · have hm := (clsO_mem hn h).2 h3
      obtain ⟨h1, h2⟩ := cls_rng hn h _ hm
      exact ⟨h1, h2, by rw [at7_orS (cls_rng hn h) h1 h2, List.contains_iff_mem.2 hm, Bool.or_true]⟩
theorem OInv.next (hn : n ≤ 7) {s : (Nat → Bool) × (Nat → Bool)} (hs : OInv n f s) (h : ¬ (arrowsL n s.2).length = 0) : OInv n f (orS s.1 (clsO n s.2), cutL s.2 (clsO n s.2)) where
  gok := ⟨fun {x y} hx hy he => by
      have h1 : Less _ _ x y := (ed_cut hn h).1 ⟨hx, hy, he⟩
      have h2 : Less _ _ y x := ⟨hs.gok.graph.sym h1.1, h1.2.2, h1.2.1⟩
      exact ((ed_cut hn h).2 h2).2.2, fun {x} hx => by
      cases he : at7 (cutL s.2 (clsO n s.2)) x x with
      | false => rfl
      | true =>
        have h1 : Less _ _ x x := (ed_cut hn h).1 ⟨hx, hx, he⟩
        have := h1.1.2.2
        rw [hs.gok.irr hx] at this
        cases this⟩
  sub := fun he => hs.sub ((ed_cut hn h).1 he).1
  osub := fun ho => by
    rcases (rl_or hn h).1 ho with ho | ho
    · exact hs.osub ho
    · exact hs.sub (ho.mem (fst_ed h))
  dis := fun {x y} ho => by
    rcases (rl_or hn h).1 ho with ho | ho
    · exact ⟨fun e => (hs.dis ho).1 ((ed_cut hn h).1 e).1, fun e => (hs.dis ho).2 ((ed_cut hn h).1 e).1⟩
    · exact ⟨fun e => ((ed_cut hn h).1 e).2.1 ho, fun e => ((ed_cut hn h).1 e).2.2 ho⟩
  all := fun {x y} he => by
    rcases hs.all he with h1 | h1 | h1
    · by_cases h2 : Cls (Ed n s.2) (fstX n s.2, fstY n s.2) (x, y)
      · exact .inr (.inl ((rl_or hn h).2 (.inr h2)))
      · by_cases h3 : Cls (Ed n s.2) (fstX n s.2, fstY n s.2) (y, x)
        · exact .inr (.inr ((rl_or hn h).2 (.inr h3)))
        · exact .inl ((ed_cut hn h).2 ⟨h1, h2, h3⟩)
    · exact .inr (.inl ((rl_or hn h).2 (.inl h1)))
    · exact .inr (.inr ((rl_or hn h).2 (.inl h1)))
theorem empty_ne {i : Nat} (h : emptyAt n f i = false) : ¬ (arrowsL n (og n f i).2).length = 0 := fun e => by
  unfold emptyAt at h
  rw [beqT e] at h
  cases h
theorem oinv (hn : n ≤ 7) (hf : GOK n f) : ∀ i, (∀ j, j < i → endAt n f j = false) → OInv n f (og n f i)
  | 0, _ => OInv.zero hf
  | i + 1, h => (oinv hn hf i fun j hj => h j (by omega)).next hn (empty_ne (by have := h i (by omega); unfold endAt at this; exact (Bool.or_eq_false_iff.1 this).1))
theorem empty_ed {l : Nat → Bool} (h : (arrowsL n l).length = 0) {x y : Nat} : ¬ Ed n l x y := fun he => by
  rw [arrN_len] at h
  have := List.eq_nil_of_length_eq_zero h
  have hm : (x, y) ∈ arrN n l := mem_arrN.2 he
  rw [this] at hm
  cases hm
/-- where orient answers, it answers an orientation -/
theorem ori_to (hn : n ≤ 7) (hf : GOK n f) (h : oriOk n f = true) : TO (Ed n f) (Rl (oriR n f)) := by
  unfold oriOk at h
  rw [Bool.and_eq_true] at h
  obtain ⟨h1, h2⟩ := h
  have hI := oinv hn hf (stopG n f) (stopG_spec hn).2
  have he : ∀ {x y}, ¬ Ed n (og n f (stopG n f)).2 x y := fun {x y} => empty_ed (Nat.eq_of_beq_eq_true h1)
  unfold oriR
  rw [h1, cond_true]
  obtain ⟨t1, t2⟩ := transB_Rl.1 h2
  exact ⟨fun h => hI.osub h, fun h => by
    rcases hI.all h with h | h | h
    · exact absurd h he
    · exact .inl h
    · exact .inr h, t1, t2⟩
/-- .. and it answers where there is no clash -/
structure NInv (n : Nat) (f : Nat → Bool) (s : (Nat → Bool) × (Nat → Bool)) : Prop where
  nc : NoClash (Ed n s.2)
  join : ∀ F, TO (Ed n s.2) F → TO (Ed n f) fun a b => Rl s.1 a b ∨ F a b
theorem ext2 {F G : Nat → Nat → Prop} (h : ∀ a b, F a b ↔ G a b) : F = G := funext fun a => funext fun b => propext (h a b)
theorem ninv (hn : n ≤ 7) (hf : GOK n f) (hN : NoClash (Ed n f)) : ∀ i, (∀ j, j < i → endAt n f j = false) → NInv n f (og n f i)
  | 0, _ => ⟨hN, fun F hF => by
      have : (fun a b => Rl (og n f 0).1 a b ∨ F a b) = F := ext2 fun a b => ⟨fun h => by
        rcases h with h | h
        · have := h.2.2; cases this
        · exact h, .inr⟩
      rw [this]
      exact hF⟩
  | i + 1, h => by
    have ih := ninv hn hf hN i fun j hj => h j (by omega)
    have hO := oinv hn hf i fun j hj => h j (by omega)
    have hne : ¬ (arrowsL n (og n f i).2).length = 0 := empty_ne (by have := h i (by omega); unfold endAt at this; exact (Bool.or_eq_false_iff.1 this).1)
    have e : Ed n (og n f (i + 1)).2 = Less (Ed n (og n f i).2) (fstX n (og n f i).2, fstY n (og n f i).2) := ext2 fun a b => ed_cut hn hne
    refine ⟨by rw [e]; exact less_noClash hO.gok.graph ih.nc (fst_ed hne), fun F hF => ?_⟩
    rw [e] at hF
    have h1 := ih.join _ (to_join hO.gok.graph ih.nc (x := (fstX n (og n f i).2, fstY n (og n f i).2)) (fst_ed hne) hF)
    have e2 : (fun a b => Rl (og n f (i + 1)).1 a b ∨ F a b) = fun a b => Rl (og n f i).1 a b ∨ (Cls (Ed n (og n f i).2) (fstX n (og n f i).2, fstY n (og n f i).2) (a, b) ∨ F a b) := ext2 fun a b => by
      rw [show (og n f (i + 1)).1 = orS (og n f i).1 (clsO n (og n f i).2) from rfl, rl_or hn hne, or_assoc]
    rw [e2]
    exact h1
theorem ori_ok (hn : n ≤ 7) (hf : GOK n f) (hN : NoClash (Ed n f)) : oriOk n f = true := by
  obtain ⟨h1, h2⟩ := stopG_spec (f := f) hn
  have hI := ninv hn hf hN (stopG n f) h2
  have hO := oinv hn hf (stopG n f) h2
  have hem : emptyAt n f (stopG n f) = true := by
    cases he : emptyAt n f (stopG n f) with
    | true => rfl
    | false =>
      have hne := empty_ne he
      unfold endAt at h1
      rw [he, Bool.false_or] at h1
      unfold failAt at h1
      obtain ⟨k, hk, hc, _⟩ := any_first _ _ h1
      unfold clashA at hc
      have hm : (clsO n (og n f (stopG n f)).2).getD k (0, 0) ∈ clsO n (og n f (stopG n f)).2 := by simp [hk]
      generalize (clsO n (og n f (stopG n f)).2).getD k (0, 0) = p at hc hm
      obtain ⟨r1, r2⟩ := cls_rng hn hne p hm
      have hp := (clsO_mem hn hne).1 hm
      rcases (rl_or hn hne).1 (show Rl _ p.2 p.1 from ⟨r2, r1, hc⟩) with h | h
      · exact absurd (hp.mem (fst_ed hne)) (hO.dis h).2
      · exact absurd (((hp.symm hO.gok.graph (fst_ed hne)).trans h)) (hI.nc p (hp.mem (fst_ed hne)))
  have he : ∀ {x y}, ¬ Ed n (og n f (stopG n f)).2 x y := fun {x y} => empty_ed (Nat.eq_of_beq_eq_true hem)
  have hT := hI.join (fun _ _ => False) ⟨fun h => h.elim, fun h => absurd h he, fun h => h.elim, fun h => h.elim⟩
  have e : (fun a b => Rl (og n f (stopG n f)).1 a b ∨ False) = Rl (og n f (stopG n f)).1 := ext2 fun a b => by simp
  rw [e] at hT
  unfold oriOk
  rw [hem, Bool.true_and]
  exact transB_Rl.2 ⟨hT.asym, hT.trans⟩
theorem ori_iff (hn : n ≤ 7) (hf : GOK n f) : oriOk n f = true ↔ NoClash (Ed n f) := ⟨fun h => to_noClash hf.graph (ori_to hn hf h), ori_ok hn hf⟩
end
end Go.Proofs.Yteekkjfjpoaihaa.Eng
namespace Go.Proofs.Yteekkjfjpoaihaa.Eng
open Go Go.Proofs
def hB (f : Nat → Bool) (g : Nat → Nat) (i : Nat) : Nat → Nat
  | 0 => 0
  | c + 1 => bif at7 f c i then max (hB f g i c) (g c + 1) else hB f g i c
def hgt (f : Nat → Bool) (n : Nat) : Nat → Nat → Nat
  | 0, _ => 0
  | k + 1, i => hB f (hgt f n k) i n
def cntB (p : Nat → Bool) : Nat → Nat
  | 0 => 0
  | n + 1 => cntB p n + bif p n then 1 else 0
theorem cntB_le (p : Nat → Bool) : ∀ n, cntB p n ≤ n
  | 0 => Nat.le_refl _
  | n + 1 => by
    have := cntB_le p n
    unfold cntB
    cases p n <;> simp <;> omega
theorem cntB_mono {p q : Nat → Bool} : ∀ {n : Nat}, (∀ x, x < n → p x = true → q x = true) → cntB p n ≤ cntB q n
  | 0, _ => Nat.le_refl _
  | n + 1, h => by
    have h1 := cntB_mono (p := p) (q := q) (n := n) fun x hx => h x (by omega)
    have h2 := h n (by omega)
    unfold cntB
    cases hp : p n with
    | false => cases q n <;> simp <;> omega
    | true => rw [h2 hp]; simp; omega
theorem cntB_lt {p q : Nat → Bool} : ∀ {n : Nat}, (∀ x, x < n → p x = true → q x = true) → (∃ x, x < n ∧ p x = false ∧ q x = true) → cntB p n < cntB q n
  | 0, _, ⟨x, hx, _⟩ => absurd hx (by omega)
  | n + 1, h, ⟨x, hx, hp, hq⟩ => by
    unfold cntB
    by_cases hxn : x = n
    · subst hxn
      have h1 := cntB_mono (p := p) (q := q) (n := x) fun y hy => h y (by omega)
      rw [hp, hq]
      simp
      omega
    · have h1 := cntB_lt (p := p) (q := q) (n := n) (fun y hy => h y (by omega)) ⟨x, by omega, hp, hq⟩
      have h2 := h n (by omega)
      cases hpn : p n with
      | false => cases q n <;> simp <;> omega
      | true => rw [h2 hpn]; simp; omega
/-- how many nodes are below one -/
def prc (f : Nat → Bool) (n i : Nat) : Nat := cntB (fun c => at7 f c i) n
theorem prc_lt {f : Nat → Bool} {n c i : Nat} (ht : transB f = true) (hn : n ≤ 7) (hc : c < n) (hi : i < n) (h : at7 f c i = true) : prc f n c < prc f n i := by
  have key : ∀ a b, a < 7 → b < 7 → at7 f a b = true → at7 f b a = false ∧ ∀ c, c < 7 → at7 f b c = true → at7 f a c = true := by
    exact transB_iff.1 ht
  refine cntB_lt (fun x hx hp => (key x c (by omega) (by omega) hp).2 i (by omega) h) ⟨c, hc, ?_, h⟩
  cases hcc : at7 f c c with
  | false => rfl
  | true =>
    have := (key c c (by omega) (by omega) hcc).1
    rw [hcc] at this
    cases this
theorem hB_le {f : Nat → Bool} {g : Nat → Nat} {i b : Nat} : ∀ n, (∀ c, c < n → at7 f c i = true → g c + 1 ≤ b) → hB f g i n ≤ b
  | 0, _ => by simp [hB]
  | c + 1, h => by
    have h1 := hB_le (f := f) (g := g) (i := i) (b := b) c fun x hx => h x (by omega)
    unfold hB
    cases hc : at7 f c i with
    | false => simpa using h1
    | true =>
      have := h c (by omega) hc
      simp
      omega
theorem hgt_le (f : Nat → Bool) (n : Nat) : ∀ k i, hgt f n k i ≤ k
  | 0, i => Nat.le_refl _
  | k + 1, i => hB_le n fun c hc _ => by
    have := hgt_le f n k c
    omega
abbrev HL (ro : Bool) (n : Nat) (f : Nat → Bool) (q : List Int) : List HO := [⟨ro, .row 70 [] 49 f⟩, ⟨ro, .row 3 [.int .i64 (Int.ofNat n)] 0 ff⟩, ⟨ro, .ivec 3 .i64 1 q⟩, ⟨ro, .row 131 [.fn 95 [1, 0, 3]] 0 ff⟩]
abbrev AL (i : Nat) : List AV := [.s (.int .i64 (Int.ofNat i)), .s (.ptr 1 0 0), .s (.ptr 0 0 0), .s (.ptr 3 0 0)]
noncomputable abbrev spO (ro : Bool) (n : Nat) (f : Nat → Bool) (q : List Int) (i v : Nat) : Spec := spAt (AL i) (mkSt [] (HL ro n f q) 4 []).hp.get 4 (I (Int.ofNat v)) [] []
abbrev sl95 (i : Nat) : List (Nat × Slot) := [(0, iS i), (1, g1S 1), (2, g1S 0), (3, g1S 3)]
def L95 : XC := x95.body.b.b.a.b.i.i
abbrev S95 (n : Nat) (f : Nat → Bool) (q : List Int) (i : Nat) (e : Int) (c : Nat) : St := mkSt (sl95 i ++ [(6, iS e), (8, iS n), (9, iS c)]) (HL true n f q) 4 []
abbrev id4 : List Nat := [0, 1, 2, 3]
def L9s (s : Spec) : List (Nat × Spec) := [(95, s)]
theorem L9s_ok {s : Spec} (h : SpecOK PP (compC T) 95 s) (hfp : SpecFp s) : SpecsL (L9s s) := specsL_cons h hfp o95 (fun p hp => absurd hp (by simp))
noncomputable abbrev g9s (s : Spec) : Cal → Option Spec := specsΓ (L9s s)
theorem env9s {s : Spec} (h : SpecOK PP (compC T) 95 s) (hfp : SpecFp s) : EnvOK PP T (g9s s) := envL (L9s_ok h hfp)
theorem a95 {n : Nat} {f : Nat → Bool} {q : List Int} {i : Nat}  : Exec PP T none x95.nt 4 x95.body.a (mkSt (sl95 i) (HL true n f q) 4 []) .n (mkSt (sl95 i) (HL true n f q) 4 []) := by
  refine exec_orunG env0 false 60 [] id4 (fun _ => rfl) (by kernel_rfl) (by kernel_rfl) (by kernel_rfl) (by kernel_rfl)
theorem b95 {n : Nat} {f : Nat → Bool} {q : List Int} {i : Nat}  : Exec PP T none x95.nt 4 x95.body.b.a (mkSt (sl95 i) (HL true n f q) 4 []) .n (mkSt (sl95 i ++ [(6, iS 0)]) (HL true n f q) 4 []) := by
  refine exec_orunG env0 false 60 [] id4 (fun _ => rfl) (by kernel_rfl) (by kernel_rfl) (by kernel_rfl) (by kernel_rfl)
theorem cc95 {n : Nat} {f : Nat → Bool} {q : List Int} {i : Nat}  : Exec PP T none x95.nt 4 x95.body.b.b.a.a (mkSt (sl95 i ++ [(6, iS 0)]) (HL true n f q) 4 []) .n (S95 n f q i 0 0) := by
  refine exec_orunG env0 false 60 [] id4 (fun _ => rfl) (by kernel_rfl) (by kernel_rfl) (by kernel_rfl) (by kernel_rfl)
theorem l95f {n : Nat} {f : Nat → Bool} {q : List Int} {i : Nat} {e : Int} {c : Nat} (hn : n ≤ 7) (hi : i < n) (hc : c < n) (h : at7 f c i = false) : Exec PP T none x95.nt 4 L95 (S95 n f q i e c) .n (S95 n f q i e (c + 1)) := by
  refine exec_orunG env0 false 60 [true, false] id4 (fun _ => rfl) (by kernel_rfl) (by kernel_rfl) (by kernel_rfl) ?_
  rw [(show obOf (orun g0 false 60 L95 (S95 n f q i e c) [true, false]) = (decide (Int.ofNat c < Int.ofNat n) && true && (decide (0 ≤ Int.ofNat c) && decide (Int.ofNat c < 7) && (decide (0 ≤ Int.ofNat i) && decide (Int.ofNat i < 7) && (decide (0 + (0 + c * 7 + i * 1) < 49) && true)) && (!f (0 + (0 + c * 7 + i * 1)) && true) && (rng64 (Int.ofNat c.succ) && true))) from by kernel_rfl)]
  simp only [at7_raw, h]
  simp [rng64]
  omega
theorem l95t {n : Nat} {f : Nat → Bool} {q : List Int} {i : Nat} {e : Int} {c v : Nat} (hs : SpecOK PP (compC T) 95 (spO true n f q c v)) (hn : n ≤ 7) (hi : i < n) (hc : c < n) (hv : v < 100) (h : at7 f c i = true) : Exec PP T none x95.nt 4 L95 (S95 n f q i e c) .n (S95 n f q i (max e (Int.ofNat v + 1)) (c + 1)) := by
  refine exec_orunG (env9s hs spAt_fp) false 60 [true, true] id4 (fun _ => rfl) (by kernel_rfl) (by kernel_rfl) (by kernel_rfl) ?_
  rw [(show obOf (orun (g9s (spO true n f q c v)) false 60 L95 (S95 n f q i e c) [true, true]) = (decide (Int.ofNat c < Int.ofNat n) && true && (decide (0 ≤ Int.ofNat c) && decide (Int.ofNat c < 7) && (decide (0 ≤ Int.ofNat i) && decide (Int.ofNat i < 7) && (decide (0 + (0 + c * 7 + i * 1) < 49) && true)) && (f (0 + (0 + c * 7 + i * 1)) && (atB (AL c) (AL c) (mkSt [] (HL true n f q) 4 []).hp.get (mkSt [] (HL true n f q) 4 []).hp.get 4 4 && (rng64 (Int.ofNat v.succ) && true))) && (rng64 (Int.ofNat c.succ) && true))) from by kernel_rfl)]
  simp only [at7_raw, h]
  simp [rng64]
  omega
theorem z95 {n : Nat} {f : Nat → Bool} {q : List Int} {i : Nat} {e : Int}  : Exec PP T none x95.nt 4 L95 (S95 n f q i e n) (.x 0) (S95 n f q i e n) := by
  refine exec_orunG env0 false 60 [false] id4 (fun _ => rfl) (by kernel_rfl) (by kernel_rfl) (by kernel_rfl) ?_
  rw [(show obOf (orun g0 false 60 L95 (S95 n f q i e n) [false]) = (!decide (Int.ofNat n < Int.ofNat n) && true) from by kernel_rfl)]
  all_goals (first | rfl | (simp; done) | (simp; omega) | (simp [rng64]; done) | (simp [rng64]; omega) | (simp [rng64_eq]; omega))
theorem d95 {n : Nat} {f : Nat → Bool} {q : List Int} {i : Nat} {e : Int}  : Exec PP T none x95.nt 4 x95.body.b.b.b (S95 n f q i e n) .r (mkSt [(5, iS e)] (HL true n f q) 4 []) := by
  refine exec_orunG env0 false 60 [] id4 (fun _ => rfl) (by kernel_rfl) (by kernel_rfl) (by kernel_rfl) (by kernel_rfl)
theorem body95 {n : Nat} {f : Nat → Bool} {q : List Int} {i : Nat} {g : Nat → Nat} (hn : n ≤ 7) (hi : i < n) (hg : ∀ c, g c < 100) (hs : ∀ c, c < n → at7 f c i = true → SpecOK PP (compC T) 95 (spO true n f q c (g c))) :
    Exec PP T none x95.nt 4 x95.body (mkSt (sl95 i) (HL true n f q) 4 []) .r (mkSt [(5, iS (hB f g i n))] (HL true n f q) 4 []) := by
  refine exec_seq (x := x95.body.a) (y := x95.body.b) a95 (exec_seq (x := x95.body.b.a) (y := x95.body.b.b) b95 (exec_seq (x := x95.body.b.b.a) (y := x95.body.b.b.b) (exec_seq (x := x95.body.b.b.a.a) (y := .block 0 (.loop L95)) cc95 (exec_block (e := .x 0) (S1 := S95 n f q i (hB f g i n) n) ?_)) d95))
  exact exec_loop_up (fun c => S95 n f q i (hB f g i c) c) n (fun c hc => by
    cases h : at7 f c i with
    | false =>
      have : hB f g i (c + 1) = hB f g i c := by show (bif at7 f c i then _ else _) = _; rw [h]; rfl
      simp only [this]
      exact l95f hn hi hc h
    | true =>
      have : ((hB f g i (c + 1) : Nat) : Int) = max ((hB f g i c : Nat) : Int) (Int.ofNat (g c) + 1) := by
        show (((bif at7 f c i then max (hB f g i c) (g c + 1) else hB f g i c) : Nat) : Int) = _
        rw [h, cond_true]
        simp
        omega
      simp only [this]
      exact l95t (hs c hc h) hn hi hc (hg c) h) z95 (by simp) 0 (by omega)
theorem ok95 {n : Nat} {f : Nat → Bool} {q : List Int} (ht : transB f = true) (hn : n ≤ 7) : ∀ (k : Nat) (ro : Bool) (i : Nat), k ≤ 50 → i < n → prc f n i < k → SpecOK PP (compC T) 95 (spO ro n f q i (hgt f n k i))
  | 0, ro, i, _, hi, hk => absurd hk (by omega)
  | k + 1, ro, i, h50, hi, hk => by
    have := body95 (f := f) (q := q) (g := hgt f n k) hn hi (fun c => by
      have := hgt_le f n k c
      omega) (fun c hc h => ok95 ht hn k true c (by omega) hc (by
      have := prc_lt ht hn hc hi h
      omega))
    exact spec_ro o95 (hs := HL ro n f q) (A := AL i) (by kernel_rfl) (by kernel_rfl) (by kernel_rfl) this (fun _ => rfl) (by kernel_rfl) rfl
def L62 : XC := x62.body.b.b.b.b.a.b.i.i
abbrev S62 (n : Nat) (f : Nat → Bool) (q : List Int) (i : Nat) : St := mkSt [(5, s1S 2 n), (6, g1S 3), (11, iS n), (12, iS i)] (HL false n f q) 4 []
def lqF (f : Nat → Bool) (n : Nat) : Nat → List Int
  | 0 => List.replicate n 0
  | i + 1 => (lqF f n i).set (0 + (0 + i) * 1) (Int.ofNat (hgt f n 8 i))
theorem lqF_len (f : Nat → Bool) (n : Nat) : ∀ i, (lqF f n i).length = n
  | 0 => by simp [lqF]
  | i + 1 => by simp [lqF, lqF_len f n i]
theorem lqF_at (f : Nat → Bool) (n : Nat) : ∀ i j, j < i → j < n → (lqF f n i).getD j 0 = Int.ofNat (hgt f n 8 j)
  | 0, j, h, _ => absurd h (by omega)
  | i + 1, j, h, hj => by
    show ((lqF f n i).set (0 + (0 + i) * 1) (Int.ofNat (hgt f n 8 i))).getD j 0 = _
    rw [show 0 + (0 + i) * 1 = i by omega, List.getD_eq_getElem?_getD, List.getElem?_set]
    by_cases e : i = j
    · subst e
      simp [lqF_len, hj]
    · rw [if_neg e, ← List.getD_eq_getElem?_getD]
      exact lqF_at f n i j (by omega) hj
theorem a62 {n : Nat} {f : Nat → Bool}  : Exec PP T none x62.nt 0 x62.body.a (startSt [.pb [] 49 f, .s (.int .i64 (Int.ofNat n))] []) .n (mkSt [(2, g1S 0), (3, g1S 1)] [⟨false, .row 70 [] 49 f⟩, ⟨false, .row 3 [.int .i64 (Int.ofNat n)] 0 ff⟩] 2 []) := by
  refine exec_orun env0 false 60 [] [0, 1] (fun _ => rfl) (by kernel_rfl) (by kernel_rfl) (by kernel_rfl) (by kernel_rfl)
theorem b62 {n : Nat} {f : Nat → Bool} (hn : n ≤ 7) : Exec PP T none x62.nt 0 x62.body.b.a (mkSt [(2, g1S 0), (3, g1S 1)] [⟨false, .row 70 [] 49 f⟩, ⟨false, .row 3 [.int .i64 (Int.ofNat n)] 0 ff⟩] 2 []) .n (mkSt [(2, g1S 0), (3, g1S 1), (5, s1S 2 n)] [⟨false, .row 70 [] 49 f⟩, ⟨false, .row 3 [.int .i64 (Int.ofNat n)] 0 ff⟩, ⟨false, .ivec 3 .i64 1 (List.replicate n 0)⟩] 3 []) := by
  refine exec_orun env0 false 60 [] [0, 1, 2] (fun _ => rfl) (by kernel_rfl) (by kernel_rfl) (by kernel_rfl) ?_
  rw [(show obOf (orun g0 false 60 x62.body.b.a (mkSt [(2, g1S 0), (3, g1S 1)] [⟨false, .row 70 [] 49 f⟩, ⟨false, .row 3 [.int .i64 (Int.ofNat n)] 0 ff⟩] 2 []) []) = (decide (0 ≤ Int.ofNat n) && decide (n ≤ 1000000000) && true && true && true) from by kernel_rfl)]
  simp [bndL]
  omega
theorem cc62 {n : Nat} {f : Nat → Bool} {q : List Int}  : Exec PP T none x62.nt 0 x62.body.b.b.a (mkSt [(2, g1S 0), (3, g1S 1), (5, s1S 2 n)] [⟨false, .row 70 [] 49 f⟩, ⟨false, .row 3 [.int .i64 (Int.ofNat n)] 0 ff⟩, ⟨false, .ivec 3 .i64 1 q⟩] 3 []) .n (mkSt [(2, g1S 0), (3, g1S 1), (5, s1S 2 n), (6, g1S 3)] [⟨false, .row 70 [] 49 f⟩, ⟨false, .row 3 [.int .i64 (Int.ofNat n)] 0 ff⟩, ⟨false, .ivec 3 .i64 1 q⟩, ⟨false, .row 131 [.nilf] 0 ff⟩] 4 []) := by
  refine exec_orun env0 false 60 [] [0, 1, 2, 3] (fun _ => rfl) (by kernel_rfl) (by kernel_rfl) (by kernel_rfl) (by kernel_rfl)
theorem d62 {n : Nat} {f : Nat → Bool} {q : List Int}  : Exec PP T none x62.nt 0 x62.body.b.b.b.a (mkSt [(2, g1S 0), (3, g1S 1), (5, s1S 2 n), (6, g1S 3)] [⟨false, .row 70 [] 49 f⟩, ⟨false, .row 3 [.int .i64 (Int.ofNat n)] 0 ff⟩, ⟨false, .ivec 3 .i64 1 q⟩, ⟨false, .row 131 [.nilf] 0 ff⟩] 4 []) .n (mkSt [(3, g1S 1), (5, s1S 2 n), (6, g1S 3)] (HL false n f q) 4 []) := by
  refine exec_orun env0 false 60 [] [0, 1, 2, 3] (fun _ => rfl) (by kernel_rfl) (by kernel_rfl) (by kernel_rfl) (by kernel_rfl)
theorem e62 {n : Nat} {f : Nat → Bool} {q : List Int}  : Exec PP T none x62.nt 0 x62.body.b.b.b.b.a.a (mkSt [(3, g1S 1), (5, s1S 2 n), (6, g1S 3)] (HL false n f q) 4 []) .n (S62 n f q 0) := by
  refine exec_orun env0 false 60 [] [0, 1, 2, 3] (fun _ => rfl) (by kernel_rfl) (by kernel_rfl) (by kernel_rfl) (by kernel_rfl)
theorem l62 {n : Nat} {f : Nat → Bool} {q : List Int} {i v : Nat} (hs : SpecOK PP (compC T) 95 (spO false n f q i v)) (hq : q.length = n) (hn : n ≤ 7) (hi : i < n) : Exec PP T none x62.nt 0 L62 (S62 n f q i) .n (S62 n f (q.set (0 + (0 + i) * 1) (Int.ofNat v)) (i + 1)) := by
  refine exec_orunG (env9s hs spAt_fp) false 60 [true] [0, 1, 2, 3] (fun _ => rfl) (by kernel_rfl) (by kernel_rfl) (by kernel_rfl) ?_
  rw [(show obOf (orun (g9s (spO false n f q i v)) false 60 L62 (S62 n f q i) [true]) = (decide (Int.ofNat i < Int.ofNat n) && true && (atB (AL i) (AL i) (mkSt [] (HL false n f q) 4 []).hp.get (mkSt [] (HL false n f q) 4 []).hp.get 4 4 && (decide (0 ≤ Int.ofNat i) && decide (Int.ofNat i < Int.ofNat n) && (decide (0 + (0 + i) * 1 < q.length) && true && true && true)) && (rng64 (Int.ofNat i.succ) && true))) from by kernel_rfl)]
  simp [rng64, hq]
  omega
theorem z62 {n : Nat} {f : Nat → Bool} {q : List Int}  : Exec PP T none x62.nt 0 L62 (S62 n f q n) (.x 0) (S62 n f q n) := by
  refine exec_orun env0 false 60 [false] [0, 1, 2, 3] (fun _ => rfl) (by kernel_rfl) (by kernel_rfl) (by kernel_rfl) ?_
  rw [(show obOf (orun g0 false 60 L62 (S62 n f q n) [false]) = (!decide (Int.ofNat n < Int.ofNat n) && true) from by kernel_rfl)]
  all_goals (first | rfl | (simp; done) | (simp; omega) | (simp [rng64]; done) | (simp [rng64]; omega) | (simp [rng64_eq]; omega))
theorem f62 {n : Nat} {f : Nat → Bool} {q : List Int}  : Exec PP T none x62.nt 0 x62.body.b.b.b.b.b (S62 n f q n) .r (mkSt [(4, s1S 0 n)] [⟨false, .ivec 3 .i64 1 q⟩] 1 []) := by
  refine exec_orun env0 false 60 [] [2] (fun _ => rfl) (by kernel_rfl) (by kernel_rfl) (by kernel_rfl) (by kernel_rfl)
theorem body62 {n : Nat} {f : Nat → Bool} (ht : transB f = true) (hn : n ≤ 7) : Exec PP T none x62.nt 0 x62.body (startSt [.pb [] 49 f, .s (.int .i64 (Int.ofNat n))] []) .r (mkSt [(4, s1S 0 n)] [⟨false, .ivec 3 .i64 1 (lqF f n n)⟩] 1 []) := by
  refine exec_seq (x := x62.body.a) (y := x62.body.b) a62 (exec_seq (x := x62.body.b.a) (y := x62.body.b.b) (b62 hn) (exec_seq (x := x62.body.b.b.a) (y := x62.body.b.b.b) cc62 (exec_seq (x := x62.body.b.b.b.a) (y := x62.body.b.b.b.b) d62 (exec_seq (x := x62.body.b.b.b.b.a) (y := x62.body.b.b.b.b.b) (exec_seq (x := x62.body.b.b.b.b.a.a) (y := .block 0 (.loop L62)) e62 (exec_block (e := .x 0) (S1 := S62 n f (lqF f n n) n) ?_)) f62))))
  exact exec_loop_up (fun i => S62 n f (lqF f n i) i) n (fun i hi => l62 (ok95 ht hn 8 false i (by omega) hi (by
    have := cntB_le (fun c => at7 f c i) n
    unfold prc
    omega)) (lqF_len f n i) hn hi) z62 (by simp) 0 (by omega)
def cLay : List PA → Bool := fun pas => match pas with | [.bs _ f, .int n] => transB f && (decide (0 ≤ n) && decide (n ≤ 7)) | _ => false
def nLay : List PA → List HO := fun pas => match pas with | [.bs _ f, .int n] => [⟨false, .ivec 3 .i64 1 (lqF f n.toNat n.toNat)⟩] | _ => [⟨false, .ivec 3 .i64 1 []⟩]
def vLay : List PA → TV := fun pas => match pas with | [.bs _ f, .int n] => .av (.s (.sl 0 0 1 n.toNat)) | _ => .av (.s (.sl 0 0 1 0))
noncomputable abbrev spLay : Spec := genS [.bs 49, .int] cLay vLay nLay
theorem ok62 : SpecOK PP (compC T) 62 spLay := ok_gen o62 (by kernel_rfl) fun pas hf hc => match pas, hf with
  | [.bs _ f, .int n], ⟨rfl, _, _⟩ => by
    unfold cLay at hc
    simp only [Bool.and_eq_true, decide_eq_true_eq] at hc
    obtain ⟨k, rfl⟩ : ∃ k : Nat, n = Int.ofNat k := ⟨n.toNat, by simp; omega⟩
    exact ⟨_, 1, .r, body62 hc.1 (by have := hc.2.2; simp at this; omega), fun _ => rfl, by kernel_rfl, by kernel_rfl, by kernel_rfl⟩
end Go.Proofs.Yteekkjfjpoaihaa.Eng
namespace Go.Proofs.Yteekkjfjpoaihaa.Eng
open Go Go.Proofs
noncomputable def Lr20 : List (Nat × Spec) := [(59, pureS (intPairsX 0 anyC orderR)), (62, spLay)]
theorem Lr20_ok : SpecsL Lr20 := specsL_cons ok59 (pureS_fp (intPairsX_fp _ _ _)) o59 (specsL_cons ok62 (genS_fp) o62 (fun p hp => absurd hp (by simp)))
noncomputable abbrev gr20 : Cal → Option Spec := specsΓ Lr20
theorem envr20 : EnvOK PP T gr20 := envL Lr20_ok
def ordC (n : Int) (q : List Int) (m : Nat) : Bool := orderE n q m == 0 && (transB (orderF n q m) && (decide (1 ≤ n) && decide (n ≤ 7)))
theorem ordC_at {n : Nat} {q : List Int} {m : Nat} (h : ordC (Int.ofNat n) q m = true) : orderE (Int.ofNat n) q m = 0 ∧ transB (orderF (Int.ofNat n) q m) = true ∧ 1 ≤ n ∧ n ≤ 7 := by
  unfold ordC at h
  simp only [Bool.and_eq_true, decide_eq_true_eq, beq_iff_eq] at h
  have h1 := h.2.2.1
  have h2 := h.2.2.2
  simp at h1 h2
  exact ⟨h.1, h.2.1, by omega, by omega⟩
theorem body20 {n : Nat} {q : List Int} {m : Nat} (hq : q.length = m * 2) (hm : m ≤ 1000000000) (h : ordC (Int.ofNat n) q m = true) : Exec PP T none x20.nt 0 x20.body (startSt (A40 (Int.ofNat n) m) (H1 q)) .r (mkSt [(4, s1S 0 n), (5, iS 0)] [⟨false, .ivec 3 .i64 1 (lqF (orderF (Int.ofNat n) ((q.drop (0 * 2)).take (m * 2)) m) n n)⟩] 1 []) := by
  refine exec_orun envr20 false 60 [false] [10] (fun _ => rfl) (by kernel_rfl) (by kernel_rfl) (by kernel_rfl) ?_
  rw [(show obOf (orun gr20 false 60 x20.body (startSt (A40 (Int.ofNat n) m) (H1 q)) [false]) = (decide ((0 + m) * 2 ≤ q.length) && (decide (m ≤ 1000000000) && true) && true && (!orderE (Int.ofNat n) (List.take (m * 2) q) m != 0 && true && (transB (orderF (Int.ofNat n) (List.take (m * 2) q) m) && (decide (0 ≤ Int.ofNat n) && decide (Int.ofNat n ≤ 7)) && true && true && true && true))) from by kernel_rfl)]
  obtain ⟨h1, h2, h3, h4⟩ := ordC_at h
  simp only [take_all2 hq, take2 hq, cLay, h1, h2]
  simp [bndL, hq]
  omega
def cLays : List PA → Bool := fun pas => match pas with | [.int n, .sl _ q m] => ordC n q m | _ => false
def nLays : List PA → List HO := fun pas => match pas with | [.int n, .sl _ q m] => [⟨false, .ivec 3 .i64 1 (lqF (orderF n q m) n.toNat n.toNat)⟩] | _ => [⟨false, .ivec 3 .i64 1 []⟩]
def vLays : List PA → TV := fun pas => match pas with | [.int n, .sl _ q m] => .tup [.s (.sl 0 0 1 n.toNat), .s (.int .i64 0)] | _ => .tup [.s (.sl 0 0 1 0), .s (.int .i64 0)]
noncomputable abbrev spLays : Spec := genS [.int, .sl 2] cLays vLays nLays
theorem ordC_nat {n : Int} {q : List Int} {m : Nat} (h : ordC n q m = true) : ∃ k : Nat, n = Int.ofNat k := by
  unfold ordC at h
  simp only [Bool.and_eq_true, decide_eq_true_eq, beq_iff_eq] at h
  exact ⟨n.toNat, by simp; omega⟩
theorem ok20 : SpecOK PP (compC T) 20 spLays := ok_gen o20 (by kernel_rfl) fun pas hf hc => match pas, hf with
  | [.int n, .sl _ q m], ⟨_, ⟨rfl, hq, hm⟩, _⟩ => by
    obtain ⟨k, rfl⟩ := ordC_nat hc
    have := body20 hq hm hc
    rw [take_all2 hq] at this
    exact ⟨_, 1, .r, this, fun _ => rfl, by kernel_rfl, by kernel_rfl, by kernel_rfl⟩
noncomputable def Li19 : List (Nat × Spec) := [(64, spMax), (63, spIdx)]
theorem Li19_ok : SpecsL Li19 := specsL_cons ok64 (genS_fp) o64 (specsL_cons ok63 (genS_fp) o63 (fun p hp => absurd hp (by simp)))
noncomputable abbrev gi19 : Cal → Option Spec := specsΓ Li19
theorem envi19 : EnvOK PP T gi19 := envL Li19_ok
noncomputable def s65 : Spec := callS x65 (crun g0 false 60)
theorem ok65 : SpecOK PP (compC T) 65 s65 := callS_ok tokP o65 fun c S S' e kp nt hr => (crun_snd env0 (fun _ => rfl) 60 c S S' e hr).1
noncomputable def Lv19 : List (Nat × Spec) := [(65, s65)]
theorem Lv19_ok : SpecsL Lv19 := specsL_cons ok65 (callS_fp) o65 (fun p hp => absurd hp (by simp))
noncomputable abbrev gv19 : Cal → Option Spec := specsΓ Lv19
theorem envv19 : EnvOK PP T gv19 := envL Lv19_ok
abbrev HN (f : Nat → Bool) (l o : List Int) : List HO := [⟨false, .row 70 [] 49 f⟩, ⟨false, .ivec 3 .i64 1 l⟩, ⟨false, .ivec 3 .i64 1 o⟩]
abbrev D19 (n : Nat) (f : Nat → Bool) (l : List Int) : St := mkSt [(0, iS n), (6, g1S 0), (8, s1S 1 n)] [⟨false, .row 70 [] 49 f⟩, ⟨false, .ivec 3 .i64 1 l⟩] 2 []
abbrev E19 (n : Nat) (f : Nat → Bool) (l : List Int) (a : Nat) : St := mkSt [(0, iS n), (6, g1S 0), (8, s1S 1 n), (9, iS a)] [⟨false, .row 70 [] 49 f⟩, ⟨false, .ivec 3 .i64 1 l⟩] 2 []
abbrev S19 (n : Nat) (f : Nat → Bool) (l : List Int) (a : Nat) (o : List Int) (on : Nat) : St := mkSt [(0, iS n), (6, g1S 0), (8, s1S 1 n), (9, iS a), (10, s1S 2 on)] (HN f l o) 3 []
abbrev U19 (n : Nat) (f : Nat → Bool) (l : List Int) (a : Nat) (o : List Int) (on k : Nat) : St := mkSt [(0, iS n), (6, g1S 0), (8, s1S 1 n), (9, iS a), (10, s1S 2 on), (35, iS n), (36, iS k)] (HN f l o) 3 []
def L19 : XC := x19.body.b.b.b.b.b.b.a.i.i
def M19 : XC := L19.b.i.a.b.i.i
theorem a19 {n : Nat} {q : List Int} {m : Nat}  : Exec PP T none x19.nt 0 x19.body.a (startSt (A40 (Int.ofNat n) m) (H1 q)) .n (mkSt [(0, iS n), (1, lsS 0 m)] (H1 q) 1 []) := by
  refine exec_orun env0 false 60 [] [0] (fun _ => rfl) (by kernel_rfl) (by kernel_rfl) (by kernel_rfl) (by kernel_rfl)
theorem b19 {n : Nat} {q : List Int} {m : Nat} (hq : q.length = m * 2) (hm : m ≤ 1000000000) : Exec PP T none x19.nt 0 x19.body.b.a (mkSt [(0, iS n), (1, lsS 0 m)] (H1 q) 1 []) .n (mkSt [(0, iS n), (6, g1S 0), (7, iS (orderE (Int.ofNat n) ((q.drop (0 * 2)).take (m * 2)) m))] [⟨false, .row 70 [] 49 (orderF (Int.ofNat n) ((q.drop (0 * 2)).take (m * 2)) m)⟩] 1 []) := by
  refine exec_orun envr20 false 60 [] [9] (fun _ => rfl) (by kernel_rfl) (by kernel_rfl) (by kernel_rfl) ?_
  rw [(show obOf (orun gr20 false 60 x19.body.b.a (mkSt [(0, iS n), (1, lsS 0 m)] (H1 q) 1 []) []) = (decide ((0 + m) * 2 ≤ q.length) && (decide (m ≤ 1000000000) && true) && true) from by kernel_rfl)]
  simp [bndL, hq]
  omega
theorem cc19 {n : Nat} {f : Nat → Bool}  : Exec PP T none x19.nt 0 x19.body.b.b.a (mkSt [(0, iS n), (6, g1S 0), (7, iS 0)] [⟨false, .row 70 [] 49 f⟩] 1 []) .n (mkSt [(0, iS n), (6, g1S 0)] [⟨false, .row 70 [] 49 f⟩] 1 []) := by
  refine exec_orun env0 false 60 [false] [0] (fun _ => rfl) (by kernel_rfl) (by kernel_rfl) (by kernel_rfl) (by kernel_rfl)
theorem d19 {n : Nat} {f : Nat → Bool} (ht : transB f = true) (hn : n ≤ 7) : Exec PP T none x19.nt 0 x19.body.b.b.b.a (mkSt [(0, iS n), (6, g1S 0)] [⟨false, .row 70 [] 49 f⟩] 1 []) .n (D19 n f (lqF f n n)) := by
  refine exec_orun envr20 false 60 [] [0, 1] (fun _ => rfl) (by kernel_rfl) (by kernel_rfl) (by kernel_rfl) ?_
  rw [(show obOf (orun gr20 false 60 x19.body.b.b.b.a (mkSt [(0, iS n), (6, g1S 0)] [⟨false, .row 70 [] 49 f⟩] 1 []) []) = (transB f && (decide (0 ≤ Int.ofNat n) && decide (Int.ofNat n ≤ 7)) && true && true && true) from by kernel_rfl)]
  simp only [cLay, ht]
  simp
  omega
theorem e19 {n : Nat} {f : Nat → Bool} {l : List Int} {a : Nat} (hl : l.length = n) (h1 : 1 ≤ n) (hn : n ≤ 7) : Exec PP T none x19.nt 0 x19.body.b.b.b.b.a (D19 n f l) .n (mkSt [(0, iS n), (6, g1S 0), (8, s1S 1 n), (9, iS (idxF ((l.drop (0 * 1)).take (n * 1)) n (mxF ((l.drop (0 * 1)).take (n * 1)) (n - 1))))] [⟨false, .row 70 [] 49 f⟩, ⟨false, .ivec 3 .i64 1 l⟩] 2 []) := by
  refine exec_orun envi19 false 60 [] [0, 1] (fun _ => rfl) (by kernel_rfl) (by kernel_rfl) (by kernel_rfl) ?_
  rw [(show obOf (orun gi19 false 60 x19.body.b.b.b.b.a (D19 n f l) []) = (decide ((0 + n) * 1 ≤ l.length) && decide (n ≤ 1000000000) && true && decide (0 < n) && (decide ((0 + n) * 1 ≤ l.length) && decide (n ≤ 1000000000) && true && true && true)) from by kernel_rfl)]
  simp [bndL, hl, cMax]
  omega
theorem f19 {n : Nat} {f : Nat → Bool} {l : List Int} {a : Nat}  : Exec PP T none x19.nt 0 x19.body.b.b.b.b.b.a (E19 n f l a) .n (S19 n f l a [Int.ofNat a] 1) := by
  refine exec_orun env0 false 60 [] [0, 1, 2] (fun _ => rfl) (by kernel_rfl) (by kernel_rfl) (by kernel_rfl) (by kernel_rfl)
theorem l19a {n : Nat} {f : Nat → Bool} {l : List Int} {a : Nat} {o : List Int} {on : Nat} (hl : l.length = n) (ha : a < n) (h : 0 < at1 l a) : Exec PP T none x19.nt 0 L19.a (S19 n f l a o on) .n (S19 n f l a o on) := by
  refine exec_orun env0 false 60 [true] [0, 1, 2] (fun _ => rfl) (by kernel_rfl) (by kernel_rfl) (by kernel_rfl) ?_
  rw [(show obOf (orun g0 false 60 L19.a (S19 n f l a o on) [true]) = (decide (0 ≤ Int.ofNat a) && decide (Int.ofNat a < Int.ofNat n) && (decide (0 + (0 + a) * 1 < l.length) && true) && (decide (l.getD (0 + (0 + a) * 1) 0 > 0) && true)) from by kernel_rfl)]
  unfold at1 at h
  simp only [decide_eq_true h]
  simp [hl]
  omega
theorem l19x {n : Nat} {f : Nat → Bool} {l : List Int} {a : Nat} {o : List Int} {on : Nat} (hl : l.length = n) (ha : a < n) (h : ¬ 0 < at1 l a) : Exec PP T none x19.nt 0 L19.a (S19 n f l a o on) (.x 0) (S19 n f l a o on) := by
  refine exec_orun env0 false 60 [false] [0, 1, 2] (fun _ => rfl) (by kernel_rfl) (by kernel_rfl) (by kernel_rfl) ?_
  rw [(show obOf (orun g0 false 60 L19.a (S19 n f l a o on) [false]) = (decide (0 ≤ Int.ofNat a) && decide (Int.ofNat a < Int.ofNat n) && (decide (0 + (0 + a) * 1 < l.length) && true) && (!decide (l.getD (0 + (0 + a) * 1) 0 > 0) && true)) from by kernel_rfl)]
  unfold at1 at h
  rw [decide_eq_false h]
  simp [hl]
  omega
theorem l19c {n : Nat} {f : Nat → Bool} {l : List Int} {a : Nat} {o : List Int} {on : Nat}  : Exec PP T none x19.nt 0 L19.b.i.a.a (S19 n f l a o on) .n (U19 n f l a o on 0) := by
  refine exec_orun env0 false 60 [] [0, 1, 2] (fun _ => rfl) (by kernel_rfl) (by kernel_rfl) (by kernel_rfl) (by kernel_rfl)
def tst19 (f : Nat → Bool) (l : List Int) (a k : Nat) : Bool := at7 f k a && (at1 l k == at1 l a - 1)
theorem m19f {n : Nat} {f : Nat → Bool} {l : List Int} {a : Nat} {o : List Int} {on k : Nat} (hl : l.length = n) (hn : n ≤ 7) (ha : a < n) (hk : k < n) (hv : 0 ≤ at1 l a ∧ at1 l a ≤ 100) (h : tst19 f l a k = false) : Exec PP T none x19.nt 0 M19 (U19 n f l a o on k) .n (U19 n f l a o on (k + 1)) := by
  refine exec_orun env0 false 60 [true, false] [0, 1, 2] (fun _ => rfl) (by kernel_rfl) (by kernel_rfl) (by kernel_rfl) ?_
  rw [(show obOf (orun g0 false 60 M19 (U19 n f l a o on k) [true, false]) = (decide (Int.ofNat k < Int.ofNat n) && true && (decide (0 ≤ Int.ofNat k) && decide (Int.ofNat k < 7) && (decide (0 ≤ Int.ofNat a) && decide (Int.ofNat a < 7) && (decide (0 + (0 + k * 7 + a * 1) < 49) && ((!f (0 + (0 + k * 7 + a * 1)) == true || true) && ((!f (0 + (0 + k * 7 + a * 1)) == true || true) && ((!f (0 + (0 + k * 7 + a * 1)) == true || f (0 + (0 + k * 7 + a * 1)) == true && (f (0 + (0 + k * 7 + a * 1)) == true && true) && (decide (0 ≤ Int.ofNat k) && decide (Int.ofNat k < Int.ofNat n))) && ((!f (0 + (0 + k * 7 + a * 1)) == true || f (0 + (0 + k * 7 + a * 1)) == true && true && decide (0 + (0 + k) * 1 < l.length)) && ((!f (0 + (0 + k * 7 + a * 1)) == true || true) && ((!f (0 + (0 + k * 7 + a * 1)) == true || true) && ((!f (0 + (0 + k * 7 + a * 1)) == true || f (0 + (0 + k * 7 + a * 1)) == true && (f (0 + (0 + k * 7 + a * 1)) == true && true) && (decide (0 ≤ Int.ofNat a) && decide (Int.ofNat a < Int.ofNat n))) && ((!f (0 + (0 + k * 7 + a * 1)) == true || f (0 + (0 + k * 7 + a * 1)) == true && true && decide (0 + (0 + a) * 1 < l.length)) && ((!f (0 + (0 + k * 7 + a * 1)) == true || f (0 + (0 + k * 7 + a * 1)) == true && true && rng64 (l.getD (0 + (0 + a) * 1) 0 - 1)) && ((!f (0 + (0 + k * 7 + a * 1)) == true || f (0 + (0 + k * 7 + a * 1)) == true && (f (0 + (0 + k * 7 + a * 1)) == true && true) && true) && ((bif f (0 + (0 + k * 7 + a * 1)) then f (0 + (0 + k * 7 + a * 1)) == true else true) && true && true))))))))))))) && true && ((!bif f (0 + (0 + k * 7 + a * 1)) then l.getD (0 + (0 + k) * 1) 0 == l.getD (0 + (0 + a) * 1) 0 - 1 else false) && true) && (rng64 (Int.ofNat k.succ) && true))) from by kernel_rfl)]
  simp only [at7_raw]
  unfold tst19 at1 at h
  unfold at1 at hv
  revert h
  generalize (l.getD (0 + (0 + k) * 1) 0 == l.getD (0 + (0 + a) * 1) 0 - 1) = Z
  cases at7 f k a <;> cases Z <;> simp [rng64_eq, hl] at hv ⊢ <;> omega
theorem m19t {n : Nat} {f : Nat → Bool} {l : List Int} {a : Nat} {o : List Int} {on k : Nat} (hl : l.length = n) (hn : n ≤ 7) (ha : a < n) (hk : k < n) (hv : 0 ≤ at1 l a ∧ at1 l a ≤ 100) (h : tst19 f l a k = true) : Exec PP T none x19.nt 0 M19 (U19 n f l a o on k) (.x 2) (S19 n f l k o on) := by
  refine exec_orun env0 false 60 [true, true] [0, 1, 2] (fun _ => rfl) (by kernel_rfl) (by kernel_rfl) (by kernel_rfl) ?_
  rw [(show obOf (orun g0 false 60 M19 (U19 n f l a o on k) [true, true]) = (decide (Int.ofNat k < Int.ofNat n) && true && (decide (0 ≤ Int.ofNat k) && decide (Int.ofNat k < 7) && (decide (0 ≤ Int.ofNat a) && decide (Int.ofNat a < 7) && (decide (0 + (0 + k * 7 + a * 1) < 49) && ((!f (0 + (0 + k * 7 + a * 1)) == true || true) && ((!f (0 + (0 + k * 7 + a * 1)) == true || true) && ((!f (0 + (0 + k * 7 + a * 1)) == true || f (0 + (0 + k * 7 + a * 1)) == true && (f (0 + (0 + k * 7 + a * 1)) == true && true) && (decide (0 ≤ Int.ofNat k) && decide (Int.ofNat k < Int.ofNat n))) && ((!f (0 + (0 + k * 7 + a * 1)) == true || f (0 + (0 + k * 7 + a * 1)) == true && true && decide (0 + (0 + k) * 1 < l.length)) && ((!f (0 + (0 + k * 7 + a * 1)) == true || true) && ((!f (0 + (0 + k * 7 + a * 1)) == true || true) && ((!f (0 + (0 + k * 7 + a * 1)) == true || f (0 + (0 + k * 7 + a * 1)) == true && (f (0 + (0 + k * 7 + a * 1)) == true && true) && (decide (0 ≤ Int.ofNat a) && decide (Int.ofNat a < Int.ofNat n))) && ((!f (0 + (0 + k * 7 + a * 1)) == true || f (0 + (0 + k * 7 + a * 1)) == true && true && decide (0 + (0 + a) * 1 < l.length)) && ((!f (0 + (0 + k * 7 + a * 1)) == true || f (0 + (0 + k * 7 + a * 1)) == true && true && rng64 (l.getD (0 + (0 + a) * 1) 0 - 1)) && ((!f (0 + (0 + k * 7 + a * 1)) == true || f (0 + (0 + k * 7 + a * 1)) == true && (f (0 + (0 + k * 7 + a * 1)) == true && true) && true) && ((bif f (0 + (0 + k * 7 + a * 1)) then f (0 + (0 + k * 7 + a * 1)) == true else true) && true && true))))))))))))) && true && ((bif f (0 + (0 + k * 7 + a * 1)) then l.getD (0 + (0 + k) * 1) 0 == l.getD (0 + (0 + a) * 1) 0 - 1 else false) && true))) from by kernel_rfl)]
  simp only [at7_raw]
  unfold tst19 at1 at h
  unfold at1 at hv
  revert h
  generalize (l.getD (0 + (0 + k) * 1) 0 == l.getD (0 + (0 + a) * 1) 0 - 1) = Z
  cases at7 f k a <;> cases Z <;> simp [rng64_eq, hl] at hv ⊢ <;> omega
theorem l19d {n : Nat} {f : Nat → Bool} {l : List Int} {a : Nat} {o : List Int} {on : Nat} (ho : o.length = on) (hon : on ≤ 100) : Exec PP T none x19.nt 0 L19.b.i.b (S19 n f l a o on) .n (S19 n f l a (o.take (on * 1) ++ [Int.ofNat a]) (on + 1)) := by
  refine exec_orun env0 false 60 [] [0, 1, 4] (fun _ => rfl) (by kernel_rfl) (by kernel_rfl) (by kernel_rfl) ?_
  rw [(show obOf (orun g0 false 60 L19.b.i.b (S19 n f l a o on) []) = (decide (1 ≤ 1) && decide (on * 1 ≤ o.length) && decide (on.succ ≤ 1000000000) && true && true && true) from by kernel_rfl)]
  simp [bndL, ho]
  omega
theorem i19 {n : Nat} {f : Nat → Bool} {l : List Int} {a : Nat} {o : List Int} {on : Nat}  : Exec PP T none x19.nt 0 x19.body.b.b.b.b.b.b.b.b (S19 n f l a o on) .r (mkSt [(4, s1S 0 on), (5, iS 0)] [⟨false, .ivec 3 .i64 1 o⟩] 1 []) := by
  refine exec_orun env0 false 60 [] [2] (fun _ => rfl) (by kernel_rfl) (by kernel_rfl) (by kernel_rfl) (by kernel_rfl)
end Go.Proofs.Yteekkjfjpoaihaa.Eng
namespace Go.Proofs.Yteekkjfjpoaihaa.Eng
open Go Go.Proofs
theorem r191 {n : Nat} {f : Nat → Bool} {l : List Int} {a : Nat} {uy0 : Int}  : Exec PP T none x19.nt 0 x19.body.b.b.b.b.b.b.b.a (S19 n f l a [uy0] 1) .n (S19 n f l a [uy0] 1) := by
  refine exec_orun envv19 false 60 [] [0, 1, 2] (fun _ => rfl) (by kernel_rfl) (by kernel_rfl) (by kernel_rfl) (by kernel_rfl)
theorem r192 {n : Nat} {f : Nat → Bool} {l : List Int} {a : Nat} {uy0 uy1 : Int}  : Exec PP T none x19.nt 0 x19.body.b.b.b.b.b.b.b.a (S19 n f l a [uy0, uy1] 2) .n (S19 n f l a [uy1, uy0] 2) := by
  refine exec_orun envv19 false 60 [] [0, 1, 2] (fun _ => rfl) (by kernel_rfl) (by kernel_rfl) (by kernel_rfl) (by kernel_rfl)
theorem r193 {n : Nat} {f : Nat → Bool} {l : List Int} {a : Nat} {uy0 uy1 uy2 : Int}  : Exec PP T none x19.nt 0 x19.body.b.b.b.b.b.b.b.a (S19 n f l a [uy0, uy1, uy2] 3) .n (S19 n f l a [uy2, uy1, uy0] 3) := by
  refine exec_orun envv19 false 60 [] [0, 1, 2] (fun _ => rfl) (by kernel_rfl) (by kernel_rfl) (by kernel_rfl) (by kernel_rfl)
theorem r194 {n : Nat} {f : Nat → Bool} {l : List Int} {a : Nat} {uy0 uy1 uy2 uy3 : Int}  : Exec PP T none x19.nt 0 x19.body.b.b.b.b.b.b.b.a (S19 n f l a [uy0, uy1, uy2, uy3] 4) .n (S19 n f l a [uy3, uy2, uy1, uy0] 4) := by
  refine exec_orun envv19 false 60 [] [0, 1, 2] (fun _ => rfl) (by kernel_rfl) (by kernel_rfl) (by kernel_rfl) (by kernel_rfl)
theorem r195 {n : Nat} {f : Nat → Bool} {l : List Int} {a : Nat} {uy0 uy1 uy2 uy3 uy4 : Int}  : Exec PP T none x19.nt 0 x19.body.b.b.b.b.b.b.b.a (S19 n f l a [uy0, uy1, uy2, uy3, uy4] 5) .n (S19 n f l a [uy4, uy3, uy2, uy1, uy0] 5) := by
  refine exec_orun envv19 false 60 [] [0, 1, 2] (fun _ => rfl) (by kernel_rfl) (by kernel_rfl) (by kernel_rfl) (by kernel_rfl)
theorem r196 {n : Nat} {f : Nat → Bool} {l : List Int} {a : Nat} {uy0 uy1 uy2 uy3 uy4 uy5 : Int}  : Exec PP T none x19.nt 0 x19.body.b.b.b.b.b.b.b.a (S19 n f l a [uy0, uy1, uy2, uy3, uy4, uy5] 6) .n (S19 n f l a [uy5, uy4, uy3, uy2, uy1, uy0] 6) := by
  refine exec_orun envv19 false 60 [] [0, 1, 2] (fun _ => rfl) (by kernel_rfl) (by kernel_rfl) (by kernel_rfl) (by kernel_rfl)
theorem r197 {n : Nat} {f : Nat → Bool} {l : List Int} {a : Nat} {uy0 uy1 uy2 uy3 uy4 uy5 uy6 : Int}  : Exec PP T none x19.nt 0 x19.body.b.b.b.b.b.b.b.a (S19 n f l a [uy0, uy1, uy2, uy3, uy4, uy5, uy6] 7) .n (S19 n f l a [uy6, uy5, uy4, uy3, uy2, uy1, uy0] 7) := by
  refine exec_orun envv19 false 60 [] [0, 1, 2] (fun _ => rfl) (by kernel_rfl) (by kernel_rfl) (by kernel_rfl) (by kernel_rfl)
theorem r198 {n : Nat} {f : Nat → Bool} {l : List Int} {a : Nat} {uy0 uy1 uy2 uy3 uy4 uy5 uy6 uy7 : Int}  : Exec PP T none x19.nt 0 x19.body.b.b.b.b.b.b.b.a (S19 n f l a [uy0, uy1, uy2, uy3, uy4, uy5, uy6, uy7] 8) .n (S19 n f l a [uy7, uy6, uy5, uy4, uy3, uy2, uy1, uy0] 8) := by
  refine exec_orun envv19 false 60 [] [0, 1, 2] (fun _ => rfl) (by kernel_rfl) (by kernel_rfl) (by kernel_rfl) (by kernel_rfl)
theorem r199 {n : Nat} {f : Nat → Bool} {l : List Int} {a : Nat} {uy0 uy1 uy2 uy3 uy4 uy5 uy6 uy7 uy8 : Int}  : Exec PP T none x19.nt 0 x19.body.b.b.b.b.b.b.b.a (S19 n f l a [uy0, uy1, uy2, uy3, uy4, uy5, uy6, uy7, uy8] 9) .n (S19 n f l a [uy8, uy7, uy6, uy5, uy4, uy3, uy2, uy1, uy0] 9) := by
  refine exec_orun envv19 false 60 [] [0, 1, 2] (fun _ => rfl) (by kernel_rfl) (by kernel_rfl) (by kernel_rfl) (by kernel_rfl)
theorem r19 {n : Nat} {f : Nat → Bool} {l : List Int} {a : Nat} : ∀ o : List Int, 1 ≤ o.length → o.length ≤ 9 → Exec PP T none x19.nt 0 x19.body.b.b.b.b.b.b.b.a (S19 n f l a o o.length) .n (S19 n f l a o.reverse o.length)
  | [y0], _, _ => r191
  | [y0, y1], _, _ => r192
  | [y0, y1, y2], _, _ => r193
  | [y0, y1, y2, y3], _, _ => r194
  | [y0, y1, y2, y3, y4], _, _ => r195
  | [y0, y1, y2, y3, y4, y5], _, _ => r196
  | [y0, y1, y2, y3, y4, y5, y6], _, _ => r197
  | [y0, y1, y2, y3, y4, y5, y6, y7], _, _ => r198
  | [y0, y1, y2, y3, y4, y5, y6, y7, y8], _, _ => r199
  | [], h, _ => absurd h (by simp)
  | _ :: _ :: _ :: _ :: _ :: _ :: _ :: _ :: _ :: _ :: r, _, h => absurd h (by simp)
theorem hB_congr {f : Nat → Bool} {g g' : Nat → Nat} {i : Nat} : ∀ n, (∀ c, c < n → at7 f c i = true → g c = g' c) → hB f g i n = hB f g' i n
  | 0, _ => rfl
  | c + 1, h => by
    have h1 := hB_congr (f := f) (g := g) (g' := g') (i := i) c fun x hx => h x (by omega)
    unfold hB
    rw [h1]
    cases hc : at7 f c i with
    | false => rfl
    | true => rw [h c (by omega) hc]
theorem hB_ge {f : Nat → Bool} {g : Nat → Nat} {i : Nat} : ∀ n c, c < n → at7 f c i = true → g c + 1 ≤ hB f g i n
  | 0, c, h, _ => absurd h (by omega)
  | m + 1, c, h, hc => by
    unfold hB
    by_cases e : c = m
    · subst e
      rw [hc, cond_true]
      omega
    · have := hB_ge (f := f) (g := g) (i := i) m c (by omega) hc
      cases at7 f m i <;> simp <;> omega
theorem hB_pos {f : Nat → Bool} {g : Nat → Nat} {i : Nat} : ∀ n, 0 < hB f g i n → ∃ c, c < n ∧ at7 f c i = true ∧ hB f g i n = g c + 1
  | 0, h => by simp [hB] at h
  | m + 1, h => by
    unfold hB at h ⊢
    cases hc : at7 f m i with
    | false =>
      rw [hc, cond_false] at h
      obtain ⟨c, h1, h2, h3⟩ := hB_pos m h
      exact ⟨c, by omega, h2, by rw [cond_false]; exact h3⟩
    | true =>
      rw [cond_true]
      by_cases hm : hB f g i m ≤ g m + 1
      · exact ⟨m, by omega, hc, by omega⟩
      · obtain ⟨c, h1, h2, h3⟩ := hB_pos (f := f) (g := g) (i := i) m (by omega)
        exact ⟨c, by omega, h2, by omega⟩
theorem hgt_stab {f : Nat → Bool} {n : Nat} (ht : transB f = true) (hn : n ≤ 7) : ∀ k k' i, i < n → prc f n i < k → prc f n i < k' → hgt f n k i = hgt f n k' i
  | 0, _, _, _, h, _ => absurd h (by omega)
  | _ + 1, 0, _, _, _, h => absurd h (by omega)
  | k + 1, k' + 1, i, hi, h, h' => by
    show hB f (hgt f n k) i n = hB f (hgt f n k') i n
    exact hB_congr n fun c hc hci => hgt_stab ht hn k k' c hc (by have := prc_lt ht hn hc hi hci; omega) (by have := prc_lt ht hn hc hi hci; omega)
/-- the height of a node of an order -/
def hgF (f : Nat → Bool) (n i : Nat) : Nat := hgt f n 8 i
theorem prc_le (f : Nat → Bool) (n i : Nat) : prc f n i ≤ n := cntB_le _ n
theorem hgF_rec {f : Nat → Bool} {n i : Nat} (ht : transB f = true) (hn : n ≤ 7) (hi : i < n) : hgF f n i = hB f (hgF f n) i n := by
  show hB f (hgt f n 7) i n = hB f (hgt f n 8) i n
  refine hB_congr n fun c hc hci => ?_
  have h1 := prc_lt ht hn hc hi hci
  have h2 := prc_le f n i
  exact hgt_stab ht hn 7 8 c hc (by omega) (by omega)
theorem lqF_hg {f : Nat → Bool} {n i : Nat} (hi : i < n) : at1 (lqF f n n) i = Int.ofNat (hgF f n i) := by rw [at1_eq]; exact lqF_at f n n i hi hi
theorem hgF_le (f : Nat → Bool) (n i : Nat) : hgF f n i ≤ 8 := hgt_le f n 8 i
def topF (f : Nat → Bool) (n : Nat) : Nat := (idxF (lqF f n n) n (mxF (lqF f n n) (n - 1))).toNat
theorem mxF_spec (q : List Int) : ∀ i, (∀ j, j ≤ i → at1 q j ≤ mxF q i) ∧ ∃ j, j ≤ i ∧ at1 q j = mxF q i
  | 0 => ⟨fun j hj => by rw [show j = 0 by omega]; exact Int.le_refl _, 0, by omega, rfl⟩
  | i + 1 => by
    obtain ⟨h1, j, h2, h3⟩ := mxF_spec q i
    refine ⟨fun j hj => ?_, ?_⟩
    · show at1 q j ≤ max (mxF q i) (at1 q (i + 1))
      by_cases hji : j ≤ i
      · have := h1 j hji; omega
      · rw [show j = i + 1 by omega]; omega
    · by_cases hm : mxF q i ≤ at1 q (i + 1)
      · exact ⟨i + 1, by omega, by show _ = max (mxF q i) (at1 q (i + 1)); omega⟩
      · exact ⟨j, by omega, by show _ = max (mxF q i) (at1 q (i + 1)); omega⟩
theorem topF_spec {f : Nat → Bool} {n : Nat} (h1 : 1 ≤ n) : topF f n < n ∧ idxF (lqF f n n) n (mxF (lqF f n n) (n - 1)) = Int.ofNat (topF f n) ∧ ∀ i, i < n → hgF f n i ≤ hgF f n (topF f n) := by
  obtain ⟨k1, j, k2, k3⟩ := mxF_spec (lqF f n n) (n - 1)
  obtain ⟨g1, g2, g3⟩ := fstN_spec (fun i => mxF (lqF f n n) (n - 1) == at1 (lqF f n n) i) n
  have hlt : fstN (fun i => mxF (lqF f n n) (n - 1) == at1 (lqF f n n) i) n < n := by
    rcases Nat.lt_or_ge (fstN (fun i => mxF (lqF f n n) (n - 1) == at1 (lqF f n n) i) n) n with h | h
    · exact h
    · have := g2 j (by omega)
      rw [k3] at this
      simp at this
  have e : idxF (lqF f n n) n (mxF (lqF f n n) (n - 1)) = Int.ofNat (fstN (fun i => mxF (lqF f n n) (n - 1) == at1 (lqF f n n) i) n) := by
    unfold idxF
    rw [blt_lt hlt, cond_true]
  have et : topF f n = fstN (fun i => mxF (lqF f n n) (n - 1) == at1 (lqF f n n) i) n := by unfold topF; rw [e]; rfl
  refine ⟨by rw [et]; exact hlt, by rw [e, et], fun i hi => ?_⟩
  have h3 := g3 hlt
  rw [← et] at h3
  have h4 := k1 i (by omega)
  rw [lqF_hg hi] at h4
  have hlt' : topF f n < n := by rw [et]; exact hlt
  rw [lqF_hg hlt', beq_iff_eq] at h3
  rw [h3] at h4
  exact Int.ofNat_le.1 h4
def nxtF (f : Nat → Bool) (n a : Nat) : Nat := fstN (tst19 f (lqF f n n) a) n
theorem nxtF_spec {f : Nat → Bool} {n a : Nat} (ht : transB f = true) (hn : n ≤ 7) (ha : a < n) (hp : 0 < hgF f n a) : nxtF f n a < n ∧ at7 f (nxtF f n a) a = true ∧ hgF f n (nxtF f n a) + 1 = hgF f n a := by
  obtain ⟨g1, g2, g3⟩ := fstN_spec (tst19 f (lqF f n n) a) n
  have hr := hgF_rec ht hn ha
  obtain ⟨c, h1, h2, h3⟩ := hB_pos (f := f) (g := hgF f n) (i := a) n (by omega)
  have hlt : nxtF f n a < n := by
    rcases Nat.lt_or_ge (nxtF f n a) n with h | h
    · exact h
    · have := g2 c (by unfold nxtF at h; omega)
      unfold tst19 at this
      rw [h2, lqF_hg h1, lqF_hg ha, Bool.true_and] at this
      have h5 : hgF f n a = hgF f n c + 1 := by omega
      rw [h5] at this
      simp at this
  have h4 : tst19 f (lqF f n n) a (nxtF f n a) = true := g3 hlt
  unfold tst19 at h4
  rw [Bool.and_eq_true] at h4
  refine ⟨hlt, h4.1, ?_⟩
  have h6 := h4.2
  rw [lqF_hg hlt, lqF_hg ha, beq_iff_eq] at h6
  simp only [Int.ofNat_eq_natCast] at h6
  omega
def chF (f : Nat → Bool) (n : Nat) : Nat → Nat
  | 0 => topF f n
  | j + 1 => nxtF f n (chF f n j)
theorem chF_spec {f : Nat → Bool} {n : Nat} (ht : transB f = true) (h1 : 1 ≤ n) (hn : n ≤ 7) : ∀ j, j ≤ hgF f n (topF f n) → chF f n j < n ∧ hgF f n (chF f n j) + j = hgF f n (topF f n)
  | 0, _ => ⟨(topF_spec h1).1, rfl⟩
  | j + 1, hj => by
    obtain ⟨k1, k2⟩ := chF_spec ht h1 hn j (by omega)
    obtain ⟨g1, _, g3⟩ := nxtF_spec ht hn k1 (by omega)
    exact ⟨g1, by show hgF f n (nxtF f n (chF f n j)) + (j + 1) = _; omega⟩
theorem chF_step {f : Nat → Bool} {n : Nat} (ht : transB f = true) (h1 : 1 ≤ n) (hn : n ≤ 7) {j : Nat} (hj : j < hgF f n (topF f n)) : at7 f (chF f n (j + 1)) (chF f n j) = true := by
  obtain ⟨k1, k2⟩ := chF_spec ht h1 hn j (by omega)
  exact (nxtF_spec ht hn k1 (by omega)).2.1
def outsF (f : Nat → Bool) (n j : Nat) : List Int := (List.range (j + 1)).map fun i => Int.ofNat (chF f n i)
theorem outsF_succ (f : Nat → Bool) (n j : Nat) : outsF f n (j + 1) = outsF f n j ++ [Int.ofNat (chF f n (j + 1))] := by unfold outsF; rw [List.range_succ, List.map_append]; rfl
theorem outsF_len (f : Nat → Bool) (n j : Nat) : (outsF f n j).length = j + 1 := by simp [outsF]
/-- a longest chain, upwards -/
def chainF (f : Nat → Bool) (n : Nat) : List Int := (outsF f n (hgF f n (topF f n))).reverse
theorem l19 {f : Nat → Bool} {n j : Nat} (ht : transB f = true) (h1 : 1 ≤ n) (hn : n ≤ 7) (hj : j < hgF f n (topF f n)) : Exec PP T none x19.nt 0 L19 (S19 n f (lqF f n n) (chF f n j) (outsF f n j) (j + 1)) .n (S19 n f (lqF f n n) (chF f n (j + 1)) (outsF f n (j + 1)) (j + 1 + 1)) := by
  obtain ⟨k1, k2⟩ := chF_spec ht h1 hn j (by omega)
  have hl := lqF_len f n n
  have h8 := hgF_le f n (topF f n)
  have ha := lqF_hg (f := f) k1
  refine exec_seq (x := L19.a) (y := L19.b) (l19a hl k1 (by rw [ha]; simp; omega)) (exec_block (id := 1) (x := L19.b.i) (e := .n) ?_)
  refine exec_seq (x := L19.b.i.a) (y := L19.b.i.b) (exec_seq (x := L19.b.i.a.a) (y := .block 2 (.loop M19)) l19c (exec_block (e := .x 2) (S1 := S19 n f (lqF f n n) (chF f n (j + 1)) (outsF f n j) (j + 1)) ?_)) ?_
  · have hv : 0 ≤ at1 (lqF f n n) (chF f n j) ∧ at1 (lqF f n n) (chF f n j) ≤ 100 := by
      rw [ha]
      simp only [Int.ofNat_eq_natCast]
      omega
    obtain ⟨g1, g2, g3⟩ := nxtF_spec ht hn k1 (by omega)
    obtain ⟨p1, p2, p3⟩ := fstN_spec (tst19 f (lqF f n n) (chF f n j)) n
    exact exec_loop_up (fun k => U19 n f (lqF f n n) (chF f n j) (outsF f n j) (j + 1) k) (nxtF f n (chF f n j)) (fun k hk => m19f hl hn k1 (by omega) hv (p2 k hk)) (m19t hl hn k1 g1 hv (p3 g1)) (by simp) 0 (by omega)
  · have := l19d (n := n) (f := f) (l := lqF f n n) (a := chF f n (j + 1)) (outsF_len f n j) (by omega)
    rw [show (outsF f n j).take ((j + 1) * 1) = outsF f n j by rw [Nat.mul_one, ← outsF_len f n j, List.take_length], ← outsF_succ] at this
    exact this
theorem body19 {n : Nat} {q : List Int} {m : Nat} (hq : q.length = m * 2) (hm : m ≤ 1000000000) (h : ordC (Int.ofNat n) q m = true) : Exec PP T none x19.nt 0 x19.body (startSt (A40 (Int.ofNat n) m) (H1 q)) .r
    (mkSt [(4, s1S 0 (hgF (orderF (Int.ofNat n) q m) n (topF (orderF (Int.ofNat n) q m) n) + 1)), (5, iS 0)] [⟨false, .ivec 3 .i64 1 (chainF (orderF (Int.ofNat n) q m) n)⟩] 1 []) := by
  obtain ⟨h0, ht, h1, hn⟩ := ordC_at h
  have hb := b19 (n := n) hq hm
  rw [take_all2 hq, h0] at hb
  generalize orderF (Int.ofNat n) q m = f at *
  have he := e19 (f := f) (l := lqF f n n) (a := 0) (lqF_len f n n) h1 hn
  rw [take_all1 (by rw [lqF_len, Nat.mul_one]), (topF_spec h1).2.1] at he
  have h8 := hgF_le f n (topF f n)
  refine exec_seq (x := x19.body.a) (y := x19.body.b) a19 (exec_seq (x := x19.body.b.a) (y := x19.body.b.b) hb (exec_seq (x := x19.body.b.b.a) (y := x19.body.b.b.b) cc19 (exec_seq (x := x19.body.b.b.b.a) (y := x19.body.b.b.b.b) (d19 ht hn) (exec_seq (x := x19.body.b.b.b.b.a) (y := x19.body.b.b.b.b.b) he (exec_seq (x := x19.body.b.b.b.b.b.a) (y := x19.body.b.b.b.b.b.b) f19
    (exec_seq (x := x19.body.b.b.b.b.b.b.a) (y := x19.body.b.b.b.b.b.b.b) (exec_block (id := 0) (x := .loop L19) (e := .x 0) (S1 := S19 n f (lqF f n n) (chF f n (hgF f n (topF f n))) (outsF f n (hgF f n (topF f n))) (hgF f n (topF f n) + 1)) ?_) (exec_seq (x := x19.body.b.b.b.b.b.b.b.a) (y := x19.body.b.b.b.b.b.b.b.b) (S1 := S19 n f (lqF f n n) (chF f n (hgF f n (topF f n))) (chainF f n) (hgF f n (topF f n) + 1)) ?_ i19)))))))
  · obtain ⟨g1, g2⟩ := chF_spec ht h1 hn (hgF f n (topF f n)) (Nat.le_refl _)
    exact exec_loop_up (fun j => S19 n f (lqF f n n) (chF f n j) (outsF f n j) (j + 1)) (hgF f n (topF f n)) (fun j hj => l19 ht h1 hn hj) (exec_seq_x (x := L19.a) (y := L19.b) (l19x (lqF_len f n n) g1 (by rw [lqF_hg g1, show hgF f n (chF f n (hgF f n (topF f n))) = 0 by omega]; simp)) (by simp)) (by simp) 0 (by omega)
  · have := r19 (n := n) (f := f) (l := lqF f n n) (a := chF f n (hgF f n (topF f n))) (outsF f n (hgF f n (topF f n))) (by rw [outsF_len]; omega) (by rw [outsF_len]; omega)
    rw [outsF_len] at this
    exact this
def nChn : List PA → List HO := fun pas => match pas with | [.int n, .sl _ q m] => [⟨false, .ivec 3 .i64 1 (chainF (orderF n q m) n.toNat)⟩] | _ => [⟨false, .ivec 3 .i64 1 []⟩]
def vChain : List PA → TV := fun pas => match pas with | [.int n, .sl _ q m] => .tup [.s (.sl 0 0 1 (hgF (orderF n q m) n.toNat (topF (orderF n q m) n.toNat) + 1)), .s (.int .i64 0)] | _ => .tup [.s (.sl 0 0 1 0), .s (.int .i64 0)]
noncomputable abbrev spChain : Spec := genS [.int, .sl 2] cLays vChain nChn
theorem ok19 : SpecOK PP (compC T) 19 spChain := ok_gen o19 (by kernel_rfl) fun pas hf hc => match pas, hf with
  | [.int n, .sl _ q m], ⟨_, ⟨rfl, hq, hm⟩, _⟩ => by
    obtain ⟨k, rfl⟩ := ordC_nat hc
    exact ⟨_, 1, .r, body19 hq hm hc, fun _ => rfl, by kernel_rfl, by kernel_rfl, by kernel_rfl⟩
end Go.Proofs.Yteekkjfjpoaihaa.Eng
namespace Go.Proofs.Yteekkjfjpoaihaa.Eng
open Go Go.Proofs
def jS (o r : Nat → Bool) (a b : Nat) : Nat → Bool := fun j => bif j.beq (0 + (0 + a * 7 + b * 1)) then (bif o (0 + (0 + a * 7 + b * 1)) then true else r (0 + (0 + a * 7 + b * 1))) else o j
def jrow (r : Nat → Bool) (a : Nat) (o : Nat → Bool) : Nat → Nat → Bool
  | 0 => o
  | b + 1 => jS (jrow r a o b) r a b
def jall (r o : Nat → Bool) : Nat → Nat → Bool
  | 0 => o
  | a + 1 => jrow r a (jall r o a) 7
def subR (h : Nat → Bool) (k : Nat) : Nat → Bool := fun j => h (0 + (0 + k) * 49 + j)
def joinA (h : Nat → Bool) : Nat → Nat → Bool
  | 0 => ff
  | k + 1 => jall (subR h k) (joinA h k) 7
def joinJ (h : Nat → Bool) : Nat → Bool := joinA h 2
def L80 : XC := x80.body.b.b.a.b.i.i
def M80 : XC := L80.b.b.a.i.b.b.i.i
def K80 : XC := M80.b.b.a.i.b.b.i.i
abbrev rS : Slot := ⟨true, .av (.s (.sl 0 0 49 2))⟩
abbrev H80 (h o : Nat → Bool) : List HO := [⟨true, .row 70 [] (2 * 49) h⟩, ⟨false, .row 70 [] 49 ff⟩, ⟨false, .row 70 [] 49 o⟩]
abbrev sl80 (k : Nat) : List (Nat × Slot) := [(2, g1S 1), (3, g1S 2), (8, rS), (9, iS 2), (10, iS k)]
abbrev S80 (h o : Nat → Bool) (k : Nat) : St := mkSt (sl80 k) (H80 h o) 3 []
abbrev P80 (h o : Nat → Bool) (k : Nat) : St := mkSt (sl80 k ++ [(11, ⟨true, B (decide (Int.ofNat k < 2))⟩)]) (H80 h o) 3 []
abbrev T80 (h o r : Nat → Bool) (k : Nat) : St := mkSt (sl80 k ++ [(5, g1S 3)]) (H80 h o ++ [⟨false, .row 70 [] 49 r⟩]) 4 []
abbrev U80 (h o r : Nat → Bool) (k a : Nat) : St := mkSt (sl80 k ++ [(5, g1S 3), (14, iS a)]) (H80 h o ++ [⟨false, .row 70 [] 49 r⟩]) 4 []
abbrev Q80 (h o r : Nat → Bool) (k a : Nat) : St := mkSt (sl80 k ++ [(5, g1S 3), (14, iS a), (15, ⟨true, B (decide (Int.ofNat a < 7))⟩)]) (H80 h o ++ [⟨false, .row 70 [] 49 r⟩]) 4 []
abbrev V80 (h o r : Nat → Bool) (k a : Nat) : St := mkSt (sl80 k ++ [(5, g1S 3), (14, iS a), (6, iS a)]) (H80 h o ++ [⟨false, .row 70 [] 49 r⟩]) 4 []
abbrev W80 (h o r : Nat → Bool) (k a b : Nat) : St := mkSt (sl80 k ++ [(5, g1S 3), (14, iS a), (6, iS a), (17, iS b)]) (H80 h o ++ [⟨false, .row 70 [] 49 r⟩]) 4 []
theorem a80 {h : Nat → Bool}  : Exec PP T none x80.nt 0 x80.body.a (startSt [.s (.sl 0 0 49 2)] [⟨true, .row 70 [] (2 * 49) h⟩]) .n (mkSt [(0, rS), (2, g1S 1)] [⟨true, .row 70 [] (2 * 49) h⟩, ⟨false, .row 70 [] 49 ff⟩] 2 []) := by
  refine exec_orun env0 false 60 [] [0, 1] (fun _ => rfl) (by kernel_rfl) (by kernel_rfl) (by kernel_rfl) (by kernel_rfl)
theorem b80 {h : Nat → Bool}  : Exec PP T none x80.nt 0 x80.body.b.a (mkSt [(0, rS), (2, g1S 1)] [⟨true, .row 70 [] (2 * 49) h⟩, ⟨false, .row 70 [] 49 ff⟩] 2 []) .n (mkSt [(0, rS), (2, g1S 1), (3, g1S 2)] (H80 h ff) 3 []) := by
  refine exec_orun env0 false 60 [] [0, 1, 2] (fun _ => rfl) (by kernel_rfl) (by kernel_rfl) (by kernel_rfl) (by kernel_rfl)
theorem cc80 {h : Nat → Bool}  : Exec PP T none x80.nt 0 x80.body.b.b.a.a (mkSt [(0, rS), (2, g1S 1), (3, g1S 2)] (H80 h ff) 3 []) .n (S80 h ff 0) := by
  refine exec_orun env0 false 60 [] [0, 1, 2] (fun _ => rfl) (by kernel_rfl) (by kernel_rfl) (by kernel_rfl) (by kernel_rfl)
theorem l80a {h o : Nat → Bool} {k : Nat}  : Exec PP T none x80.nt 0 L80.a (S80 h o k) .n (P80 h o k) := by
  refine exec_orun env0 false 60 [] [0, 1, 2] (fun _ => rfl) (by kernel_rfl) (by kernel_rfl) (by kernel_rfl) (by kernel_rfl)
theorem l80b {h o : Nat → Bool} {k : Nat} (hk : k < 2) : Exec PP T none x80.nt 0 L80.b.a (P80 h o k) .n (S80 h o k) := by
  refine exec_orun env0 false 60 [true] [0, 1, 2] (fun _ => rfl) (by kernel_rfl) (by kernel_rfl) (by kernel_rfl) ?_
  rw [(show obOf (orun g0 false 60 L80.b.a (P80 h o k) [true]) = (decide (Int.ofNat k < 2) && true) from by kernel_rfl)]
  all_goals (first | rfl | (simp; done) | (simp; omega) | (simp [rng64]; done) | (simp [rng64]; omega) | (simp [rng64_eq]; omega))
theorem l80x {h o : Nat → Bool}  : Exec PP T none x80.nt 0 L80.b.a (P80 h o 2) (.x 0) (S80 h o 2) := by
  refine exec_orun env0 false 60 [false] [0, 1, 2] (fun _ => rfl) (by kernel_rfl) (by kernel_rfl) (by kernel_rfl) (by kernel_rfl)
theorem l80c {h o : Nat → Bool} {k : Nat} (hk : k < 2) : Exec PP T none x80.nt 0 L80.b.b.a.i.a (S80 h o k) .n (T80 h o (subR h k) k) := by
  refine exec_orun env0 false 60 [] [0, 1, 2, 3] (fun _ => rfl) (by kernel_rfl) (by kernel_rfl) (by kernel_rfl) ?_
  rw [(show obOf (orun g0 false 60 L80.b.b.a.i.a (S80 h o k) []) = (decide (0 ≤ Int.ofNat k) && decide (Int.ofNat k < 2) && (decide (((0 + (0 + k) * 49).add 0).succ.succ.succ.succ.succ.succ.succ.succ.succ.succ.succ.succ.succ.succ.succ.succ.succ.succ.succ.succ.succ.succ.succ.succ.succ.succ.succ.succ.succ.succ.succ.succ.succ.succ.succ.succ.succ.succ.succ.succ.succ.succ.succ.succ.succ.succ.succ.succ.succ ≤ 98) && true)) from by kernel_rfl)]
  all_goals (first | rfl | (simp; done) | (simp; omega) | (simp [rng64]; done) | (simp [rng64]; omega) | (simp [rng64_eq]; omega))
theorem l80d {h o r : Nat → Bool} {k : Nat}  : Exec PP T none x80.nt 0 L80.b.b.a.i.b.a (T80 h o r k) .n (U80 h o r k 0) := by
  refine exec_orun env0 false 60 [] [0, 1, 2, 3] (fun _ => rfl) (by kernel_rfl) (by kernel_rfl) (by kernel_rfl) (by kernel_rfl)
theorem l80e {h o r : Nat → Bool} {k a : Nat} (hk : k < 2) : Exec PP T none x80.nt 0 L80.b.b.b (U80 h o r k a) .n (S80 h o (k + 1)) := by
  refine exec_orun env0 false 60 [] [0, 1, 2] (fun _ => rfl) (by kernel_rfl) (by kernel_rfl) (by kernel_rfl) ?_
  rw [(show obOf (orun g0 false 60 L80.b.b.b (U80 h o r k a) []) = (rng64 (Int.ofNat k.succ) && true) from by kernel_rfl)]
  all_goals (first | rfl | (simp; done) | (simp; omega) | (simp [rng64]; done) | (simp [rng64]; omega) | (simp [rng64_eq]; omega))
theorem m80a {h o r : Nat → Bool} {k a : Nat}  : Exec PP T none x80.nt 0 M80.a (U80 h o r k a) .n (Q80 h o r k a) := by
  refine exec_orun env0 false 60 [] [0, 1, 2, 3] (fun _ => rfl) (by kernel_rfl) (by kernel_rfl) (by kernel_rfl) (by kernel_rfl)
theorem m80b {h o r : Nat → Bool} {k a : Nat} (ha : a < 7) : Exec PP T none x80.nt 0 M80.b.a (Q80 h o r k a) .n (U80 h o r k a) := by
  refine exec_orun env0 false 60 [true] [0, 1, 2, 3] (fun _ => rfl) (by kernel_rfl) (by kernel_rfl) (by kernel_rfl) ?_
  rw [(show obOf (orun g0 false 60 M80.b.a (Q80 h o r k a) [true]) = (decide (Int.ofNat a < 7) && true) from by kernel_rfl)]
  all_goals (first | rfl | (simp; done) | (simp; omega) | (simp [rng64]; done) | (simp [rng64]; omega) | (simp [rng64_eq]; omega))
theorem m80x {h o r : Nat → Bool} {k : Nat}  : Exec PP T none x80.nt 0 M80.b.a (Q80 h o r k 7) (.x 2) (U80 h o r k 7) := by
  refine exec_orun env0 false 60 [false] [0, 1, 2, 3] (fun _ => rfl) (by kernel_rfl) (by kernel_rfl) (by kernel_rfl) (by kernel_rfl)
theorem m80c {h o r : Nat → Bool} {k a : Nat}  : Exec PP T none x80.nt 0 M80.b.b.a.i.a (U80 h o r k a) .n (V80 h o r k a) := by
  refine exec_orun env0 false 60 [] [0, 1, 2, 3] (fun _ => rfl) (by kernel_rfl) (by kernel_rfl) (by kernel_rfl) (by kernel_rfl)
theorem m80d {h o r : Nat → Bool} {k a : Nat}  : Exec PP T none x80.nt 0 M80.b.b.a.i.b.a (V80 h o r k a) .n (W80 h o r k a 0) := by
  refine exec_orun env0 false 60 [] [0, 1, 2, 3] (fun _ => rfl) (by kernel_rfl) (by kernel_rfl) (by kernel_rfl) (by kernel_rfl)
theorem m80e {h o r : Nat → Bool} {k a b : Nat} (ha : a < 7) : Exec PP T none x80.nt 0 M80.b.b.b (W80 h o r k a b) .n (U80 h o r k (a + 1)) := by
  refine exec_orun env0 false 60 [] [0, 1, 2, 3] (fun _ => rfl) (by kernel_rfl) (by kernel_rfl) (by kernel_rfl) ?_
  rw [(show obOf (orun g0 false 60 M80.b.b.b (W80 h o r k a b) []) = (rng64 (Int.ofNat a.succ) && true) from by kernel_rfl)]
  all_goals (first | rfl | (simp; done) | (simp; omega) | (simp [rng64]; done) | (simp [rng64]; omega) | (simp [rng64_eq]; omega))
theorem k80 {h o r : Nat → Bool} {k a b : Nat} (ha : a < 7) (hb : b < 7) : Exec PP T none x80.nt 0 K80 (W80 h o r k a b) .n (W80 h (jS o r a b) r k a (b + 1)) := by
  refine exec_orun env0 false 60 [true] [0, 1, 2, 3] (fun _ => rfl) (by kernel_rfl) (by kernel_rfl) (by kernel_rfl) ?_
  rw [(show obOf (orun g0 false 60 K80 (W80 h o r k a b) [true]) = (decide (Int.ofNat b < 7) && true && (decide (0 ≤ Int.ofNat a) && decide (Int.ofNat a < 7) && (decide (0 ≤ Int.ofNat b) && decide (Int.ofNat b < 7) && (decide (0 + (0 + a * 7 + b * 1) < 49) && ((!o (0 + (0 + a * 7 + b * 1)) == false || true) && ((!o (0 + (0 + a * 7 + b * 1)) == false || true) && ((!o (0 + (0 + a * 7 + b * 1)) == false || o (0 + (0 + a * 7 + b * 1)) == false && true && (decide (0 ≤ Int.ofNat a) && decide (Int.ofNat a < 7))) && ((!o (0 + (0 + a * 7 + b * 1)) == false || o (0 + (0 + a * 7 + b * 1)) == false && (o (0 + (0 + a * 7 + b * 1)) == false && true) && (decide (0 ≤ Int.ofNat b) && decide (Int.ofNat b < 7))) && ((!o (0 + (0 + a * 7 + b * 1)) == false || o (0 + (0 + a * 7 + b * 1)) == false && true && decide (0 + (0 + a * 7 + b * 1) < 49)) && ((bif o (0 + (0 + a * 7 + b * 1)) then true else o (0 + (0 + a * 7 + b * 1)) == false) && true && (decide (0 ≤ Int.ofNat a) && decide (Int.ofNat a < 7) && (decide (0 ≤ Int.ofNat b) && decide (Int.ofNat b < 7) && (decide (0 + (0 + a * 7 + b * 1) < 49) && true && true && true))))))))))) && true && (rng64 (Int.ofNat b.succ) && true))) from by kernel_rfl)]
  simp only [at7_raw]
  cases at7 o a b <;> simp [rng64] <;> omega
theorem k80x {h o r : Nat → Bool} {k a : Nat}  : Exec PP T none x80.nt 0 K80 (W80 h o r k a 7) (.x 4) (W80 h o r k a 7) := by
  refine exec_orun env0 false 60 [false] [0, 1, 2, 3] (fun _ => rfl) (by kernel_rfl) (by kernel_rfl) (by kernel_rfl) (by kernel_rfl)
theorem d80 {h o : Nat → Bool}  : Exec PP T none x80.nt 0 x80.body.b.b.b (S80 h o 2) .r (mkSt [(2, g1S 0)] [⟨false, .row 70 [] 49 o⟩] 1 []) := by
  refine exec_orun env0 false 60 [] [1] (fun _ => rfl) (by kernel_rfl) (by kernel_rfl) (by kernel_rfl) (by kernel_rfl)
theorem m80 {h o r : Nat → Bool} {k a : Nat} (ha : a < 7) : Exec PP T none x80.nt 0 M80 (U80 h o r k a) .n (U80 h (jrow r a o 7) r k (a + 1)) :=
  exec_seq (x := M80.a) (y := M80.b) m80a (exec_seq (x := M80.b.a) (y := M80.b.b) (m80b ha) (exec_seq (x := M80.b.b.a) (y := M80.b.b.b) (exec_block (id := 3) (x := M80.b.b.a.i) (e := .n) (exec_seq (x := M80.b.b.a.i.a) (y := M80.b.b.a.i.b) m80c (exec_seq (x := M80.b.b.a.i.b.a) (y := .block 4 (.loop K80)) m80d (exec_block (e := .x 4) (S1 := W80 h (jrow r a o 7) r k a 7)
    (exec_loop_up (fun b => W80 h (jrow r a o b) r k a b) 7 (fun b hb => k80 ha hb) k80x (by simp) 0 (by omega)))))) (m80e ha)))
theorem l80 {h o : Nat → Bool} {k : Nat} (hk : k < 2) : Exec PP T none x80.nt 0 L80 (S80 h o k) .n (S80 h (jall (subR h k) o 7) (k + 1)) :=
  exec_seq (x := L80.a) (y := L80.b) l80a (exec_seq (x := L80.b.a) (y := L80.b.b) (l80b hk) (exec_seq (x := L80.b.b.a) (y := L80.b.b.b) (exec_block (id := 1) (x := L80.b.b.a.i) (e := .n) (exec_seq (x := L80.b.b.a.i.a) (y := L80.b.b.a.i.b) (l80c hk) (exec_seq (x := L80.b.b.a.i.b.a) (y := .block 2 (.loop M80)) l80d (exec_block (e := .x 2) (S1 := U80 h (jall (subR h k) o 7) (subR h k) k 7)
    (exec_loop_up (fun a => U80 h (jall (subR h k) o a) (subR h k) k a) 7 (fun a ha => m80 ha) (exec_seq (x := M80.a) (y := M80.b) m80a (exec_seq_x (x := M80.b.a) (y := M80.b.b) m80x (by simp))) (by simp) 0 (by omega)))))) (l80e hk)))
theorem body80 {h : Nat → Bool} : Exec PP T none x80.nt 0 x80.body (startSt [.s (.sl 0 0 49 2)] [⟨true, .row 70 [] (2 * 49) h⟩]) .r (mkSt [(2, g1S 0)] [⟨false, .row 70 [] 49 (joinJ h)⟩] 1 []) :=
  exec_seq (x := x80.body.a) (y := x80.body.b) a80 (exec_seq (x := x80.body.b.a) (y := x80.body.b.b) b80 (exec_seq (x := x80.body.b.b.a) (y := x80.body.b.b.b) (exec_seq (x := x80.body.b.b.a.a) (y := .block 0 (.loop L80)) cc80 (exec_block (e := .x 0) (S1 := S80 h (joinJ h) 2)
    (exec_loop_up (fun k => S80 h (joinA h k) k) 2 (fun k hk => l80 hk) (exec_seq (x := L80.a) (y := L80.b) l80a (exec_seq_x (x := L80.b.a) (y := L80.b.b) l80x (by simp))) (by simp) 0 (by omega)))) d80))
end Go.Proofs.Yteekkjfjpoaihaa.Eng
namespace Go.Proofs.Yteekkjfjpoaihaa.Eng
open Go Go.Proofs
/-- what a run must show, where the new objects are the first ones of its last heap -/
def GenRunT (x : XFn) (pas : List PA) (tv : TV) (news : List HO) : Prop :=
  ∃ ts hs' nx ex, Exec PP T none x.nt 0 x.body (startSt (argsP 0 pas) (heapP pas)) ex (mkSt ts (news ++ hs') nx []) ∧ (ex ≠ .n → ex = .r) ∧ resV (mkSt ts (news ++ hs') nx []).sl.get (mkSt ts (news ++ hs') nx []).hp.get x.res = some (true, tv) ∧
    tv.ids.all (fun j => Nat.blt j news.length) = true ∧ news.all (fun ho => !ho.ro && ho.live && !ho.o.isLoop && ho.o.ids.all fun j => Nat.blt j news.length) = true
theorem ok_genT {f : FuncId} {x : XFn} (hx : FunOK PP T f x) {ks : List PK} {c : List PA → Bool} {v : List PA → TV} {news : List PA → List HO} (hlen : Nat.ble ks.length x.nt = true)
    (hrun : ∀ pas, Fits ks pas → c pas = true → GenRunT x pas (v pas) (news pas)) : SpecOK PP (compC T) f (genS ks c v news) := by
  refine spec_gen tokP hx fun ctx m hh w args vals base e hH hargs hr hvc => ?_
  simp only [genS] at hr
  split at hr
  · rename_i vc pas rd hs
    cases hr
    simp only [Bool.and_eq_true] at hvc
    obtain ⟨rfl, hc⟩ := hvc
    obtain ⟨hf, mbs, hb, hsit⟩ := view_args hH hargs hs
    obtain ⟨ts, hs', nx, ex, r1, r2, r3, r4, r5⟩ := hrun pas hf hc
    refine ⟨rfl, fun j => mbs[j]?, heapP pas, argsP 0 pas, ?_⟩
    refine { view := ⟨fun j ho hj => ?_, fun j hj => ?_⟩, args := hsit _ 0 fun j mb hj => (by rw [Nat.zero_add]; exact hj), len := (by rw [argsP_len hf]; exact Nat.le_of_ble_eq_true hlen), run := ⟨mkSt ts (news pas ++ hs') nx [], ex, v pas, List.range (news pas).length, r1, by by_cases h : ex = .n; exact .inl h; exact .inr (r2 h), rfl, r3, nodup_range _,
      fun j hj => List.mem_range.2 (Nat.le_of_ble_eq_true (List.all_eq_true.1 r4 j hj)), rfl, by simp, fun k id h => ?_⟩ }
    · rw [heapP_eq, List.getElem?_map] at hj
      cases ho' : (objsP pas)[j]? with
      | none => rw [ho'] at hj; cases hj
      | some o =>
        rw [ho'] at hj
        cases hj
        have hl := (List.getElem?_eq_some_iff.1 ho').1
        obtain ⟨mb, hm⟩ : ∃ mb, mbs[j]? = some mb := ⟨_, List.getElem?_eq_getElem (by rw [hb.1]; exact hl)⟩
        obtain ⟨k1, k2⟩ := hb.2 j o _ ho' hm
        exact ⟨rfl, _, hm, k1 _, k2⟩
    · rw [heapP_eq, List.length_map] at hj
      exact List.getElem?_eq_none (by rw [hb.1]; exact hj)
    · have hk : k < (news pas).length := by
        have := (List.getElem?_eq_some_iff.1 h).1
        simpa using this
      rw [List.getElem?_range hk] at h
      cases h
      have hin := List.all_eq_true.1 r5 (news pas)[k] (List.getElem_mem _)
      simp only [Bool.and_eq_true, Bool.not_eq_true'] at hin
      refine ⟨(news pas)[k], ?_, hin.1.1.1, hin.1.1.2, hin.1.2, fun j hj => List.mem_range.2 (Nat.le_of_ble_eq_true (List.all_eq_true.1 hin.2 j hj)), ?_⟩
      · show leaveH _ [] k = _
        simp only [leaveH]
        rw [mkSt_hp, List.getElem?_append_left hk]
        simp [hk]
      · simp [hk]
  · cases hr
def vJoinJ : List PA → TV := fun pas => match pas with | [.rb _ _ _ h] => .av (.pb [] 49 (joinJ h)) | _ => anyT
noncomputable abbrev spJoined : Spec := genS [.rb 70 49 2] (fun _ => true) vJoinJ fun _ => []
theorem ok80 : SpecOK PP (compC T) 80 spJoined := ok_genT o80 (by kernel_rfl) fun pas hf hc => match pas, hf with
  | [.rb _ _ _ h], ⟨⟨rfl, rfl, rfl⟩, _⟩ => ⟨_, _, 1, .r, body80, fun _ => rfl, by kernel_rfl, by kernel_rfl, by kernel_rfl⟩
theorem at7_jS {o r : Nat → Bool} {a b x y : Nat} (ha : a < 7) (hb : b < 7) (hx : x < 7) (hy : y < 7) : at7 (jS o r a b) x y = bif Nat.beq x a && Nat.beq y b then at7 o a b || at7 r a b else at7 o x y := by
  unfold at7 jS
  by_cases h : x = a ∧ y = b
  · obtain ⟨rfl, rfl⟩ := h
    rw [beqT (by simp), beqT rfl, beqT rfl]
    simp
  · rw [beqF (by omega)]
    have : (Nat.beq x a && Nat.beq y b) = false := by
      cases hh : (Nat.beq x a && Nat.beq y b) with
      | false => rfl
      | true =>
        rw [Bool.and_eq_true] at hh
        exact absurd ⟨Nat.eq_of_beq_eq_true hh.1, Nat.eq_of_beq_eq_true hh.2⟩ h
    rw [this]
    rfl
theorem at7_jrow {o r : Nat → Bool} {a : Nat} (ha : a < 7) : ∀ b, b ≤ 7 → ∀ {x y : Nat}, x < 7 → y < 7 → at7 (jrow r a o b) x y = bif decide (y < b) && Nat.beq x a then at7 o x y || at7 r x y else at7 o x y
  | 0, _, x, y, hx, hy => by simp [jrow]
  | b + 1, hb, x, y, hx, hy => by
    show at7 (jS (jrow r a o b) r a b) x y = _
    rw [at7_jS ha (by omega) hx hy, at7_jrow ha b (by omega) hx hy, at7_jrow ha b (by omega) ha (by omega)]
    by_cases h : x = a
    · subst h
      rw [beqT rfl]
      by_cases h2 : y = b
      · subst h2; rw [beqT rfl]; simp
      · rw [beqF h2]
        by_cases h3 : y < b
        · have : y < b + 1 := by omega
          simp [h3, this]
        · have : ¬ y < b + 1 := by omega
          simp [h3, this]
    · rw [beqF h]; simp
theorem at7_jall {o r : Nat → Bool} : ∀ a, a ≤ 7 → ∀ {x y : Nat}, x < 7 → y < 7 → at7 (jall r o a) x y = bif decide (x < a) then at7 o x y || at7 r x y else at7 o x y
  | 0, _, x, y, hx, hy => by simp [jall]
  | a + 1, ha, x, y, hx, hy => by
    show at7 (jrow r a (jall r o a) 7) x y = _
    rw [at7_jrow (by omega) 7 (by omega) hx hy, at7_jall a (by omega) hx hy, decide_eq_true hy]
    by_cases h : x = a
    · subst h; rw [beqT rfl]; simp
    · rw [beqF h]
      by_cases h2 : x < a
      · have : x < a + 1 := by omega
        simp [h2, this]
      · have : ¬ x < a + 1 := by omega
        simp [h2, this]
/-- two relations in a row -/
def combR (r s : Nat → Bool) : Nat → Bool := fun j => bif Nat.ble (1 * 49) j && Nat.blt j (1 * 49 + 49) then s (j - 1 * 49) else (bif Nat.ble (0 * 49) j && Nat.blt j (0 * 49 + 49) then r (j - 0 * 49) else ff j)
theorem at7_sub0 {r s : Nat → Bool} {x y : Nat} (hx : x < 7) (hy : y < 7) : at7 (subR (combR r s) 0) x y = at7 r x y := by
  unfold at7 subR combR
  rw [show Nat.ble (1 * 49) (0 + (0 + 0) * 49 + (x * 7 + y)) = false by
    cases hh : Nat.ble (1 * 49) (0 + (0 + 0) * 49 + (x * 7 + y)) with
    | false => rfl
    | true => exact absurd (Nat.le_of_ble_eq_true hh) (by omega)]
  rw [Bool.false_and, cond_false, show Nat.ble (0 * 49) (0 + (0 + 0) * 49 + (x * 7 + y)) = true from Nat.ble_eq_true_of_le (by omega), blt_lt (by omega), Bool.and_true, cond_true]
  congr 1
  omega
theorem at7_sub1 {r s : Nat → Bool} {x y : Nat} (hx : x < 7) (hy : y < 7) : at7 (subR (combR r s) 1) x y = at7 s x y := by
  unfold at7 subR combR
  rw [show Nat.ble (1 * 49) (0 + (0 + 1) * 49 + (x * 7 + y)) = true from Nat.ble_eq_true_of_le (by omega), blt_lt (by omega), Bool.and_true, cond_true]
  congr 1
  omega
theorem at7_join {r s : Nat → Bool} {x y : Nat} (hx : x < 7) (hy : y < 7) : at7 (joinJ (combR r s)) x y = (at7 r x y || at7 s x y) := by
  show at7 (jall (subR (combR r s) 1) (jall (subR (combR r s) 0) ff 7) 7) x y = _
  rw [at7_jall 7 (by omega) hx hy, at7_jall 7 (by omega) hx hy, at7_sub0 hx hy, at7_sub1 hx hy, decide_eq_true hx]
  simp [at7, ff]
def oS (f o : Nat → Bool) (a b : Nat) : Nat → Bool := fun j => bif j.beq (0 + (0 + a * 7 + b * 1)) then (bif (Int.ofNat a != Int.ofNat b) then !(f (0 + (0 + a * 7 + b * 1))) else false) else o j
def orow (f : Nat → Bool) (a : Nat) (o : Nat → Bool) : Nat → Nat → Bool
  | 0 => o
  | b + 1 => oS f (orow f a o b) a b
def oall (f : Nat → Bool) (n : Nat) : Nat → Nat → Bool
  | 0 => ff
  | a + 1 => orow f a (oall f n a) n
def othF (n : Nat) (f : Nat → Bool) : Nat → Bool := oall f n n
def L81 : XC := x81.body.b.b.a.b.i.i
def M81 : XC := L81.b.b.a.i.b.b.i.i
abbrev H81 (n : Nat) (f o : Nat → Bool) : List HO := [RG n f, ⟨false, .row 115 [.int .i64 (Int.ofNat n)] 49 o⟩]
abbrev S81 (n : Nat) (f o : Nat → Bool) (a : Nat) : St := mkSt [(0, g1S 0), (3, g1S 1), (15, iS n), (16, iS a)] (H81 n f o) 2 []
abbrev P81 (n : Nat) (f o : Nat → Bool) (a : Nat) : St := mkSt [(0, g1S 0), (3, g1S 1), (15, iS n), (16, iS a), (17, ⟨true, B (decide (Int.ofNat a < Int.ofNat n))⟩)] (H81 n f o) 2 []
abbrev T81 (n : Nat) (f o : Nat → Bool) (a : Nat) : St := mkSt [(0, g1S 0), (3, g1S 1), (15, iS n), (16, iS a), (4, iS a)] (H81 n f o) 2 []
abbrev U81 (n : Nat) (f o : Nat → Bool) (a b : Nat) : St := mkSt [(0, g1S 0), (3, g1S 1), (15, iS n), (16, iS a), (4, iS a), (22, iS n), (23, iS b)] (H81 n f o) 2 []
theorem a81 {n : Nat} {f : Nat → Bool}  : Exec PP T none x81.nt 0 x81.body.a (startSt [.s (.ptr 0 0 0)] [RG n f]) .n (mkSt [(0, g1S 0)] [RG n f] 1 []) := by
  refine exec_orun env0 false 60 [] [0] (fun _ => rfl) (by kernel_rfl) (by kernel_rfl) (by kernel_rfl) (by kernel_rfl)
theorem b81 {n : Nat} {f : Nat → Bool}  : Exec PP T none x81.nt 0 x81.body.b.a (mkSt [(0, g1S 0)] [RG n f] 1 []) .n (mkSt [(0, g1S 0), (3, g1S 1)] (H81 n f ff) 2 []) := by
  refine exec_orun env0 false 60 [] [0, 1] (fun _ => rfl) (by kernel_rfl) (by kernel_rfl) (by kernel_rfl) (by kernel_rfl)
theorem cc81 {n : Nat} {f : Nat → Bool}  : Exec PP T none x81.nt 0 x81.body.b.b.a.a (mkSt [(0, g1S 0), (3, g1S 1)] (H81 n f ff) 2 []) .n (S81 n f ff 0) := by
  refine exec_orun env0 false 60 [] [0, 1] (fun _ => rfl) (by kernel_rfl) (by kernel_rfl) (by kernel_rfl) (by kernel_rfl)
theorem l81a {n : Nat} {f o : Nat → Bool} {a : Nat}  : Exec PP T none x81.nt 0 L81.a (S81 n f o a) .n (P81 n f o a) := by
  refine exec_orun env0 false 60 [] [0, 1] (fun _ => rfl) (by kernel_rfl) (by kernel_rfl) (by kernel_rfl) (by kernel_rfl)
theorem l81b {n : Nat} {f o : Nat → Bool} {a : Nat} (ha : a < n) : Exec PP T none x81.nt 0 L81.b.a (P81 n f o a) .n (S81 n f o a) := by
  refine exec_orun env0 false 60 [true] [0, 1] (fun _ => rfl) (by kernel_rfl) (by kernel_rfl) (by kernel_rfl) ?_
  rw [(show obOf (orun g0 false 60 L81.b.a (P81 n f o a) [true]) = (decide (Int.ofNat a < Int.ofNat n) && true) from by kernel_rfl)]
  all_goals (first | rfl | (simp; done) | (simp; omega) | (simp [rng64]; done) | (simp [rng64]; omega) | (simp [rng64_eq]; omega))
theorem l81x {n : Nat} {f o : Nat → Bool}  : Exec PP T none x81.nt 0 L81.b.a (P81 n f o n) (.x 0) (S81 n f o n) := by
  refine exec_orun env0 false 60 [false] [0, 1] (fun _ => rfl) (by kernel_rfl) (by kernel_rfl) (by kernel_rfl) ?_
  rw [(show obOf (orun g0 false 60 L81.b.a (P81 n f o n) [false]) = (!decide (Int.ofNat n < Int.ofNat n) && true) from by kernel_rfl)]
  all_goals (first | rfl | (simp; done) | (simp; omega) | (simp [rng64]; done) | (simp [rng64]; omega) | (simp [rng64_eq]; omega))
theorem l81c {n : Nat} {f o : Nat → Bool} {a : Nat}  : Exec PP T none x81.nt 0 L81.b.b.a.i.a (S81 n f o a) .n (T81 n f o a) := by
  refine exec_orun env0 false 60 [] [0, 1] (fun _ => rfl) (by kernel_rfl) (by kernel_rfl) (by kernel_rfl) (by kernel_rfl)
theorem l81d {n : Nat} {f o : Nat → Bool} {a : Nat}  : Exec PP T none x81.nt 0 L81.b.b.a.i.b.a (T81 n f o a) .n (U81 n f o a 0) := by
  refine exec_orun env0 false 60 [] [0, 1] (fun _ => rfl) (by kernel_rfl) (by kernel_rfl) (by kernel_rfl) (by kernel_rfl)
theorem l81e {n : Nat} {f o : Nat → Bool} {a b : Nat} (ha : a < 7) : Exec PP T none x81.nt 0 L81.b.b.b (U81 n f o a b) .n (S81 n f o (a + 1)) := by
  refine exec_orun env0 false 60 [] [0, 1] (fun _ => rfl) (by kernel_rfl) (by kernel_rfl) (by kernel_rfl) ?_
  rw [(show obOf (orun g0 false 60 L81.b.b.b (U81 n f o a b) []) = (rng64 (Int.ofNat a.succ) && true) from by kernel_rfl)]
  all_goals (first | rfl | (simp; done) | (simp; omega) | (simp [rng64]; done) | (simp [rng64]; omega) | (simp [rng64_eq]; omega))
theorem m81 {n : Nat} {f o : Nat → Bool} {a b : Nat} (hn : n ≤ 7) (ha : a < n) (hb : b < n) : Exec PP T none x81.nt 0 M81 (U81 n f o a b) .n (U81 n f (oS f o a b) a (b + 1)) := by
  refine exec_orun env0 false 60 [true] [0, 1] (fun _ => rfl) (by kernel_rfl) (by kernel_rfl) (by kernel_rfl) ?_
  rw [(show obOf (orun g0 false 60 M81 (U81 n f o a b) [true]) = ((fun b0_ : Bool => decide (Int.ofNat b < Int.ofNat n) && true && ((!b0_ == true || true) && ((!b0_ == true || true) && ((!b0_ == true || true) && ((!b0_ == true || b0_ == true && true && true) && ((!b0_ == true || b0_ == true && true && true) && ((!b0_ == true || b0_ == true && (b0_ == true && true) && (decide (0 ≤ Int.ofNat a) && decide (Int.ofNat a < 7))) && ((!b0_ == true || b0_ == true && (b0_ == true && true) && (decide (0 ≤ Int.ofNat b) && decide (Int.ofNat b < 7))) && ((!b0_ == true || b0_ == true && true && decide (0 + (0 + a * 7 + b * 1) < 49)) && ((!b0_ == true || b0_ == true && true && true) && ((bif Int.ofNat a != Int.ofNat b then b0_ == true else true) && true && (decide (0 ≤ Int.ofNat a) && decide (Int.ofNat a < 7) && (decide (0 ≤ Int.ofNat b) && decide (Int.ofNat b < 7) && (decide (0 + (0 + a * 7 + b * 1) < 49) && true && true && true)))))))))))) && true && (rng64 (Int.ofNat b.succ) && true))) (Int.ofNat a != Int.ofNat b)) from by kernel_rfl)]
  dsimp only
  generalize (Int.ofNat a != Int.ofNat b) = Z
  cases Z <;> simp [rng64] <;> omega
theorem m81x {n : Nat} {f o : Nat → Bool} {a : Nat}  : Exec PP T none x81.nt 0 M81 (U81 n f o a n) (.x 2) (U81 n f o a n) := by
  refine exec_orun env0 false 60 [false] [0, 1] (fun _ => rfl) (by kernel_rfl) (by kernel_rfl) (by kernel_rfl) ?_
  rw [(show obOf (orun g0 false 60 M81 (U81 n f o a n) [false]) = (!decide (Int.ofNat n < Int.ofNat n) && true) from by kernel_rfl)]
  all_goals (first | rfl | (simp; done) | (simp; omega) | (simp [rng64]; done) | (simp [rng64]; omega) | (simp [rng64_eq]; omega))
theorem d81 {n : Nat} {f o : Nat → Bool}  : Exec PP T none x81.nt 0 x81.body.b.b.b (S81 n f o n) .r (mkSt [(2, g1S 0)] [⟨false, .row 115 [.int .i64 (Int.ofNat n)] 49 o⟩] 1 []) := by
  refine exec_orun env0 false 60 [] [1] (fun _ => rfl) (by kernel_rfl) (by kernel_rfl) (by kernel_rfl) (by kernel_rfl)
theorem l81 {n : Nat} {f : Nat → Bool} {a : Nat} (hn : n ≤ 7) (ha : a < n) : Exec PP T none x81.nt 0 L81 (S81 n f (oall f n a) a) .n (S81 n f (oall f n (a + 1)) (a + 1)) :=
  exec_seq (x := L81.a) (y := L81.b) l81a (exec_seq (x := L81.b.a) (y := L81.b.b) (l81b ha) (exec_seq (x := L81.b.b.a) (y := L81.b.b.b) (exec_block (id := 1) (x := L81.b.b.a.i) (e := .n) (exec_seq (x := L81.b.b.a.i.a) (y := L81.b.b.a.i.b) l81c (exec_seq (x := L81.b.b.a.i.b.a) (y := .block 2 (.loop M81)) l81d (exec_block (e := .x 2) (S1 := U81 n f (oall f n (a + 1)) a n)
    (exec_loop_up (fun b => U81 n f (orow f a (oall f n a) b) a b) n (fun b hb => m81 hn ha hb) m81x (by simp) 0 (by omega)))))) (l81e (by omega))))
theorem body81 {n : Nat} {f : Nat → Bool} (hn : n ≤ 7) : Exec PP T none x81.nt 0 x81.body (startSt [.s (.ptr 0 0 0)] [RG n f]) .r (mkSt [(2, g1S 0)] [⟨false, .row 115 [.int .i64 (Int.ofNat n)] 49 (othF n f)⟩] 1 []) :=
  exec_seq (x := x81.body.a) (y := x81.body.b) a81 (exec_seq (x := x81.body.b.a) (y := x81.body.b.b) b81 (exec_seq (x := x81.body.b.b.a) (y := x81.body.b.b.b) (exec_seq (x := x81.body.b.b.a.a) (y := .block 0 (.loop L81)) cc81 (exec_block (e := .x 0) (S1 := S81 n f (othF n f) n)
    (exec_loop_up (fun a => S81 n f (oall f n a) a) n (fun a ha => l81 hn ha) (exec_seq (x := L81.a) (y := L81.b) l81a (exec_seq_x (x := L81.b.a) (y := L81.b.b) l81x (by simp))) (by simp) 0 (by omega)))) d81))
def cOth : List PA → Bool := fun pas => match pas with | [.gr _ _ n _] => decide (0 ≤ n) && decide (n ≤ 7) | _ => false
def nOth : List PA → List HO := fun pas => match pas with | [.gr _ _ n f] => [⟨false, .row 115 [.int .i64 n] 49 (othF n.toNat f)⟩] | _ => [⟨false, .ivec 3 .i64 1 []⟩]
noncomputable abbrev spOth : Spec := genS [.gr 115 49] cOth (fun _ => .av (.s (.ptr 0 0 0))) nOth
theorem ok81 : SpecOK PP (compC T) 81 spOth := ok_gen o81 (by kernel_rfl) fun pas hf hc => match pas, hf with
  | [.gr _ _ n f], ⟨⟨rfl, rfl⟩, _⟩ => by
    unfold cOth at hc
    simp only [Bool.and_eq_true, decide_eq_true_eq] at hc
    obtain ⟨k, rfl⟩ : ∃ k : Nat, n = Int.ofNat k := ⟨n.toNat, by simp; omega⟩
    exact ⟨_, 1, .r, body81 (by have := hc.2; simp at this; omega), fun _ => rfl, by kernel_rfl, by kernel_rfl, by kernel_rfl⟩
theorem at7_oS {f o : Nat → Bool} {a b x y : Nat} (ha : a < 7) (hb : b < 7) (hx : x < 7) (hy : y < 7) : at7 (oS f o a b) x y = bif Nat.beq x a && Nat.beq y b then decide (a ≠ b) && !(at7 f a b) else at7 o x y := by
  unfold at7 oS
  by_cases h : x = a ∧ y = b
  · obtain ⟨rfl, rfl⟩ := h
    rw [beqT (by simp), beqT rfl, beqT rfl]
    by_cases hxy : x = y
    · simp [hxy]
    · have : ¬ ((x : Int) = y) := by omega
      simp [hxy, this]
  · rw [beqF (by omega)]
    have : (Nat.beq x a && Nat.beq y b) = false := by
      cases hh : (Nat.beq x a && Nat.beq y b) with
      | false => rfl
      | true =>
        rw [Bool.and_eq_true] at hh
        exact absurd ⟨Nat.eq_of_beq_eq_true hh.1, Nat.eq_of_beq_eq_true hh.2⟩ h
    rw [this]
    rfl
theorem at7_orow {f o : Nat → Bool} {a : Nat} (ha : a < 7) : ∀ b, b ≤ 7 → ∀ {x y : Nat}, x < 7 → y < 7 → at7 (orow f a o b) x y = bif decide (y < b) && Nat.beq x a then decide (x ≠ y) && !(at7 f x y) else at7 o x y
  | 0, _, x, y, hx, hy => by simp [orow]
  | b + 1, hb, x, y, hx, hy => by
    show at7 (oS f (orow f a o b) a b) x y = _
    rw [at7_oS ha (by omega) hx hy, at7_orow ha b (by omega) hx hy]
    by_cases h : x = a
    · subst h
      rw [beqT rfl]
      by_cases h2 : y = b
      · subst h2; rw [beqT rfl]; simp
      · rw [beqF h2]
        by_cases h3 : y < b
        · have : y < b + 1 := by omega
          simp [h3, this]
        · have : ¬ y < b + 1 := by omega
          simp [h3, this]
    · rw [beqF h]; simp
theorem at7_oall {f : Nat → Bool} {n : Nat} (hn : n ≤ 7) : ∀ a, a ≤ 7 → ∀ {x y : Nat}, x < 7 → y < 7 → at7 (oall f n a) x y = (decide (x < a) && decide (y < n) && (decide (x ≠ y) && !(at7 f x y)))
  | 0, _, x, y, hx, hy => by simp [oall, at7, ff]
  | a + 1, ha, x, y, hx, hy => by
    show at7 (orow f a (oall f n a) n) x y = _
    rw [at7_orow (by omega) n hn hx hy, at7_oall hn a (by omega) hx hy]
    by_cases h : x = a
    · subst h
      rw [beqT rfl]
      cases decide (y < n) <;> simp
    · rw [beqF h]
      by_cases h2 : x < a
      · have : x < a + 1 := by omega
        simp [h2, this]
      · have : ¬ x < a + 1 := by omega
        simp [h2, this]
theorem at7_oth {n : Nat} {f : Nat → Bool} {x y : Nat} (hn : n ≤ 7) (hx : x < 7) (hy : y < 7) : at7 (othF n f) x y = (decide (x < n) && decide (y < n) && (decide (x ≠ y) && !(at7 f x y))) := at7_oall hn n hn hx hy
def lnF (f : Nat → Bool) (n : Nat) : Nat → List Int
  | 0 => List.replicate n 0
  | i + 1 => (lnF f n i).set (0 + (0 + prc f n i) * 1) (Int.ofNat i)
theorem lnF_len (f : Nat → Bool) (n : Nat) : ∀ i, (lnF f n i).length = n
  | 0 => by simp [lnF]
  | i + 1 => by simp [lnF, lnF_len f n i]
def L82 : XC := x82.body.b.b.a.b.i.i
def M82 : XC := L82.b.b.a.i.b.b.a.b.i.i
abbrev H82 (f : Nat → Bool) (q : List Int) : List HO := [⟨false, .row 70 [] 49 f⟩, ⟨false, .ivec 3 .i64 1 q⟩]
abbrev S82 (n : Nat) (f : Nat → Bool) (q : List Int) (i : Nat) : St := mkSt [(1, iS n), (2, g1S 0), (5, s1S 1 n), (11, iS n), (12, iS i)] (H82 f q) 2 []
abbrev P82 (n : Nat) (f : Nat → Bool) (q : List Int) (i : Nat) : St := mkSt [(1, iS n), (2, g1S 0), (5, s1S 1 n), (11, iS n), (12, iS i), (13, ⟨true, B (decide (Int.ofNat i < Int.ofNat n))⟩)] (H82 f q) 2 []
abbrev T82 (n : Nat) (f : Nat → Bool) (q : List Int) (i : Nat) : St := mkSt [(1, iS n), (2, g1S 0), (5, s1S 1 n), (11, iS n), (12, iS i), (6, iS i)] (H82 f q) 2 []
abbrev V82 (n : Nat) (f : Nat → Bool) (q : List Int) (i c : Nat) : St := mkSt [(1, iS n), (2, g1S 0), (5, s1S 1 n), (11, iS n), (12, iS i), (6, iS i), (7, iS c)] (H82 f q) 2 []
abbrev U82 (n : Nat) (f : Nat → Bool) (q : List Int) (i c k : Nat) : St := mkSt [(1, iS n), (2, g1S 0), (5, s1S 1 n), (11, iS n), (12, iS i), (6, iS i), (7, iS c), (15, iS n), (16, iS k)] (H82 f q) 2 []
theorem a82 {n : Nat} {f : Nat → Bool}  : Exec PP T none x82.nt 0 x82.body.a (startSt [.pb [] 49 f, .s (.int .i64 (Int.ofNat n))] []) .n (mkSt [(1, iS n), (2, g1S 0)] [⟨false, .row 70 [] 49 f⟩] 1 []) := by
  refine exec_orun env0 false 60 [] [0] (fun _ => rfl) (by kernel_rfl) (by kernel_rfl) (by kernel_rfl) (by kernel_rfl)
theorem b82 {n : Nat} {f : Nat → Bool} (hn : n ≤ 7) : Exec PP T none x82.nt 0 x82.body.b.a (mkSt [(1, iS n), (2, g1S 0)] [⟨false, .row 70 [] 49 f⟩] 1 []) .n (mkSt [(1, iS n), (2, g1S 0), (5, s1S 1 n)] (H82 f (List.replicate n 0)) 2 []) := by
  refine exec_orun env0 false 60 [] [0, 1] (fun _ => rfl) (by kernel_rfl) (by kernel_rfl) (by kernel_rfl) ?_
  rw [(show obOf (orun g0 false 60 x82.body.b.a (mkSt [(1, iS n), (2, g1S 0)] [⟨false, .row 70 [] 49 f⟩] 1 []) []) = (decide (0 ≤ Int.ofNat n) && decide (n ≤ 1000000000) && true && true && true) from by kernel_rfl)]
  simp [bndL]
  omega
theorem cc82 {n : Nat} {f : Nat → Bool} {q : List Int}  : Exec PP T none x82.nt 0 x82.body.b.b.a.a (mkSt [(1, iS n), (2, g1S 0), (5, s1S 1 n)] (H82 f q) 2 []) .n (S82 n f q 0) := by
  refine exec_orun env0 false 60 [] [0, 1] (fun _ => rfl) (by kernel_rfl) (by kernel_rfl) (by kernel_rfl) (by kernel_rfl)
theorem l82a {n : Nat} {f : Nat → Bool} {q : List Int} {i : Nat}  : Exec PP T none x82.nt 0 L82.a (S82 n f q i) .n (P82 n f q i) := by
  refine exec_orun env0 false 60 [] [0, 1] (fun _ => rfl) (by kernel_rfl) (by kernel_rfl) (by kernel_rfl) (by kernel_rfl)
theorem l82b {n : Nat} {f : Nat → Bool} {q : List Int} {i : Nat} (hi : i < n) : Exec PP T none x82.nt 0 L82.b.a (P82 n f q i) .n (S82 n f q i) := by
  refine exec_orun env0 false 60 [true] [0, 1] (fun _ => rfl) (by kernel_rfl) (by kernel_rfl) (by kernel_rfl) ?_
  rw [(show obOf (orun g0 false 60 L82.b.a (P82 n f q i) [true]) = (decide (Int.ofNat i < Int.ofNat n) && true) from by kernel_rfl)]
  all_goals (first | rfl | (simp; done) | (simp; omega) | (simp [rng64]; done) | (simp [rng64]; omega) | (simp [rng64_eq]; omega))
theorem l82x {n : Nat} {f : Nat → Bool} {q : List Int}  : Exec PP T none x82.nt 0 L82.b.a (P82 n f q n) (.x 0) (S82 n f q n) := by
  refine exec_orun env0 false 60 [false] [0, 1] (fun _ => rfl) (by kernel_rfl) (by kernel_rfl) (by kernel_rfl) ?_
  rw [(show obOf (orun g0 false 60 L82.b.a (P82 n f q n) [false]) = (!decide (Int.ofNat n < Int.ofNat n) && true) from by kernel_rfl)]
  all_goals (first | rfl | (simp; done) | (simp; omega) | (simp [rng64]; done) | (simp [rng64]; omega) | (simp [rng64_eq]; omega))
theorem l82c {n : Nat} {f : Nat → Bool} {q : List Int} {i : Nat}  : Exec PP T none x82.nt 0 L82.b.b.a.i.a (S82 n f q i) .n (T82 n f q i) := by
  refine exec_orun env0 false 60 [] [0, 1] (fun _ => rfl) (by kernel_rfl) (by kernel_rfl) (by kernel_rfl) (by kernel_rfl)
theorem l82d {n : Nat} {f : Nat → Bool} {q : List Int} {i : Nat}  : Exec PP T none x82.nt 0 L82.b.b.a.i.b.a (T82 n f q i) .n (V82 n f q i 0) := by
  refine exec_orun env0 false 60 [] [0, 1] (fun _ => rfl) (by kernel_rfl) (by kernel_rfl) (by kernel_rfl) (by kernel_rfl)
theorem l82g {n : Nat} {f : Nat → Bool} {q : List Int} {i : Nat}  : Exec PP T none x82.nt 0 L82.b.b.a.i.b.b.a.a (V82 n f q i 0) .n (U82 n f q i 0 0) := by
  refine exec_orun env0 false 60 [] [0, 1] (fun _ => rfl) (by kernel_rfl) (by kernel_rfl) (by kernel_rfl) (by kernel_rfl)
theorem l82h {n : Nat} {f : Nat → Bool} {q : List Int} {i c k : Nat} (hq : q.length = n) (hc : c < n) : Exec PP T none x82.nt 0 L82.b.b.a.i.b.b.b (U82 n f q i c k) .n (V82 n f (q.set (0 + (0 + c) * 1) (Int.ofNat i)) i c) := by
  refine exec_orun env0 false 60 [] [0, 1] (fun _ => rfl) (by kernel_rfl) (by kernel_rfl) (by kernel_rfl) ?_
  rw [(show obOf (orun g0 false 60 L82.b.b.a.i.b.b.b (U82 n f q i c k) []) = (decide (0 ≤ Int.ofNat c) && decide (Int.ofNat c < Int.ofNat n) && (decide (0 + (0 + c) * 1 < q.length) && true && true && true)) from by kernel_rfl)]
  all_goals (first | rfl | (simp; done) | (simp; omega) | (simp [rng64]; done) | (simp [rng64]; omega) | (simp [rng64_eq]; omega))
theorem l82e {n : Nat} {f : Nat → Bool} {q : List Int} {i c : Nat} (hi : i < 7) : Exec PP T none x82.nt 0 L82.b.b.b (V82 n f q i c) .n (S82 n f q (i + 1)) := by
  refine exec_orun env0 false 60 [] [0, 1] (fun _ => rfl) (by kernel_rfl) (by kernel_rfl) (by kernel_rfl) ?_
  rw [(show obOf (orun g0 false 60 L82.b.b.b (V82 n f q i c) []) = (rng64 (Int.ofNat i.succ) && true) from by kernel_rfl)]
  all_goals (first | rfl | (simp; done) | (simp; omega) | (simp [rng64]; done) | (simp [rng64]; omega) | (simp [rng64_eq]; omega))
theorem m82f {n : Nat} {f : Nat → Bool} {q : List Int} {i c k : Nat} (hn : n ≤ 7) (hi : i < n) (hk : k < n) (h : at7 f k i = false) : Exec PP T none x82.nt 0 M82 (U82 n f q i c k) .n (U82 n f q i c (k + 1)) := by
  refine exec_orun env0 false 60 [true, false] [0, 1] (fun _ => rfl) (by kernel_rfl) (by kernel_rfl) (by kernel_rfl) ?_
  rw [(show obOf (orun g0 false 60 M82 (U82 n f q i c k) [true, false]) = (decide (Int.ofNat k < Int.ofNat n) && true && (decide (0 ≤ Int.ofNat k) && decide (Int.ofNat k < 7) && (decide (0 ≤ Int.ofNat i) && decide (Int.ofNat i < 7) && (decide (0 + (0 + k * 7 + i * 1) < 49) && true)) && (!f (0 + (0 + k * 7 + i * 1)) && true) && (rng64 (Int.ofNat k.succ) && true))) from by kernel_rfl)]
  simp only [at7_raw, h]
  simp [rng64]
  omega
theorem m82t {n : Nat} {f : Nat → Bool} {q : List Int} {i c k : Nat} (hn : n ≤ 7) (hi : i < n) (hk : k < n) (hc : c ≤ 7) (h : at7 f k i = true) : Exec PP T none x82.nt 0 M82 (U82 n f q i c k) .n (U82 n f q i (c + 1) (k + 1)) := by
  refine exec_orun env0 false 60 [true, true] [0, 1] (fun _ => rfl) (by kernel_rfl) (by kernel_rfl) (by kernel_rfl) ?_
  rw [(show obOf (orun g0 false 60 M82 (U82 n f q i c k) [true, true]) = (decide (Int.ofNat k < Int.ofNat n) && true && (decide (0 ≤ Int.ofNat k) && decide (Int.ofNat k < 7) && (decide (0 ≤ Int.ofNat i) && decide (Int.ofNat i < 7) && (decide (0 + (0 + k * 7 + i * 1) < 49) && true)) && (f (0 + (0 + k * 7 + i * 1)) && (rng64 (Int.ofNat c.succ) && true)) && (rng64 (Int.ofNat k.succ) && true))) from by kernel_rfl)]
  simp only [at7_raw, h]
  simp [rng64]
  omega
theorem m82x {n : Nat} {f : Nat → Bool} {q : List Int} {i c : Nat}  : Exec PP T none x82.nt 0 M82 (U82 n f q i c n) (.x 2) (U82 n f q i c n) := by
  refine exec_orun env0 false 60 [false] [0, 1] (fun _ => rfl) (by kernel_rfl) (by kernel_rfl) (by kernel_rfl) ?_
  rw [(show obOf (orun g0 false 60 M82 (U82 n f q i c n) [false]) = (!decide (Int.ofNat n < Int.ofNat n) && true) from by kernel_rfl)]
  all_goals (first | rfl | (simp; done) | (simp; omega) | (simp [rng64]; done) | (simp [rng64]; omega) | (simp [rng64_eq]; omega))
theorem d82 {n : Nat} {f : Nat → Bool} {q : List Int}  : Exec PP T none x82.nt 0 x82.body.b.b.b (S82 n f q n) .r (mkSt [(4, s1S 0 n)] [⟨false, .ivec 3 .i64 1 q⟩] 1 []) := by
  refine exec_orun env0 false 60 [] [1] (fun _ => rfl) (by kernel_rfl) (by kernel_rfl) (by kernel_rfl) (by kernel_rfl)
theorem l82 {n : Nat} {f : Nat → Bool} {i : Nat} (hn : n ≤ 7) (hi : i < n) (hp : prc f n i < n) : Exec PP T none x82.nt 0 L82 (S82 n f (lnF f n i) i) .n (S82 n f (lnF f n (i + 1)) (i + 1)) :=
  exec_seq (x := L82.a) (y := L82.b) l82a (exec_seq (x := L82.b.a) (y := L82.b.b) (l82b hi) (exec_seq (x := L82.b.b.a) (y := L82.b.b.b) (exec_block (id := 1) (x := L82.b.b.a.i) (e := .n) (exec_seq (x := L82.b.b.a.i.a) (y := L82.b.b.a.i.b) l82c (exec_seq (x := L82.b.b.a.i.b.a) (y := L82.b.b.a.i.b.b) l82d (exec_seq (x := L82.b.b.a.i.b.b.a) (y := L82.b.b.a.i.b.b.b) (exec_seq (x := L82.b.b.a.i.b.b.a.a) (y := .block 2 (.loop M82)) l82g (exec_block (e := .x 2) (S1 := U82 n f (lnF f n i) i (prc f n i) n)
    (exec_loop_up (fun k => U82 n f (lnF f n i) i (cntB (fun c => at7 f c i) k) k) n (fun k hk => by
      have hle := cntB_le (fun c => at7 f c i) k
      cases h : at7 f k i with
      | false =>
        have e : cntB (fun c => at7 f c i) (k + 1) = cntB (fun c => at7 f c i) k := by show _ + (bif at7 f k i then 1 else 0) = _; rw [h]; rfl
        simp only [e]
        exact m82f hn hi hk h
      | true =>
        have e : cntB (fun c => at7 f c i) (k + 1) = cntB (fun c => at7 f c i) k + 1 := by show _ + (bif at7 f k i then 1 else 0) = _; rw [h]; rfl
        simp only [e]
        exact m82t hn hi hk (by omega) h) m82x (by simp) 0 (by omega)))) (l82h (lnF_len f n i) hp))))) (l82e (by omega))))
def lnOk (f : Nat → Bool) (n : Nat) : Bool := (List.range n).all fun i => decide (prc f n i < n)
theorem body82 {n : Nat} {f : Nat → Bool} (hn : n ≤ 7) (h : lnOk f n = true) : Exec PP T none x82.nt 0 x82.body (startSt [.pb [] 49 f, .s (.int .i64 (Int.ofNat n))] []) .r (mkSt [(4, s1S 0 n)] [⟨false, .ivec 3 .i64 1 (lnF f n n)⟩] 1 []) :=
  exec_seq (x := x82.body.a) (y := x82.body.b) a82 (exec_seq (x := x82.body.b.a) (y := x82.body.b.b) (b82 hn) (exec_seq (x := x82.body.b.b.a) (y := x82.body.b.b.b) (exec_seq (x := x82.body.b.b.a.a) (y := .block 0 (.loop L82)) cc82 (exec_block (e := .x 0) (S1 := S82 n f (lnF f n n) n)
    (exec_loop_up (fun i => S82 n f (lnF f n i) i) n (fun i hi => l82 hn hi (of_decide_eq_true (List.all_eq_true.1 h i (List.mem_range.2 hi)))) (exec_seq (x := L82.a) (y := L82.b) l82a (exec_seq_x (x := L82.b.a) (y := L82.b.b) l82x (by simp))) (by simp) 0 (by omega)))) d82))
def cLine : List PA → Bool := fun pas => match pas with | [.bs _ f, .int n] => lnOk f n.toNat && (decide (0 ≤ n) && decide (n ≤ 7)) | _ => false
def nLine : List PA → List HO := fun pas => match pas with | [.bs _ f, .int n] => [⟨false, .ivec 3 .i64 1 (lnF f n.toNat n.toNat)⟩] | _ => [⟨false, .ivec 3 .i64 1 []⟩]
noncomputable abbrev spLine : Spec := genS [.bs 49, .int] cLine vLay nLine
theorem ok82 : SpecOK PP (compC T) 82 spLine := ok_gen o82 (by kernel_rfl) fun pas hf hc => match pas, hf with
  | [.bs _ f, .int n], ⟨rfl, _, _⟩ => by
    unfold cLine at hc
    simp only [Bool.and_eq_true, decide_eq_true_eq] at hc
    obtain ⟨k, rfl⟩ : ∃ k : Nat, n = Int.ofNat k := ⟨n.toNat, by simp; omega⟩
    exact ⟨_, 1, .r, body82 (by have := hc.2.2; simp at this; omega) hc.1, fun _ => rfl, by kernel_rfl, by kernel_rfl, by kernel_rfl⟩
end Go.Proofs.Yteekkjfjpoaihaa.Eng

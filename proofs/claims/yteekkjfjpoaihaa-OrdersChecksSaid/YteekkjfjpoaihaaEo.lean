/- The engine, part 15: the state against the frame; one operation of a region; a region in the text's order. -/
import Derived.Test.YteekkjfjpoaihaaEn
set_option linter.all false
namespace Go.Proofs.Yteekkjfjpoaihaa.Eng
open Go

section
variable {P : Program} {T : Tab} {cmp : Cmp} {r : Option Nat} {Γ : Cal → Option Spec}

/-- slots and objects, as functions, against the frame and the world -/
structure RelF (cmp : Cmp) (ctx : Ctx) (nt : Nat) (m : MM) (sl : Nat → Option Slot) (hp : Nat → Option HO) (df : List Nat) (a : Act) (w : World) : Prop where
  slot : ∀ t s, sl t = some s → SlotR m s (a.tmps.getD t undef)
  size : a.tmps.size = nt
  heap : HRel cmp ctx m hp w
  df : All2 (fun id d => ∃ mb b, m id = some mb ∧ mb.b = some b ∧ d = ({ target := .collected b, args := #[] } : Deferred)) df a.defers

def setF (sl : Nat → Option Slot) (d : Option Nat) (s : Slot) : Nat → Option Slot :=
  match d with
  | none => sl
  | some d => fun t => if t = d then some s else sl t

theorem setDst_get (sl : Sto Slot) (d : Option Nat) (s : Slot) : (setDst sl d s).get = setF sl.get d s := by
  cases d with
  | none => rfl
  | some d => funext t; simp [setDst, setF, Sto.get_set]

theorem setAll_get : ∀ (l : List (Nat × HO)) (h : Sto HO), (h.setAll l).get = upH h.get l
  | [], h => rfl
  | (i, x) :: l, h => by
    simp only [Sto.setAll_cons, upH]
    rw [setAll_get l]
    congr 1
    funext j
    rw [Sto.get_set]

theorem setNews_get : ∀ (l : List HO) (h : Sto HO) (b : Nat), (h.setNews b l).get = newH h.get b l
  | [], h, b => rfl
  | o :: l, h, b => by
    simp only [Sto.setNews_cons, newH]
    funext j
    rw [Sto.get_set, setNews_get l h (b + 1)]

theorem cV_snd {v : Value} {av : AV} (h : cV v = some av) (m : MM) : AR m av v := by
  unfold cV at h
  split at h <;> first
    | (cases h; done)
    | (simp only [Option.some.injEq] at h; subst h; rfl)

theorem need_opc {sl : Nat → Option Slot} {x : XI} (h : opc sl x = true) : ∀ xo ∈ need (fun y => (evalX sl y).v) x, (evalX sl xo).c = true := by
  intro xo hm
  cases x
  case pick c a b =>
    simp only [opc, Bool.and_eq_true] at h
    simp only [need, List.mem_cons] at hm
    rcases hm with rfl | hm
    · exact h.1
    · split at hm
      · rename_i t ht
        have h2 := h.2
        rw [ht] at h2
        cases t
        · simp at hm h2; subst hm; exact h2
        · simp at hm h2; subst hm; exact h2
      · cases hm
  all_goals (simp only [opc, allX_eq] at h; exact List.all_eq_true.1 h xo hm)

theorem ops_TR {ctx : Ctx} {nt : Nat} {m : MM} {sl : Nat → Option Slot} {hp : Nat → Option HO} {df : List Nat} {a : Act} {w : World} (hR : RelF cmp ctx nt m sl hp df a w) {x : XI} (h : opc sl x = true) :
    ∀ y xo, cO y = some xo → xo ∈ need (fun y => (evalX sl y).v) x → TR m ((fun y => (evalX sl y).v) xo) (a.eval y) := by
  intro y xo hy hm
  have hc := need_opc h xo hm
  cases y with
  | tmp t =>
    simp only [cO, Option.some.injEq] at hy
    subst hy
    simp only [evalX] at hc ⊢
    cases hs : sl t with
    | none => simp only [Option.getD_none]; trivial
    | some s =>
      rw [hs] at hc
      simp only [Option.getD_some] at hc ⊢
      exact (hR.slot t s hs).1 hc
  | const v =>
    simp only [cO, Option.map_eq_some_iff] at hy
    obtain ⟨av, h1, rfl⟩ := hy
    exact cV_snd h1 m
  | func f =>
    simp only [cO, Option.some.injEq] at hy
    subst hy
    exact ⟨[], rfl, trivial⟩
  | global g => simp [cO] at hy

/-- what an operation leaves in its slot -/
theorem RelF.put {ctx : Ctx} {nt : Nat} {m m' : MM} {sl : Nat → Option Slot} {hp hp' : Nat → Option HO} {df : List Nat} {a : Act} {w w' : World} (hR : RelF cmp ctx nt m sl hp df a w) (hm : m.le m') (hh : HRel cmp ctx m' hp' w') {d : Option Nat} {s : Slot} {v : Value}
    (hd : ∀ t, d = some t → t < nt) (hv : SlotR m' s v) : RelF cmp ctx nt m' (setF sl d s) hp' df (a.put d v) w' where
  slot := fun t q hq => by
    cases d with
    | none => exact (hR.slot t q hq).le hm
    | some d =>
      simp only [setF] at hq
      simp only [Act.put]
      split at hq
      · rename_i e
        subst e
        cases hq
        have : t < a.tmps.size := by rw [hR.size]; exact hd t rfl
        simpa [this] using hv
      · rename_i e
        have := (hR.slot t q hq).le hm
        simp only [Array.getD_eq_getD_getElem?] at this ⊢
        rwa [Array.getElem?_setIfInBounds_ne (fun e' => e e'.symm)]
  size := by
    cases d with
    | none => exact hR.size
    | some d => simpa [Act.put] using hR.size
  heap := hh
  df := by
    have := hR.df.mono (R' := fun id d => ∃ mb b, m' id = some mb ∧ mb.b = some b ∧ d = ({ target := .collected b, args := #[] } : Deferred)) fun _ _ ⟨mb, b, h1, h2⟩ => ⟨mb, b, hm _ _ h1, h2⟩
    cases d <;> exact this

/-- the guard of an operation, as the state and as the model see it -/
def guardOf (ops : List Oper) (o : Oper) : Option (Option (Nat × Bool)) :=
  match o.guard with
  | none => some none
  | some (j, want) => ((ops[j]?).bind (·.dst)).map fun t => some (t, want)

theorem guard_snd {ctx : Ctx} {nt : Nat} {m : MM} {sl : Nat → Option Slot} {hp : Nat → Option HO} {df : List Nat} {a : Act} {w : World} (hR : RelF cmp ctx nt m sl hp df a w) {ops : List Oper} {o : Oper} {g : Option (Nat × Bool)} {c : Bool}
    (hg : guardOf ops o = some g) (hc : guardC sl g = some c) : Region.wanted o (yielded ops.toArray a.tmps) = c := by
  unfold guardOf at hg
  unfold Region.wanted
  split at hg
  · rename_i hgo
    cases hg
    simp only [guardC, Option.some.injEq] at hc
    simp [hgo, hc]
  · rename_i j want hgo
    rw [hgo]
    cases hd : (ops[j]?).bind (·.dst) with
    | none => simp [hd] at hg
    | some t =>
      simp [hd] at hg
      subst hg
      simp only [guardC] at hc
      have hy : ∀ v, a.tmps.getD t undef = v → yielded ops.toArray a.tmps j = (match v with | .bool b => some b | _ => none) := by
        intro v hv
        unfold yielded
        simp only [List.getElem?_toArray, hd, Option.bind_some]
        cases hts : a.tmps[t]? with
        | none =>
          rw [Array.getD_eq_getD_getElem?, hts] at hv
          subst hv
          rfl
        | some u =>
          rw [Array.getD_eq_getD_getElem?, hts] at hv
          simp at hv
          subst hv
          cases u <;> rfl
      cases hs : sl t with
      | none => simp [hs] at hc
      | some s =>
        have hsl := hR.slot t s hs
        rw [hs] at hc
        obtain ⟨sc, sv⟩ := s
        cases sc with
        | false =>
          have := hy _ (hsl.2 rfl)
          simp only [undef] at this
          simp only [this]
          have hc' : c = false := by
            split at hc
            · rename_i heq; cases heq; simpa using hc.symm
            · simpa using hc.symm
            · cases hc
          rw [hc']
          rfl
        | true =>
          split at hc
          · rename_i b heq
            cases heq
            have hv : a.tmps.getD t undef = .bool _ := hsl.1 rfl
            have := hy _ hv
            simp only [this]
            simp only [Bool.true_and, Option.some.injEq] at hc
            rw [← hc]
            rfl
          · rename_i heq; cases heq
          · cases hc

/-- one operation of a region, its guard seen to -/
theorem op_snd {ctx : Ctx} {nt : Nat} {m : MM} {sl : Nat → Option Slot} {hp : Nat → Option HO} {df : List Nat} {a : Act} {w : World} {ops : List Oper} {o : Oper} {x : XOp} {b0 : Nat} {vc : Bool} {f : Ef}
    {K : Act → World → Prop} {Q : Exit → Act → World → Prop} (hsnd : Snd P cmp r Γ o x.x) (hx : xopF Γ b0 x sl hp = some (vc, f)) (hvc : vc = true) (hR : RelF cmp ctx nt m sl hp df a w) (hdst : x.dst = o.dst) (hnt : ∀ t, x.dst = some t → t < nt) (hg : guardOf ops o = some x.g)
    (hK : ∀ a' w' m', m.le m' → RelF cmp ctx nt m' (setF sl x.dst f.s) (newH (upH hp f.upd) f.base f.news) df a' w' → K a' w') :
    if Region.wanted o (yielded ops.toArray a.tmps) then o.wpIn (FR r) 0 P a w K Q else (∀ f, o.about P w a.eval = some f → (FR r).fn f) ∧ K (a.put o.dst undef) w := by
  unfold xopF at hx
  cases hc : guardC sl x.g with
  | none => simp [hc] at hx
  | some c =>
    rw [guard_snd hR hg hc]
    simp only [hc] at hx
    have skip : ∀ v, f.s = ⟨false, v⟩ → f.upd = [] → f.news = [] → K (a.put o.dst undef) w := by
      intro v hs hu hn
      refine hK _ _ m m.le_refl ?_
      rw [hs, hu, hn, ← hdst]
      exact hR.put m.le_refl hR.heap hnt ⟨fun h => (by cases h), fun _ => rfl⟩
    cases hxi : xi Γ x.x (fun y => (evalX sl y).v) hp (b0 + x.off) with
    | none =>
      simp only [hxi] at hx
      cases c with
      | true => cases hx
      | false =>
        simp only [Option.some.injEq, Prod.mk.injEq] at hx
        obtain ⟨_, rfl⟩ := hx
        simp only [Bool.false_eq_true, if_false]
        exact ⟨fun _ _ => trivial, skip _ rfl rfl rfl⟩
    | some e =>
      simp only [hxi] at hx
      obtain ⟨evc, eval, eupd, enews, erd⟩ := e
      cases c with
      | false =>
        simp only [Bool.false_eq_true, if_false]
        refine ⟨fun _ _ => trivial, ?_⟩
        split at hx
        all_goals
          simp only [Option.some.injEq, Prod.mk.injEq] at hx
          obtain ⟨_, rfl⟩ := hx
          exact skip _ rfl rfl rfl
      | true =>
        simp only [if_true]
        split at hx
        · rename_i h1 h2
          simp only at h1 h2
          subst h1 h2
          simp only [Bool.not_true, Bool.false_or, Option.some.injEq, Prod.mk.injEq] at hx
          obtain ⟨rfl, rfl⟩ := hx
          simp only [Bool.and_eq_true] at hvc
          refine hsnd ctx m hp w a _ (b0 + x.off) _ K Q (ops_TR hR hvc.1) hR.heap (fun k hk => by simp at hk) rfl hxi hvc.2 fun v w' m' hv hs => ?_
          refine hK _ _ m' hs.ext ?_
          rw [← hdst]
          exact hR.put hs.ext (HRel.step hR.heap hs rfl rfl) hnt ⟨fun _ => hv, fun h => (by cases h)⟩
        · simp only [Option.some.injEq, Prod.mk.injEq] at hx
          obtain ⟨rfl, rfl⟩ := hx
          simp only [Bool.and_eq_true] at hvc
          have hnw := newsOk_spec hvc.2
          refine hsnd ctx m hp w a _ (b0 + x.off) _ K Q (ops_TR hR hvc.1.1.1) hR.heap (fun k hk => (hnw k enews[k] (by simp [hk])).1) hvc.1.2 hxi hvc.1.1.2 fun v w' m' hv hs => ?_
          refine hK _ _ m' hs.ext ?_
          rw [← hdst]
          exact hR.put hs.ext (HRel.step hR.heap hs hvc.1.2 hvc.2) hnt ⟨fun _ => hv, fun h => (by cases h)⟩

/-- what the compile of a region's operations says -/
theorem compOps_spec {nt : Nat} {all : List Oper} : ∀ {l : List Oper} {off : Nat} {q : List XOp × Nat}, compOps T nt all l off = some q →
    q.1.length = l.length ∧ ∀ (i : Nat) (o : Oper), l[i]? = some o → ∃ x : XOp, q.1[i]? = some x ∧ compOp T o = some x.x ∧ x.dst = o.dst ∧ guardOf all o = some x.g ∧ (∀ t, x.dst = some t → t < nt)
  | [], off, q, h => by simp [compOps] at h; subst h; simp
  | o :: l, off, q, h => by
    simp only [compOps, Option.bind_eq_some_iff] at h
    obtain ⟨x, h1, g, h2, h⟩ := h
    by_cases hd : dstOk nt o.dst = true
    case neg => rw [if_neg hd] at h; cases h
    rw [if_pos hd] at h
    obtain ⟨q', h3, rfl⟩ := Option.map_eq_some_iff.1 h
    obtain ⟨h4, h5⟩ := compOps_spec h3
    refine ⟨by simp [h4], fun i o' hi => ?_⟩
    cases i with
    | zero =>
      simp at hi
      subst hi
      refine ⟨_, rfl, h1, rfl, h2, fun t ht => ?_⟩
      simp only at ht
      rw [ht] at hd
      simpa [dstOk] using hd
    | succ i => exact h5 i o' (by simpa using hi)

end
end Go.Proofs.Yteekkjfjpoaihaa.Eng

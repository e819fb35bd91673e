/- A part of the proof of topChains_holds. -/
import Derived.RangeFuncLeaves
import Derived.RangeFuncRecord
import Derived.Test.YteekkjfjpoaihaaOt02
set_option linter.all false
namespace Go.Proofs.Yteekkjfjpoaihaa.Eng
open Go
def upH : (Nat → Option HO) → List (Nat × HO) → Nat → Option HO
  | h, [] => h
  | h, (i, x) :: r => upH (fun j => if j = i then some x else h j) r
def newH (h : Nat → Option HO) : Nat → List HO → Nat → Option HO
  | _, [] => h
  | b, o :: r => fun j => if j = b then some o else newH h (b + 1) r j
theorem newH_get (h : Nat → Option HO) : ∀ (l : List HO) (b id : Nat), newH h b l id = if b ≤ id ∧ id < b + l.length then l[id - b]? else h id
  | [], b, id => by simp [newH]; omega
  | o :: r, b, id => by
    simp only [newH, List.length_cons]
    by_cases he : id = b
    · subst he
      rw [if_pos rfl, if_pos (by omega)]
      simp
    · rw [if_neg he, newH_get h r (b + 1) id]
      by_cases hc : b + 1 ≤ id ∧ id < b + 1 + r.length
      · rw [if_pos hc, if_pos (by omega)]
        rw [show id - b = (id - (b + 1)) + 1 by omega]
        simp
      · rw [if_neg hc, if_neg (by omega)]
theorem upH_other : ∀ (l : List (Nat × HO)) (h : Nat → Option HO) (id : Nat), (∀ u ∈ l, u.1 ≠ id) → upH h l id = h id
  | [], _, _, _ => rfl
  | (i, x) :: r, h, id, hn => by
    simp only [upH]
    rw [upH_other r _ id (fun u hu => hn u (by simp [hu])), if_neg (fun e => hn (i, x) (by simp) e.symm)]
theorem upH_in : ∀ (l : List (Nat × HO)) (h : Nat → Option HO) (u : Nat × HO), u ∈ l → l.Pairwise (fun a b => a.1 ≠ b.1) → upH h l u.1 = some u.2
  | (i, x) :: r, h, u, hu, hp => by
    simp only [upH]
    rw [List.pairwise_cons] at hp
    rcases List.mem_cons.1 hu with rfl | hu
    · rw [upH_other r _ _ (fun v hv => fun e => hp.1 v hv e.symm)]
      simp
    · exact upH_in r _ u hu hp.2
theorem updOk_spec {h : Nat → Option HO} : ∀ {l : List (Nat × HO)}, updOk h l = true → l.Pairwise (fun a b => a.1 ≠ b.1) ∧ ∀ u ∈ l, ∃ ho, h u.1 = some ho ∧ ho.ro = false ∧ ho.live = true ∧ u.2.ro = false := by
  have one : ∀ u : Nat × HO, ((match h u.1 with | some ho => !ho.ro && ho.live | none => false) && !u.2.ro) = true → ∃ ho, h u.1 = some ho ∧ ho.ro = false ∧ ho.live = true ∧ u.2.ro = false := by
    intro u hu
    cases hh : h u.1 with
    | none => simp [hh] at hu
    | some ho =>
      simp only [hh, Bool.and_eq_true, Bool.not_eq_true'] at hu
      exact ⟨ho, rfl, hu.1.1, hu.1.2, hu.2⟩
  intro l
  induction l with
  | nil => intro _; exact ⟨List.Pairwise.nil, fun u hu => by cases hu⟩
  | cons u r ih =>
    intro hl
    cases r with
    | nil =>
      simp only [updOk] at hl
      exact ⟨List.pairwise_singleton _ _, fun v hv => by simp at hv; subst hv; exact one _ hl⟩
    | cons v r =>
      simp only [updOk, Bool.and_eq_true] at hl
      have h1 : ((match h u.1 with | some ho => !ho.ro && ho.live | none => false) && !u.2.ro) = true := by simp only [Bool.and_eq_true]; exact ⟨hl.1.1.1, hl.1.1.2⟩
      obtain ⟨h3, h4⟩ := ih hl.2
      refine ⟨List.pairwise_cons.2 ⟨fun x hx e => ?_, h3⟩, fun x hx => ?_⟩
      · have := List.all_eq_true.1 hl.1.2 x hx
        rw [← e] at this
        simp at this
      · rcases List.mem_cons.1 hx with rfl | hx
        · exact one _ h1
        · exact h4 x hx
theorem newsOk_spec {h : Nat → Option HO} : ∀ {l : List HO} {b : Nat}, newsOk h b l = true → ∀ k ho, l[k]? = some ho → h (b + k) = none ∧ ho.ro = false
  | [], _, _, k, ho, hk => by simp at hk
  | o :: r, b, hl, k, ho, hk => by
    simp only [newsOk, Bool.and_eq_true, Bool.not_eq_true', Option.isNone_iff_eq_none] at hl
    cases k with
    | zero => simp at hk; subst hk; exact ⟨hl.1.1, hl.1.2⟩
    | succ k =>
      have := newsOk_spec hl.2 k ho (by simpa using hk)
      rw [show b + (k + 1) = b + 1 + k by omega]
      exact this
section
variable {P : Program} {T : Tab} {cmp : Cmp} {r : Option Nat} {Γ : Cal → Option Spec}
theorem HRel.step {ctx : Ctx} {m m' : MM} {h : Nat → Option HO} {w w' : World} {ups : List (Nat × HO)} {base : Nat} {news : List HO} (hH : HRel cmp ctx m h w) (hs : Stp cmp m m' w w' ups base news) (hup : updOk h ups = true) (hnw : newsOk h base news = true) :
    HRel cmp ctx m' (newH (upH h ups) base news) w' := by
  obtain ⟨hpw, hupd⟩ := updOk_spec hup
  have hnew := newsOk_spec hnw
  -- the three kinds
  have kinds : ∀ id ho, newH (upH h ups) base news id = some ho → (∃ k, id = base + k ∧ news[k]? = some ho) ∨ (h id ≠ none ∧ ((∃ u ∈ ups, u.1 = id ∧ u.2 = ho) ∨ ((∀ u ∈ ups, u.1 ≠ id) ∧ h id = some ho))) := by
    intro id ho hid
    rw [newH_get] at hid
    split at hid
    · rename_i hc
      exact .inl ⟨id - base, by omega, hid⟩
    · by_cases hex : ∃ u ∈ ups, u.1 = id
      · obtain ⟨u, hu, rfl⟩ := hex
        rw [upH_in ups h u hu hpw] at hid
        cases hid
        obtain ⟨ho', h1, _⟩ := hupd u hu
        exact .inr ⟨by rw [h1]; simp, .inl ⟨u, hu, rfl, rfl⟩⟩
      · have hno : ∀ u ∈ ups, u.1 ≠ id := fun u hu e => hex ⟨u, hu, e⟩
        rw [upH_other ups h id hno] at hid
        exact .inr ⟨by rw [hid]; simp, .inr ⟨hno, hid⟩⟩
  -- an old id's block
  have old : ∀ id ho, h id = some ho → ∃ mb, m id = some mb ∧ m' id = some mb := by
    intro id ho hid
    obtain ⟨mb, h1, _⟩ := hH.obj id ho hid
    exact ⟨mb, h1, hs.ext id mb h1⟩
  -- a live old id that stays, its block is as it was
  have stays : ∀ id ho mb b, h id = some ho → (∀ u ∈ ups, u.1 ≠ id) → ho.live = true → m id = some mb → mb.b = some b → w'.heap[b]? = w.heap[b]? := by
    intro id ho mb b hid hno hl hm hb
    obtain ⟨mb', h1, _, h2, _⟩ := hH.obj id ho hid
    rw [hm] at h1
    cases h1
    refine hs.same b (h2 hl b hb) fun u hu mbu hmu e => ?_
    obtain ⟨hou, g1, g2, g3, _⟩ := hupd u hu
    exact hH.dist u.1 id hou ho mbu mb b (hno u hu) g1 hid g2 g3 hl hmu hm e hb
  refine ⟨?_, ?_, ?_, hs.os.trans hH.os, hs.tape.trans hH.tape, hs.output.trans hH.output, Nat.le_trans hH.size hs.size, ?_⟩
  · intro id ho hid
    rcases kinds id ho hid with ⟨k, rfl, hk⟩ | ⟨hne, ⟨u, hu, rfl, rfl⟩ | ⟨hno, hid'⟩⟩
    · obtain ⟨mb, h1, h2, h3⟩ := hs.new k ho hk
      refine ⟨mb, h1, h2, fun _ b hb => (h3 b hb).1, fun _ _ b hb => ?_⟩
      rcases (h3 b hb).2 with h4 | ⟨u, hu, _, mbu, h5, h6⟩
      · exact .inl (Nat.le_trans hH.size h4)
      · obtain ⟨hou, g1, g2, g3, _⟩ := hupd u hu
        obtain ⟨mb', q1, _, _, q2⟩ := hH.obj u.1 hou g1
        rw [h5] at q1
        cases q1
        exact q2 g2 g3 b h6
    · obtain ⟨mb, h1, h2⟩ := hs.upd u hu
      obtain ⟨hou, g1, g2, g3, g4⟩ := hupd u hu
      obtain ⟨mb', q1, _, q2, q3⟩ := hH.obj u.1 hou g1
      rw [h1] at q1
      cases q1
      exact ⟨mb, hs.ext _ _ h1, h2, fun _ b hb => Nat.lt_of_lt_of_le (q2 g3 b hb) hs.size, fun _ _ b hb => q3 g2 g3 b hb⟩
    · obtain ⟨mb, h1, h2, h3, h4⟩ := hH.obj id ho hid'
      refine ⟨mb, hs.ext _ _ h1, ?_, fun hl b hb => Nat.lt_of_lt_of_le (h3 hl b hb) hs.size, h4⟩
      cases hl : ho.live with
      | false =>
        have : ho.o = .gone := by
          unfold HO.live at hl
          split at hl
          · assumption
          · cases hl
        rw [this]
        trivial
      | true => exact (OR.block (fun b hb => stays id ho mb b hid' hno hl h1 hb) h2).le hs.ext
  · intro id id' ho ho' mb mb' b hne hid hid' hro hl hl' hm hm' hb
    rcases kinds id ho hid with ⟨k, rfl, hk⟩ | ⟨hne1, hold⟩
    · rcases kinds id' ho' hid' with ⟨k', rfl, hk'⟩ | ⟨hne2, hold'⟩
      · have hlk : k < news.length := (List.getElem?_eq_some_iff.1 hk).1
        have hlk' : k' < news.length := (List.getElem?_eq_some_iff.1 hk').1
        exact hs.ndist k k' mb mb' b hlk hlk' (fun e => hne (by rw [e])) hm hm' hb
      · obtain ⟨mbn, h1, _, h3⟩ := hs.new k ho hk
        rw [hm] at h1
        cases h1
        obtain ⟨ho2, hho2⟩ := Option.ne_none_iff_exists'.1 hne2
        obtain ⟨mbo, g1, g2⟩ := old id' ho2 hho2
        rw [hm'] at g2
        cases g2
        intro hb'
        have live2 : ho2.live = true := by
          rcases hold' with ⟨u, hu, rfl, rfl⟩ | ⟨_, h5⟩
          · obtain ⟨hou, q1, _, q3, _⟩ := hupd u hu
            rw [hho2] at q1
            cases q1
            exact q3
          · rw [hho2] at h5; cases h5; exact hl'
        rcases (h3 b hb).2 with h4 | ⟨u, hu, hul, mbu, h5, h6⟩
        · obtain ⟨_, q1, _, q2, _⟩ := hH.obj id' ho2 hho2
          rw [g1] at q1
          cases q1
          have := q2 live2 b hb'
          omega
        · obtain ⟨hou, q1, q2, q3, _⟩ := hupd u hu
          have hune : u.1 ≠ id' := by
            rintro rfl
            rcases hold' with ⟨u', hu', he, rfl⟩ | ⟨hno, _⟩
            · have e1 := upH_in ups h u hu hpw
              have e2 := upH_in ups h u' hu' hpw
              rw [he] at e2
              rw [e1] at e2
              have he2 : u.2 = u'.2 := Option.some.inj e2
              rw [← he2, hul] at hl'
              cases hl'
            · exact hno u hu rfl
          exact hH.dist u.1 id' hou ho2 mbu mb' b hune q1 hho2 q2 q3 live2 h5 g1 h6 hb'
    · obtain ⟨ho1, hho1⟩ := Option.ne_none_iff_exists'.1 hne1
      obtain ⟨mbo, g1, g2⟩ := old id ho1 hho1
      rw [hm] at g2
      cases g2
      have rw1 : ho1.ro = false ∧ ho1.live = true := by
        rcases hold with ⟨u, hu, rfl, rfl⟩ | ⟨_, h5⟩
        · obtain ⟨hou, q1, q2, q3, _⟩ := hupd u hu
          rw [hho1] at q1
          cases q1
          exact ⟨q2, q3⟩
        · rw [hho1] at h5; cases h5; exact ⟨hro, hl⟩
      rcases kinds id' ho' hid' with ⟨k', rfl, hk'⟩ | ⟨hne2, hold'⟩
      · obtain ⟨mbn, h1, _, h3⟩ := hs.new k' ho' hk'
        rw [hm'] at h1
        cases h1
        intro hb'
        rcases (h3 b hb').2 with h4 | ⟨u, hu, hul, mbu, h5, h6⟩
        · obtain ⟨_, q1, _, q2, _⟩ := hH.obj id ho1 hho1
          rw [g1] at q1
          cases q1
          have := q2 rw1.2 b hb
          omega
        · obtain ⟨hou, q1, q2, q3, _⟩ := hupd u hu
          have hune : u.1 ≠ id := by
            rintro rfl
            rcases hold with ⟨u', hu', he, rfl⟩ | ⟨hno, _⟩
            · have e1 := upH_in ups h u hu hpw
              have e2 := upH_in ups h u' hu' hpw
              rw [he] at e2
              rw [e1] at e2
              have he2 : u.2 = u'.2 := Option.some.inj e2
              rw [← he2, hul] at hl
              cases hl
            · exact hno u hu rfl
          exact hH.dist u.1 id hou ho1 mbu mb b hune q1 hho1 q2 q3 rw1.2 h5 g1 h6 hb
      · obtain ⟨ho2, hho2⟩ := Option.ne_none_iff_exists'.1 hne2
        obtain ⟨mbo', g1', g2'⟩ := old id' ho2 hho2
        rw [hm'] at g2'
        cases g2'
        have live2 : ho2.live = true := by
          rcases hold' with ⟨u, hu, rfl, rfl⟩ | ⟨_, h5⟩
          · obtain ⟨hou, q1, _, q3, _⟩ := hupd u hu
            rw [hho2] at q1
            cases q1
            exact q3
          · rw [hho2] at h5; cases h5; exact hl'
        exact hH.dist id id' ho1 ho2 mb mb' b hne hho1 hho2 rw1.1 rw1.2 live2 g1 g1' hb
  · intro id hid
    have hnr : ¬ (base ≤ id ∧ id < base + news.length) := by
      intro hc
      rw [newH_get, if_pos hc] at hid
      have : id - base < news.length := by omega
      simp [this] at hid
    rw [newH_get, if_neg hnr] at hid
    have hno : ∀ u ∈ ups, u.1 ≠ id := by
      intro u hu e
      subst e
      rw [upH_in ups h u hu hpw] at hid
      cases hid
    rw [upH_other ups h id hno] at hid
    have hm := hH.dom id hid
    cases hm' : m' id with
    | none => rfl
    | some mb =>
      rcases hs.dom id mb hm' with h1 | h1
      · rw [hm] at h1; cases h1
      · exact absurd h1 hnr
  · intro b hb hW
    rw [hs.same b (Nat.lt_of_lt_of_le hb hH.size) fun u hu mbu hmu e => ?_]
    · exact hH.same0 b hb hW
    · obtain ⟨hou, q1, q2, q3, _⟩ := hupd u hu
      obtain ⟨mb, g1, _, _, g2⟩ := hH.obj u.1 hou q1
      rw [hmu] at g1
      cases g1
      rcases g2 q2 q3 b e with h1 | h1
      · omega
      · exact hW h1
end
end Go.Proofs.Yteekkjfjpoaihaa.Eng
namespace Go.Proofs.Yteekkjfjpoaihaa.Eng
open Go
section
variable {P : Program} {T : Tab} {cmp : Cmp} {r : Option Nat} {Γ : Cal → Option Spec}
/-- slots and objects, as functions, against the frame and the world -/
structure RelF (cmp : Cmp) (ctx : Ctx) (nt : Nat) (m : MM) (sl : Nat → Option Slot) (hp : Nat → Option HO) (df : List Nat) (a : Act) (w : World) : Prop where
  slot : ∀ t s, sl t = some s → SlotR m s (a.tmps.getD t undef)
  size : a.tmps.size = nt
  heap : HRel cmp ctx m hp w
  df : All2 (fun id d => ∃ mb b, m id = some mb ∧ mb.b = some b ∧ d = ({ target := .collected b, args := #[] } : Deferred)) df a.defers
def setF (sl : Nat → Option Slot) (d : Option Nat) (s : Slot) : Nat → Option Slot :=
  match d with
  | none => sl
  | some d => fun t => if t = d then some s else sl t
theorem setDst_get (sl : Sto Slot) (d : Option Nat) (s : Slot) : (setDst sl d s).get = setF sl.get d s := by
  cases d with
  | none => rfl
  | some d => funext t; simp [setDst, setF, Sto.get_set]
theorem setAll_get : ∀ (l : List (Nat × HO)) (h : Sto HO), (h.setAll l).get = upH h.get l
  | [], h => rfl
  | (i, x) :: l, h => by
    simp only [Sto.setAll_cons, upH]
    rw [setAll_get l]
    congr 1
    funext j
    rw [Sto.get_set]
theorem setNews_get : ∀ (l : List HO) (h : Sto HO) (b : Nat), (h.setNews b l).get = newH h.get b l
  | [], h, b => rfl
  | o :: l, h, b => by
    simp only [Sto.setNews_cons, newH]
    funext j
    rw [Sto.get_set, setNews_get l h (b + 1)]
theorem cV_snd {v : Value} {av : AV} (h : cV v = some av) (m : MM) : AR m av v := by
  unfold cV at h
  split at h <;> first
    | (cases h; done)
    | (simp only [Option.some.injEq] at h; subst h; rfl)
theorem need_opc {sl : Nat → Option Slot} {x : XI} (h : opc sl x = true) : ∀ xo ∈ need (fun y => (evalX sl y).v) x, (evalX sl xo).c = true := by
  intro xo hm
  cases x
  case pick c a b =>
    simp only [opc, Bool.and_eq_true] at h
    simp only [need, List.mem_cons] at hm
    rcases hm with rfl | hm
    · exact h.1
    · split at hm
      · rename_i t ht
        have h2 := h.2
        rw [ht] at h2
        cases t
        · simp at hm h2; subst hm; exact h2
        · simp at hm h2; subst hm; exact h2
      · cases hm
  all_goals (simp only [opc, allX_eq] at h; exact List.all_eq_true.1 h xo hm)
theorem ops_TR {ctx : Ctx} {nt : Nat} {m : MM} {sl : Nat → Option Slot} {hp : Nat → Option HO} {df : List Nat} {a : Act} {w : World} (hR : RelF cmp ctx nt m sl hp df a w) {x : XI} (h : opc sl x = true) :
    ∀ y xo, cO y = some xo → xo ∈ need (fun y => (evalX sl y).v) x → TR m ((fun y => (evalX sl y).v) xo) (a.eval y) := by
  intro y xo hy hm
  have hc := need_opc h xo hm
  cases y with
  | tmp t =>
    simp only [cO, Option.some.injEq] at hy
    subst hy
    simp only [evalX] at hc ⊢
    cases hs : sl t with
    | none => simp only [Option.getD_none]; trivial
    | some s =>
      rw [hs] at hc
      simp only [Option.getD_some] at hc ⊢
      exact (hR.slot t s hs).1 hc
  | const v =>
    simp only [cO, Option.map_eq_some_iff] at hy
    obtain ⟨av, h1, rfl⟩ := hy
    exact cV_snd h1 m
  | func f =>
    simp only [cO, Option.some.injEq] at hy
    subst hy
    exact ⟨[], rfl, trivial⟩
  | global g => simp [cO] at hy
/-- what an operation leaves in its slot -/
theorem RelF.put {ctx : Ctx} {nt : Nat} {m m' : MM} {sl : Nat → Option Slot} {hp hp' : Nat → Option HO} {df : List Nat} {a : Act} {w w' : World} (hR : RelF cmp ctx nt m sl hp df a w) (hm : m.le m') (hh : HRel cmp ctx m' hp' w') {d : Option Nat} {s : Slot} {v : Value}
    (hd : ∀ t, d = some t → t < nt) (hv : SlotR m' s v) : RelF cmp ctx nt m' (setF sl d s) hp' df (a.put d v) w' where
  slot := fun t q hq => by
    cases d with
    | none => exact (hR.slot t q hq).le hm
    | some d =>
      simp only [setF] at hq
      simp only [Act.put]
      split at hq
      · rename_i e
        subst e
        cases hq
        have : t < a.tmps.size := by rw [hR.size]; exact hd t rfl
        simpa [this] using hv
      · rename_i e
        have := (hR.slot t q hq).le hm
        simp only [Array.getD_eq_getD_getElem?] at this ⊢
        rwa [Array.getElem?_setIfInBounds_ne (fun e' => e e'.symm)]
  size := by
    cases d with
    | none => exact hR.size
    | some d => simpa [Act.put] using hR.size
  heap := hh
  df := by
    have := hR.df.mono (R' := fun id d => ∃ mb b, m' id = some mb ∧ mb.b = some b ∧ d = ({ target := .collected b, args := #[] } : Deferred)) fun _ _ ⟨mb, b, h1, h2⟩ => ⟨mb, b, hm _ _ h1, h2⟩
    cases d <;> exact this
/-- the guard of an operation, as the state and as the model see it -/
def guardOf (ops : List Oper) (o : Oper) : Option (Option (Nat × Bool)) :=
  match o.guard with
  | none => some none
  | some (j, want) => ((ops[j]?).bind (·.dst)).map fun t => some (t, want)
theorem guard_snd {ctx : Ctx} {nt : Nat} {m : MM} {sl : Nat → Option Slot} {hp : Nat → Option HO} {df : List Nat} {a : Act} {w : World} (hR : RelF cmp ctx nt m sl hp df a w) {ops : List Oper} {o : Oper} {g : Option (Nat × Bool)} {c : Bool}
    (hg : guardOf ops o = some g) (hc : guardC sl g = some c) : Region.wanted o (yielded ops.toArray a.tmps) = c := by
  unfold guardOf at hg
  unfold Region.wanted
  split at hg
  · rename_i hgo
    cases hg
    simp only [guardC, Option.some.injEq] at hc
    simp [hgo, hc]
  · rename_i j want hgo
    rw [hgo]
    cases hd : (ops[j]?).bind (·.dst) with
    | none => simp [hd] at hg
    | some t =>
      simp [hd] at hg
      subst hg
      simp only [guardC] at hc
      have hy : ∀ v, a.tmps.getD t undef = v → yielded ops.toArray a.tmps j = (match v with | .bool b => some b | _ => none) := by
        intro v hv
        unfold yielded
        simp only [List.getElem?_toArray, hd, Option.bind_some]
        cases hts : a.tmps[t]? with
        | none =>
          rw [Array.getD_eq_getD_getElem?, hts] at hv
          subst hv
          rfl
        | some u =>
          rw [Array.getD_eq_getD_getElem?, hts] at hv
          simp at hv
          subst hv
          cases u <;> rfl
      cases hs : sl t with
      | none => simp [hs] at hc
      | some s =>
        have hsl := hR.slot t s hs
        rw [hs] at hc
        obtain ⟨sc, sv⟩ := s
        cases sc with
        | false =>
          have := hy _ (hsl.2 rfl)
          simp only [undef] at this
          simp only [this]
          have hc' : c = false := by
            split at hc
            · rename_i heq; cases heq; simpa using hc.symm
            · simpa using hc.symm
            · cases hc
          rw [hc']
          rfl
        | true =>
          split at hc
          · rename_i b heq
            cases heq
            have hv : a.tmps.getD t undef = .bool _ := hsl.1 rfl
            have := hy _ hv
            simp only [this]
            simp only [Bool.true_and, Option.some.injEq] at hc
            rw [← hc]
            rfl
          · rename_i heq; cases heq
          · cases hc
/-- one operation of a region, its guard seen to -/
theorem op_snd {ctx : Ctx} {nt : Nat} {m : MM} {sl : Nat → Option Slot} {hp : Nat → Option HO} {df : List Nat} {a : Act} {w : World} {ops : List Oper} {o : Oper} {x : XOp} {b0 : Nat} {vc : Bool} {f : Ef}
    {K : Act → World → Prop} {Q : Exit → Act → World → Prop} (hsnd : Snd P cmp r Γ o x.x) (hx : xopF Γ b0 x sl hp = some (vc, f)) (hvc : vc = true) (hR : RelF cmp ctx nt m sl hp df a w) (hdst : x.dst = o.dst) (hnt : ∀ t, x.dst = some t → t < nt) (hg : guardOf ops o = some x.g)
    (hK : ∀ a' w' m', m.le m' → RelF cmp ctx nt m' (setF sl x.dst f.s) (newH (upH hp f.upd) f.base f.news) df a' w' → K a' w') :
    if Region.wanted o (yielded ops.toArray a.tmps) then o.wpIn (FR r) 0 P a w K Q else (∀ f, o.about P w a.eval = some f → (FR r).fn f) ∧ K (a.put o.dst undef) w := by
  unfold xopF at hx
  cases hc : guardC sl x.g with
  | none => simp [hc] at hx
  | some c =>
    rw [guard_snd hR hg hc]
    simp only [hc] at hx
    have skip : ∀ v, f.s = ⟨false, v⟩ → f.upd = [] → f.news = [] → K (a.put o.dst undef) w := by
      intro v hs hu hn
      refine hK _ _ m m.le_refl ?_
      rw [hs, hu, hn, ← hdst]
      exact hR.put m.le_refl hR.heap hnt ⟨fun h => (by cases h), fun _ => rfl⟩
    cases hxi : xi Γ x.x (fun y => (evalX sl y).v) hp (b0 + x.off) with
    | none =>
      simp only [hxi] at hx
      cases c with
      | true => cases hx
      | false =>
        simp only [Option.some.injEq, Prod.mk.injEq] at hx
        obtain ⟨_, rfl⟩ := hx
        simp only [Bool.false_eq_true, if_false]
        exact ⟨fun _ _ => trivial, skip _ rfl rfl rfl⟩
    | some e =>
      simp only [hxi] at hx
      obtain ⟨evc, eval, eupd, enews, erd⟩ := e
      cases c with
      | false =>
        simp only [Bool.false_eq_true, if_false]
        refine ⟨fun _ _ => trivial, ?_⟩
        split at hx
        all_goals
          simp only [Option.some.injEq, Prod.mk.injEq] at hx
          obtain ⟨_, rfl⟩ := hx
          exact skip _ rfl rfl rfl
      | true =>
        simp only [if_true]
        split at hx
        · rename_i h1 h2
          simp only at h1 h2
          subst h1 h2
          simp only [Bool.not_true, Bool.false_or, Option.some.injEq, Prod.mk.injEq] at hx
          obtain ⟨rfl, rfl⟩ := hx
          simp only [Bool.and_eq_true] at hvc
          refine hsnd ctx m hp w a _ (b0 + x.off) _ K Q (ops_TR hR hvc.1) hR.heap (fun k hk => by simp at hk) rfl hxi hvc.2 fun v w' m' hv hs => ?_
          refine hK _ _ m' hs.ext ?_
          rw [← hdst]
          exact hR.put hs.ext (HRel.step hR.heap hs rfl rfl) hnt ⟨fun _ => hv, fun h => (by cases h)⟩
        · simp only [Option.some.injEq, Prod.mk.injEq] at hx
          obtain ⟨rfl, rfl⟩ := hx
          simp only [Bool.and_eq_true] at hvc
          have hnw := newsOk_spec hvc.2
          refine hsnd ctx m hp w a _ (b0 + x.off) _ K Q (ops_TR hR hvc.1.1.1) hR.heap (fun k hk => (hnw k enews[k] (by simp [hk])).1) hvc.1.2 hxi hvc.1.1.2 fun v w' m' hv hs => ?_
          refine hK _ _ m' hs.ext ?_
          rw [← hdst]
          exact hR.put hs.ext (HRel.step hR.heap hs hvc.1.2 hvc.2) hnt ⟨fun _ => hv, fun h => (by cases h)⟩
/-- what the compile of a region's operations says -/
theorem compOps_spec {nt : Nat} {all : List Oper} : ∀ {l : List Oper} {off : Nat} {q : List XOp × Nat}, compOps T nt all l off = some q →
    q.1.length = l.length ∧ ∀ (i : Nat) (o : Oper), l[i]? = some o → ∃ x : XOp, q.1[i]? = some x ∧ compOp T o = some x.x ∧ x.dst = o.dst ∧ guardOf all o = some x.g ∧ (∀ t, x.dst = some t → t < nt)
  | [], off, q, h => by simp [compOps] at h; subst h; simp
  | o :: l, off, q, h => by
    simp only [compOps, Option.bind_eq_some_iff] at h
    obtain ⟨x, h1, g, h2, h⟩ := h
    by_cases hd : dstOk nt o.dst = true
    case neg => rw [if_neg hd] at h; cases h
    rw [if_pos hd] at h
    obtain ⟨q', h3, rfl⟩ := Option.map_eq_some_iff.1 h
    obtain ⟨h4, h5⟩ := compOps_spec h3
    refine ⟨by simp [h4], fun i o' hi => ?_⟩
    cases i with
    | zero =>
      simp at hi
      subst hi
      refine ⟨_, rfl, h1, rfl, h2, fun t ht => ?_⟩
      simp only at ht
      rw [ht] at hd
      simpa [dstOk] using hd
    | succ i => exact h5 i o' (by simpa using hi)
end
end Go.Proofs.Yteekkjfjpoaihaa.Eng
namespace Go.Proofs.Yteekkjfjpoaihaa.Eng
open Go
def Fp (e : Eff) (h h' : Nat → Option HO) : Prop := match e.rd with
  | none => h' = h
  | some l => ∀ id ∈ l, h' id = h id
/-- a specification hangs on what it says it looks at -/
def SpecFp (sp : Spec) : Prop := ∀ args h h' base e, sp.run args h base = some e → Fp e h h' → sp.run args h' base = some e
def GamFp (Γ : Cal → Option Spec) : Prop := ∀ c sp, Γ c = some sp → SpecFp sp
theorem xi_ev {Γ : Cal → Option Spec} {x : XI} {ev ev' : XO → TV} (h : Nat → Option HO) (base : Nat) (he : ∀ y ∈ x.opnds, ev y = ev' y) : xi Γ x ev h base = xi Γ x ev' h base := by
  have mp : ∀ {β : Type} (l : List (β × XO)), (∀ y ∈ l.map (·.2), ev y = ev' y) → l.map (fun p => (p.1, ev p.2)) = l.map (fun p => (p.1, ev' p.2)) := fun l hl =>
    List.map_congr_left fun p hp => by rw [hl p.2 (List.mem_map_of_mem hp)]
  have ml : ∀ (l : List XO), (∀ y ∈ l, ev y = ev' y) → l.map ev = l.map ev' := fun l hl => List.map_congr_left hl
  have mo : ∀ (o : Option XO), (∀ y ∈ o.toList, ev y = ev' y) → o.map ev = o.map ev' := fun o ho => by cases o <;> simp_all
  cases x
  case bld z ps => simp only [xi, mp ps he]
  case bsl a b c d ps => simp only [xi, mp ps he]
  case bslB b c d ps => simp only [xi, mp ps he]
  case slc n x lo hi =>
    simp only [XI.opnds] at he
    simp only [xi, he x (by simp), mo lo fun y hy => he y (by simp [List.mem_append.2 (.inl hy)]), mo hi fun y hy => he y (by simp [List.mem_append.2 (.inr hy)])]
  case slcA n k x lo hi =>
    simp only [XI.opnds] at he
    simp only [xi, he x (by simp)]
  case mkf f l => simp only [xi, ml l he]
  case mn l => simp only [xi, ml l he]
  case mx l => simp only [xi, ml l he]
  case call f l => simp only [xi, he f (by simp [XI.opnds]), ml l fun y hy => he y (by simp [XI.opnds, hy])]
  case alloc => rfl
  case mmk => rfl
  case bad => rfl
  case mupd kk vk m k v => simp only [xi, he m (by simp [XI.opnds]), he k (by simp [XI.opnds]), he v (by simp [XI.opnds])]
  case pick a b c => simp only [xi, he a (by simp [XI.opnds]), he b (by simp [XI.opnds]), he c (by simp [XI.opnds])]
  case st lk a b => simp only [xi, he a (by simp [XI.opnds]), he b (by simp [XI.opnds])]
  case bin lk a b => simp only [xi, he a (by simp [XI.opnds]), he b (by simp [XI.opnds])]
  case eqv k ng a b => simp only [xi, he a (by simp [XI.opnds]), he b (by simp [XI.opnds])]
  case iad k ng a b => simp only [xi, he a (by simp [XI.opnds]), he b (by simp [XI.opnds])]
  case iadS ng a b => simp only [xi, he a (by simp [XI.opnds]), he b (by simp [XI.opnds])]
  case idx n sz lk a b => simp only [xi, he a (by simp [XI.opnds]), he b (by simp [XI.opnds])]
  case lkup kk vk ok a b => simp only [xi, he a (by simp [XI.opnds]), he b (by simp [XI.opnds])]
  case app ty k sz a b => simp only [xi, he a (by simp [XI.opnds]), he b (by simp [XI.opnds])]
  case extr y i => simp only [xi, he y (by simp [XI.opnds])]
  all_goals (rename_i y; simp only [xi, he y (by simp [XI.opnds])])
theorem srcOf_fp {tv : TV} {h h' : Nat → Option HO} {k : IntKind} {sz : Nat} {q : Bool × List Int × Nat × List Nat} (hq : srcOf tv h k sz = some q) (hf : ∀ id ∈ q.2.2.2, h' id = h id) : srcOf tv h' k sz = some q := by
  unfold srcOf at hq
  split at hq
  · exact hq
  · rename_i id off sz1 len
    split at hq
    case isFalse => cases hq
    rename_i hsz
    have key : h' id = h id := by
      split at hq
      · split at hq
        · cases hq; exact hf id (by simp)
        · cases hq
      · split at hq
        · cases hq; exact hf id (by simp)
        · cases hq
      · cases hq
    simp only [srcOf, if_pos hsz, key]
    exact hq
  · cases hq
theorem xi_fp {Γ : Cal → Option Spec} (hΓ : GamFp Γ) {x : XI} {ev : XO → TV} {h h' : Nat → Option HO} {base : Nat} {e : Eff} (hx : xi Γ x ev h base = some e) (hf : Fp e h h') : xi Γ x ev h' base = some e := by
  have hcall : ∀ {c : Cal} {vs : List AV}, callE Γ c vs h base = some e → callE Γ c vs h' base = some e := by
    intro c vs hc
    unfold callE at hc ⊢
    cases hg : Γ c with
    | none => simp [hg] at hc
    | some sp =>
      simp only [hg] at hc ⊢
      exact hΓ c sp hg _ _ _ _ _ hc hf
  cases x
  case ld lk a =>
    simp only [xi] at hx ⊢
    split at hx
    · rename_i id b o he
      have key : h' id = h id := by
        split at hx
        · obtain ⟨r, _, rfl⟩ := Option.map_eq_some_iff.1 hx
          exact hf id (by simp)
        · cases hx
      rw [key]
      exact hx
    · cases hx
  case st lk a v =>
    simp only [xi] at hx ⊢
    split at hx
    · rename_i id b o v he hv
      have key : h' id = h id := by
        split at hx
        · obtain ⟨r, _, rfl⟩ := Option.map_eq_some_iff.1 hx
          exact hf id (by simp)
        · cases hx
      rw [key]
      exact hx
    · cases hx
  case lkup kk vk ok m k =>
    simp only [xi] at hx ⊢
    split at hx
    · exact hx
    · rename_i id kv he hv
      have key : h' id = h id := by
        split at hx
        · split at hx
          · obtain ⟨r, _, rfl⟩ := Option.map_eq_some_iff.1 hx
            exact hf id (by simp)
          · cases hx
        · cases hx
      rw [key]
      exact hx
    · cases hx
  case mupd kk vk m k v =>
    simp only [xi] at hx ⊢
    split at hx
    · rename_i id kv vv he hv hvv
      have key : h' id = h id := by
        split at hx
        · split at hx
          · simp only [Option.bind_eq_some_iff, Option.map_eq_some_iff] at hx
            obtain ⟨_, _, _, _, rfl⟩ := hx
            exact hf id (by simp)
          · cases hx
        · cases hx
      rw [key]
      exact hx
    · cases hx
  case lenM a =>
    simp only [xi] at hx ⊢
    split at hx
    · exact hx
    · rename_i id he
      have key : h' id = h id := by
        split at hx
        · cases hx; exact hf id (by simp)
        · cases hx
      rw [key]
      exact hx
    · cases hx
  case app ty k sz s y =>
    simp only [xi] at hx ⊢
    split at hx
    · rename_i vc q m rd hs
      have h1 : srcOf (ev y) h' k sz = some (vc, q, m, rd) := by
        refine srcOf_fp hs fun id hid => ?_
        split at hx
        · cases hx; exact hf id hid
        · split at hx
          · split at hx
            · cases hx; exact hf id (by simp [show id ∈ rd from hid])
            · cases hx
          · cases hx
        · cases hx
      rw [h1]
      simp only
      split at hx
      · exact hx
      · rename_i id off sz' len he
        have key : h' id = h id := by
          split at hx
          · split at hx
            · cases hx; exact hf id (by simp)
            · cases hx
          · cases hx
        rw [key]
        exact hx
      · cases hx
    · cases hx
  case call f l =>
    simp only [xi] at hx ⊢
    split at hx
    · exact hcall hx
    · exact hcall hx
    · cases hx
  all_goals exact hx
theorem arith_pure {k : IntKind} {n : Int} {e : Eff} (h : arith k n = some e) : e.upd = [] ∧ e.news = [] ∧ e.rd = some [] := by
  unfold arith at h
  split at h <;> (simp only [pureE, Option.some.injEq] at h; subst h; exact ⟨rfl, rfl, rfl⟩)
theorem pureE_pure {b : Bool} {v : TV} {e : Eff} (h : pureE b v = some e) : e.upd = [] ∧ e.news = [] ∧ e.rd = some [] := by
  simp only [pureE, Option.some.injEq] at h; subst h; exact ⟨rfl, rfl, rfl⟩
theorem binI_pure {op : BinOp} {k : IntKind} {a b : Int} {e : Eff} (h : binI op k a b = some e) : e.upd = [] ∧ e.news = [] ∧ e.rd = some [] := by
  unfold binI at h
  split at h <;> first
    | exact arith_pure h
    | exact pureE_pure h
    | (split at h <;> exact pureE_pure h)
    | cases h
theorem shI_pure {op : BinOp} {k : IntKind} {a b : Int} {e : Eff} (h : shI op k a b = some e) : e.upd = [] ∧ e.news = [] ∧ e.rd = some [] := by
  unfold shI at h
  split at h <;> first
    | exact pureE_pure h
    | (split at h <;> exact pureE_pure h)
    | cases h
theorem xi_cls0 {Γ : Cal → Option Spec} {x : XI} {ev : XO → TV} {h : Nat → Option HO} {base : Nat} {e : Eff} (hx : xi Γ x ev h base = some e) (hc : opClass x = 0) : e.upd = [] ∧ e.news = [] ∧ e.rd = some [] := by
  cases x <;> simp only [opClass] at hc <;> try (cases hc; done)
  all_goals simp only [xi] at hx
  case bin op a b =>
    split at hx
    · split at hx
      · exact shI_pure hx
      · exact shI_pure hx
      · split at hx
        · exact binI_pure hx
        · cases hx
    · cases hx
  case eqv k n a b =>
    obtain ⟨r, _, h2⟩ := Option.bind_eq_some_iff.1 hx
    exact pureE_pure h2
  case bld z ps =>
    obtain ⟨r, _, h2⟩ := Option.bind_eq_some_iff.1 hx
    exact pureE_pure h2
  case mkf f l =>
    obtain ⟨r, _, h2⟩ := Option.bind_eq_some_iff.1 hx
    exact pureE_pure h2
  case fld o lk y =>
    split at hx
    · obtain ⟨r, _, h2⟩ := Option.bind_eq_some_iff.1 hx
      exact pureE_pure h2
    · cases hx
  case idx n sz lk y i =>
    split at hx
    · obtain ⟨r, _, h2⟩ := Option.bind_eq_some_iff.1 hx
      exact pureE_pure h2
    · cases hx
  all_goals repeat' (first | exact pureE_pure hx | exact arith_pure hx | (cases hx; done) | split at hx)
theorem xi_cls1 {Γ : Cal → Option Spec} {x : XI} {ev : XO → TV} {h : Nat → Option HO} {base : Nat} {e : Eff} (hx : xi Γ x ev h base = some e) (hc : opClass x = 1) : e.upd = [] ∧ e.news = [] := by
  cases x <;> simp only [opClass] at hc <;> try (cases hc; done)
  all_goals simp only [xi] at hx
  case ld lk a =>
    split at hx
    · split at hx
      · obtain ⟨r, _, rfl⟩ := Option.map_eq_some_iff.1 hx; exact ⟨rfl, rfl⟩
      · cases hx
    · cases hx
  case lkup kk vk ok m k =>
    split at hx
    · obtain ⟨r, _, h2⟩ := Option.bind_eq_some_iff.1 hx
      exact ⟨(pureE_pure h2).1, (pureE_pure h2).2.1⟩
    · split at hx
      · split at hx
        · obtain ⟨r, _, rfl⟩ := Option.map_eq_some_iff.1 hx; exact ⟨rfl, rfl⟩
        · cases hx
      · cases hx
    · cases hx
  case lenM a =>
    split at hx
    · exact ⟨(pureE_pure hx).1, (pureE_pure hx).2.1⟩
    · split at hx
      · cases hx; exact ⟨rfl, rfl⟩
      · cases hx
    · cases hx
def Ef.inFp (e : Ef) (id : Nat) : Prop := match e.rd with
  | none => True
  | some l => id ∈ l ∨ id ∈ e.tch
theorem updOk_congr {h h' : Nat → Option HO} : ∀ {l : List (Nat × HO)}, (∀ u ∈ l, h' u.1 = h u.1) → updOk h l = true → updOk h' l = true
  | [], _, _ => rfl
  | [u], hc, hl => by simpa only [updOk, hc u (by simp)] using hl
  | u :: v :: r, hc, hl => by
    simp only [updOk, hc u (by simp), Bool.and_eq_true] at hl ⊢
    exact ⟨hl.1, updOk_congr (fun x hx => hc x (by simp [hx])) hl.2⟩
theorem newsOk_congr {h h' : Nat → Option HO} : ∀ {l : List HO} {b : Nat}, (∀ id ∈ List.range' b l.length, h' id = h id) → newsOk h b l = true → newsOk h' b l = true
  | [], _, _, _ => rfl
  | o :: r, b, hc, hl => by
    simp only [newsOk, hc b (by simp [List.range'_succ]), Bool.and_eq_true] at hl ⊢
    exact ⟨hl.1, newsOk_congr (fun x hx => hc x (by simp only [List.length_cons, List.range'_succ, List.mem_cons]; exact .inr hx)) hl.2⟩
theorem evalX_congr {x : XI} {g : Option (Nat × Bool)} {d : Option Nat} {off : Nat} {sl sl' : Nat → Option Slot} (h : ∀ t ∈ (XOp.mk d g x off).looks, sl' t = sl t) : ∀ y ∈ x.opnds, evalX sl y = evalX sl' y := by
  intro y hy
  cases y with
  | c v => rfl
  | t n =>
    have : n ∈ (XOp.mk d g x off).looks := by
      unfold XOp.looks
      exact List.mem_append.2 (.inr (List.mem_filterMap.2 ⟨.t n, hy, rfl⟩))
    simp only [evalX, h n this]
theorem opc_congr {x : XI} {sl sl' : Nat → Option Slot} (h : ∀ y ∈ x.opnds, evalX sl y = evalX sl' y) : opc sl x = opc sl' x := by
  cases x
  case pick a b c => simp only [opc, h a (by simp [XI.opnds]), h b (by simp [XI.opnds]), h c (by simp [XI.opnds])]
  all_goals
    simp only [opc, allX_eq]
    rw [Bool.eq_iff_iff, List.all_eq_true, List.all_eq_true]
    constructor
    · intro hh y hy
      rw [← h y hy]; exact hh y hy
    · intro hh y hy
      rw [h y hy]; exact hh y hy
theorem xopF_congr {Γ : Cal → Option Spec} (hΓ : GamFp Γ) {b0 : Nat} {x : XOp} {sl sl' : Nat → Option Slot} {hp hp' : Nat → Option HO} {v : Bool} {e : Ef} (hx : xopF Γ b0 x sl hp = some (v, e)) (hv : v = true)
    (hs : ∀ t ∈ x.looks, sl' t = sl t) (hh : ∀ id, e.inFp id → hp' id = hp id) :
    ∃ e', xopF Γ b0 x sl' hp' = some (true, e') ∧ e'.upd = e.upd ∧ e'.news = e.news ∧ e'.base = e.base ∧ (e'.s = e.s ∨ (e'.s.c = false ∧ e.s.c = false)) := by
  obtain ⟨d, g, y, off⟩ := x
  have hev := evalX_congr (d := d) (g := g) (off := off) hs
  have hgd : guardC sl' g = guardC sl g := by
    cases g with
    | none => rfl
    | some q => simp only [guardC, hs q.1 (by simp [XOp.looks])]
  have hxe : ∀ h b, xi Γ y (fun z => (evalX sl' z).v) h b = xi Γ y (fun z => (evalX sl z).v) h b := fun h b => xi_ev h b fun z hz => by rw [hev z hz]
  unfold xopF at hx ⊢
  simp only [hgd, hxe] at hx ⊢
  cases hc : guardC sl g with
  | none => simp [hc] at hx
  | some c =>
    simp only [hc] at hx ⊢
    cases c with
    | false =>
      have hE : e.upd = [] ∧ e.news = [] ∧ e.base = b0 + off ∧ e.s.c = false := by
        split at hx
        · split at hx
          · simp only [Option.some.injEq, Prod.mk.injEq] at hx; obtain ⟨_, rfl⟩ := hx; exact ⟨rfl, rfl, rfl, rfl⟩
          · simp only [Option.some.injEq, Prod.mk.injEq] at hx; obtain ⟨_, rfl⟩ := hx; exact ⟨rfl, rfl, rfl, rfl⟩
        · simp only [Option.some.injEq, Prod.mk.injEq] at hx; obtain ⟨_, rfl⟩ := hx; exact ⟨rfl, rfl, rfl, rfl⟩
      obtain ⟨h1, h2, h3, h4⟩ := hE
      rw [h1, h2, h3, h4]
      split
      · split
        · exact ⟨_, rfl, rfl, rfl, rfl, .inr ⟨rfl, rfl⟩⟩
        · exact ⟨_, rfl, rfl, rfl, rfl, .inr ⟨rfl, rfl⟩⟩
      · exact ⟨_, rfl, rfl, rfl, rfl, .inr ⟨rfl, rfl⟩⟩
    | true =>
      cases hxi : xi Γ y (fun z => (evalX sl z).v) hp (b0 + off) with
      | none => simp [hxi] at hx
      | some q =>
        simp only [hxi] at hx
        have hfp : e.rd = q.rd := by
          split at hx
          · simp only [Option.some.injEq, Prod.mk.injEq] at hx; obtain ⟨_, rfl⟩ := hx; rfl
          · simp only [Option.some.injEq, Prod.mk.injEq] at hx; obtain ⟨_, rfl⟩ := hx; rfl
        have hF : Fp q hp hp' := by
          unfold Fp
          unfold Ef.inFp at hh
          rw [hfp] at hh
          cases hr : q.rd with
          | none => rw [hr] at hh; funext id; exact hh id trivial
          | some l => rw [hr] at hh; exact fun id hid => hh id (.inl hid)
        rw [xi_fp hΓ hxi hF]
        simp only
        have htch : ∀ id ∈ e.tch, hp' id = hp id := fun id hid => hh id (by unfold Ef.inFp; split; trivial; exact .inr hid)
        obtain ⟨qvc, qval, qupd, qnews, qrd⟩ := q
        have ho := opc_congr hev
        cases qupd with
        | nil =>
          cases qnews with
          | nil =>
            simp only [Option.some.injEq, Prod.mk.injEq] at hx
            obtain ⟨h1, rfl⟩ := hx
            refine ⟨_, ?_, rfl, rfl, rfl, .inl rfl⟩
            rw [ho, hv] at h1
            rw [h1]
          | cons n ns =>
            simp only [Option.some.injEq, Prod.mk.injEq] at hx
            obtain ⟨h1, rfl⟩ := hx
            refine ⟨_, ?_, rfl, rfl, rfl, .inl rfl⟩
            rw [ho, hv] at h1
            simp only [Bool.and_eq_true] at h1
            simp only [h1.1.1.1, h1.1.1.2, Bool.true_and]
            rw [newsOk_congr (fun id hid => htch id (by unfold Ef.tch; simp only [List.map_nil, List.nil_append]; exact hid)) h1.2]
            rfl
        | cons u us =>
          simp only [Option.some.injEq, Prod.mk.injEq] at hx
          obtain ⟨h1, rfl⟩ := hx
          refine ⟨_, ?_, rfl, rfl, rfl, .inl rfl⟩
          rw [ho, hv] at h1
          simp only [Bool.and_eq_true] at h1
          simp only [h1.1.1.1, h1.1.1.2, Bool.true_and]
          rw [newsOk_congr (fun id hid => htch id (by unfold Ef.tch; exact List.mem_append.2 (.inr hid))) h1.2, updOk_congr (fun v hvm => htch _ (by unfold Ef.tch; exact List.mem_append.2 (.inl (List.mem_map_of_mem hvm)))) h1.1.2]
          rfl
theorem xopF_cls0 {Γ : Cal → Option Spec} {b0 : Nat} {x : XOp} {sl : Nat → Option Slot} {hp : Nat → Option HO} {v : Bool} {e : Ef} (hx : xopF Γ b0 x sl hp = some (v, e)) (hc : opClass x.x = 0) : e.tch = [] ∧ e.rd = some [] := by
  unfold xopF at hx
  split at hx
  · cases hx
  · rename_i c _
    split at hx
    · rename_i q hq
      obtain ⟨h1, h2, h3⟩ := xi_cls0 hq hc
      rw [h1, h2, h3] at hx
      simp only [Option.some.injEq, Prod.mk.injEq] at hx
      obtain ⟨_, rfl⟩ := hx
      exact ⟨rfl, by cases c <;> rfl⟩
    · split at hx
      · simp only [Option.some.injEq, Prod.mk.injEq] at hx
        obtain ⟨_, rfl⟩ := hx
        exact ⟨rfl, rfl⟩
      · cases hx
theorem xopF_cls1 {Γ : Cal → Option Spec} {b0 : Nat} {x : XOp} {sl : Nat → Option Slot} {hp : Nat → Option HO} {v : Bool} {e : Ef} (hx : xopF Γ b0 x sl hp = some (v, e)) (hc : opClass x.x = 1) : e.tch = [] := by
  unfold xopF at hx
  split at hx
  · cases hx
  · rename_i c _
    split at hx
    · rename_i q hq
      obtain ⟨h1, h2⟩ := xi_cls1 hq hc
      rw [h1, h2] at hx
      simp only [Option.some.injEq, Prod.mk.injEq] at hx
      obtain ⟨_, rfl⟩ := hx
      rfl
    · split at hx
      · simp only [Option.some.injEq, Prod.mk.injEq] at hx
        obtain ⟨_, rfl⟩ := hx
        rfl
      · cases hx
theorem xopF_dst {Γ : Cal → Option Spec} {b0 : Nat} {x : XOp} {sl : Nat → Option Slot} {hp : Nat → Option HO} {v : Bool} {e : Ef} (hx : xopF Γ b0 x sl hp = some (v, e)) : e.dst = x.dst := by
  unfold xopF at hx
  split at hx
  · cases hx
  · rename_i c _
    split at hx
    · split at hx
      · simp only [Option.some.injEq, Prod.mk.injEq] at hx; obtain ⟨_, rfl⟩ := hx; rfl
      · split at hx
        · simp only [Option.some.injEq, Prod.mk.injEq] at hx; obtain ⟨_, rfl⟩ := hx; rfl
        · simp only [Option.some.injEq, Prod.mk.injEq] at hx; obtain ⟨_, rfl⟩ := hx; rfl
    · split at hx
      · simp only [Option.some.injEq, Prod.mk.injEq] at hx; obtain ⟨_, rfl⟩ := hx; rfl
      · cases hx
def apS : (Nat → Bool) → List Ef → (Nat → Option Slot) → Nat → Option Slot
  | _, [], sl => sl
  | D, e :: r, sl => apS (fun k => D (k + 1)) r (if D 0 then setF sl e.dst e.s else sl)
def apH : (Nat → Bool) → List Ef → (Nat → Option HO) → Nat → Option HO
  | _, [], h => h
  | D, e :: r, h => apH (fun k => D (k + 1)) r (if D 0 then newH (upH h e.upd) e.base e.news else h)
theorem apS_none : ∀ (E : List Ef) (D : Nat → Bool) (sl : Nat → Option Slot), (∀ k, D k = false) → apS D E sl = sl
  | [], _, _, _ => rfl
  | e :: r, D, sl, h => by simp only [apS, h 0]; exact apS_none r _ sl fun k => h (k + 1)
theorem apH_none : ∀ (E : List Ef) (D : Nat → Bool) (h : Nat → Option HO), (∀ k, D k = false) → apH D E h = h
  | [], _, _, _ => rfl
  | e :: r, D, sl, h => by simp only [apH, h 0]; exact apH_none r _ sl fun k => h (k + 1)
theorem upH_pt (upd : List (Nat × HO)) (h h' : Nat → Option HO) (id : Nat) (hh : h id = h' id ∨ id ∈ upd.map (·.1)) : upH h upd id = upH h' upd id := by
  induction upd generalizing h h' with
  | nil => rcases hh with hh | hh; exact hh; simp at hh
  | cons u r ih =>
    simp only [upH]
    refine ih _ _ ?_
    by_cases he : id = u.1
    · left; simp [he]
    · simp only [he, if_false]
      rcases hh with hh | hh
      · exact .inl hh
      · simp only [List.map_cons, List.mem_cons] at hh
        exact .inr (hh.resolve_left he)
/-- what an effect says of an object hangs on what was there only if it does not touch it -/
theorem ov_pt (e : Ef) (h h' : Nat → Option HO) (id : Nat) (hh : h id = h' id ∨ id ∈ e.tch) : newH (upH h e.upd) e.base e.news id = newH (upH h' e.upd) e.base e.news id := by
  rw [newH_get, newH_get]
  split
  · rfl
  · rename_i hn
    refine upH_pt _ _ _ _ (hh.imp_right fun hm => ?_)
    unfold Ef.tch at hm
    rcases List.mem_append.1 hm with hm | hm
    · exact hm
    · rw [List.mem_range'_1] at hm; exact absurd hm hn
theorem ov_other (e : Ef) (h : Nat → Option HO) (id : Nat) (hn : id ∉ e.tch) : newH (upH h e.upd) e.base e.news id = h id := by
  rw [newH_get]
  unfold Ef.tch at hn
  rw [List.mem_append, not_or, List.mem_range'_1] at hn
  rw [if_neg hn.2]
  exact upH_other _ _ _ fun u hu he => hn.1 (he ▸ List.mem_map_of_mem hu)
theorem apH_congr : ∀ (E : List Ef) (D D' : Nat → Bool) (h h' : Nat → Option HO) (id : Nat), (∀ i e, E[i]? = some e → id ∈ e.tch → D i = D' i) → h id = h' id → apH D E h id = apH D' E h' id
  | [], _, _, _, _, _, _, hh => hh
  | e :: r, D, D', h, h', id, hD, hh => by
    simp only [apH]
    refine apH_congr r _ _ _ _ id (fun i e' hi => hD (i + 1) e' (by simpa using hi)) ?_
    by_cases hm : id ∈ e.tch
    · rw [hD 0 e rfl hm]
      split
      · exact ov_pt e _ _ _ (.inl hh)
      · exact hh
    · have h1 : (if D 0 = true then newH (upH h e.upd) e.base e.news else h) id = h id := by split; exact ov_other e h id hm; rfl
      have h2 : (if D' 0 = true then newH (upH h' e.upd) e.base e.news else h') id = h' id := by split; exact ov_other e h' id hm; rfl
      rw [h1, h2, hh]
theorem setF_pt (sl sl' : Nat → Option Slot) (d : Option Nat) (s : Slot) (t : Nat) (h : sl t = sl' t ∨ d = some t) : setF sl d s t = setF sl' d s t := by
  cases d with
  | none => rcases h with h | h; exact h; cases h
  | some d =>
    simp only [setF]
    split
    · rfl
    · rename_i hn
      rcases h with h | h
      · exact h
      · exact absurd (Option.some.inj h).symm hn
theorem setF_other (sl : Nat → Option Slot) (d : Option Nat) (s : Slot) (t : Nat) (h : d ≠ some t) : setF sl d s t = sl t := by
  cases d with
  | none => rfl
  | some d => simp only [setF]; rw [if_neg]; rintro rfl; exact h rfl
theorem apS_congr : ∀ (E : List Ef) (D D' : Nat → Bool) (h h' : Nat → Option Slot) (t : Nat), (∀ i e, E[i]? = some e → e.dst = some t → D i = D' i) → h t = h' t → apS D E h t = apS D' E h' t
  | [], _, _, _, _, _, _, hh => hh
  | e :: r, D, D', h, h', t, hD, hh => by
    simp only [apS]
    refine apS_congr r _ _ _ _ t (fun i e' hi => hD (i + 1) e' (by simpa using hi)) ?_
    by_cases hm : e.dst = some t
    · rw [hD 0 e rfl hm]
      split
      · exact setF_pt _ _ _ _ _ (.inl hh)
      · exact hh
    · have h1 : (if D 0 = true then setF h e.dst e.s else h) t = h t := by split; exact setF_other _ _ _ _ hm; rfl
      have h2 : (if D' 0 = true then setF h' e.dst e.s else h') t = h' t := by split; exact setF_other _ _ _ _ hm; rfl
      rw [h1, h2, hh]
theorem apH_add : ∀ (E : List Ef) (D : Nat → Bool) (h : Nat → Option HO) (i : Nat) (e : Ef), E[i]? = some e → D i = false → (∀ j e', i < j → E[j]? = some e' → D j = true → ∀ id ∈ e.tch, id ∉ e'.tch) →
    apH (fun k => k == i || D k) E h = newH (upH (apH D E h) e.upd) e.base e.news
  | [], _, _, _, _, h, _, _ => by simp at h
  | e0 :: r, D, h, 0, e, hi, hD, hj => by
    simp at hi
    subst hi
    simp only [apH, hD, beq_self_eq_true, Bool.true_or, if_true]
    have hf : (fun k => (k + 1 == 0 || D (k + 1))) = fun k => D (k + 1) := by funext k; simp
    rw [hf]
    funext id
    by_cases hm : id ∈ e0.tch
    · have h1 : apH (fun k => D (k + 1)) r (newH (upH h e0.upd) e0.base e0.news) id = apH (fun _ => false) r (newH (upH h e0.upd) e0.base e0.news) id := by
        refine apH_congr r _ _ _ _ id (fun k e' hk hme => ?_) rfl
        cases hDk : D (k + 1) with
        | false => rfl
        | true => exact absurd hme (hj (k + 1) e' (by omega) (by simpa using hk) hDk id hm)
      rw [h1, apH_none _ _ _ fun _ => rfl]
      exact ov_pt e0 _ _ _ (.inr hm)
    · rw [ov_other e0 _ id hm]
      refine apH_congr r _ _ _ _ id (fun _ _ _ _ => rfl) (ov_other e0 _ id hm)
  | e0 :: r, D, h, i + 1, e, hi, hD, hj => by
    simp only [apH]
    have hf : (fun k => (k + 1 == i + 1 || D (k + 1))) = fun k => (k == i || D (k + 1)) := by funext k; simp
    have h0 : ((0 == i + 1) || D 0) = D 0 := by simp
    rw [hf]; simp only [h0]
    exact apH_add r (fun k => D (k + 1)) _ i e (by simpa using hi) hD fun j e' hij hje hDj => hj (j + 1) e' (by omega) (by simpa using hje) hDj
theorem apS_add : ∀ (E : List Ef) (D : Nat → Bool) (h : Nat → Option Slot) (i : Nat) (e : Ef), E[i]? = some e → D i = false → (∀ j e', i < j → E[j]? = some e' → D j = true → ∀ t, e.dst = some t → e'.dst ≠ some t) →
    apS (fun k => k == i || D k) E h = setF (apS D E h) e.dst e.s
  | [], _, _, _, _, h, _, _ => by simp at h
  | e0 :: r, D, h, 0, e, hi, hD, hj => by
    simp at hi
    subst hi
    simp only [apS, hD, beq_self_eq_true, Bool.true_or, if_true]
    have hf : (fun k => (k + 1 == 0 || D (k + 1))) = fun k => D (k + 1) := by funext k; simp
    rw [hf]
    funext id
    by_cases hm : e0.dst = some id
    · have h1 : apS (fun k => D (k + 1)) r (setF h e0.dst e0.s) id = apS (fun _ => false) r (setF h e0.dst e0.s) id := by
        refine apS_congr r _ _ _ _ id (fun k e' hk hme => ?_) rfl
        cases hDk : D (k + 1) with
        | false => rfl
        | true => exact absurd hme (hj (k + 1) e' (by omega) (by simpa using hk) hDk id hm)
      rw [h1, apS_none _ _ _ fun _ => rfl]
      exact setF_pt _ _ _ _ _ (.inr hm)
    · rw [setF_other _ _ _ id hm]
      refine apS_congr r _ _ _ _ id (fun _ _ _ _ => rfl) (setF_other _ _ _ id hm)
  | e0 :: r, D, h, i + 1, e, hi, hD, hj => by
    simp only [apS]
    have hf : (fun k => (k + 1 == i + 1 || D (k + 1))) = fun k => (k == i || D (k + 1)) := by funext k; simp
    have h0 : ((0 == i + 1) || D 0) = D 0 := by simp
    rw [hf]; simp only [h0]
    exact apS_add r (fun k => D (k + 1)) _ i e (by simpa using hi) hD fun j e' hij hje hDj => hj (j + 1) e' (by omega) (by simpa using hje) hDj
end Go.Proofs.Yteekkjfjpoaihaa.Eng
namespace Go.Proofs.Yteekkjfjpoaihaa.Eng
open Go
section
variable {P : Program} {T : Tab} {cmp : Cmp} {r : Option Nat} {Γ : Cal → Option Spec}
/-- the state behind the run, as functions -/
theorem app_get (S : St) (e : Ef) : (S.app e).sl.get = setF S.sl.get e.dst e.s ∧ (S.app e).hp.get = newH (upH S.hp.get e.upd) e.base e.news := by
  simp only [St.app]
  exact ⟨setDst_get _ _ _, by rw [setNews_get, setAll_get]⟩
theorem xops_run {b0 : Nat} : ∀ {xs : List XOp} {S S' : St} {E : List Ef}, xops Γ b0 xs S = some (true, S', E) →
    E.length = xs.length ∧ (∀ i x, xs[i]? = some x → ∃ e, E[i]? = some e ∧ xopF Γ b0 x (apS (fun k => decide (k < i)) E S.sl.get) (apH (fun k => decide (k < i)) E S.hp.get) = some (true, e)) ∧
    S'.sl.get = apS (fun _ => true) E S.sl.get ∧ S'.hp.get = apH (fun _ => true) E S.hp.get ∧ S'.nx = S.nx ∧ S'.df = S.df
  | [], S, S', E, h => by
    simp only [xops_nil, Option.some.injEq, Prod.mk.injEq] at h
    obtain ⟨_, rfl, rfl⟩ := h
    exact ⟨rfl, fun i x hi => by simp at hi, rfl, rfl, rfl, rfl⟩
  | x :: xs, S, S', E, h => by
    simp only [xops_cons] at h
    split at h
    case h_2 => cases h
    rename_i v e hx
    split at h
    case h_2 => cases h
    rename_i v' S'' l hr
    simp only [Option.some.injEq, Prod.mk.injEq, Bool.and_eq_true] at h
    obtain ⟨⟨rfl, rfl⟩, rfl, rfl⟩ := h
    obtain ⟨h1, h2, h3, h4, h5, h6⟩ := xops_run hr
    obtain ⟨g1, g2⟩ := app_get S e
    rw [g1] at h2 h3
    rw [g2] at h2 h4
    refine ⟨by simp [h1], ?_, ?_, ?_, h5, h6⟩
    · intro i y hi
      cases i with
      | zero =>
        simp only [List.getElem?_cons_zero, Option.some.injEq] at hi
        subst hi
        refine ⟨e, rfl, ?_⟩
        rw [apS_none _ _ _ (fun k => by simp), apH_none _ _ _ (fun k => by simp)]
        exact hx
      | succ i =>
        obtain ⟨e', q1, q2⟩ := h2 i y (by simpa using hi)
        refine ⟨e', by simpa using q1, ?_⟩
        simp only [apS, apH]
        have hf : (fun k => decide (k + 1 < i + 1)) = fun k => decide (k < i) := by funext k; simp
        rw [hf]
        simpa using q2
    · rw [h3]; rfl
    · rw [h4]; rfl
/-- in the text's order -/
theorem reg_snd (hT : TOK P T) (hQ : EQOK P) (hG : GamOK P cmp Γ) (hB : ∀ f sp, Γ (.f f) = some sp → Bodied P f) {nt : Nat} {ops : List Oper} {b0 : Nat} {ctx : Ctx} {df : List Nat} {Q : Exit → Act → World → Prop} :
    ∀ {xs : List XOp} {k : Nat} {S S' : St} {E : List Ef} {m : MM} {a : Act} {w : World}, k + xs.length = ops.length →
    (∀ (i : Nat) (o : Oper), ops[k + i]? = some o → ∃ x : XOp, xs[i]? = some x ∧ compOp T o = some x.x ∧ x.dst = o.dst ∧ guardOf ops o = some x.g ∧ (∀ t, x.dst = some t → t < nt)) →
    xops Γ b0 xs S = some (true, S', E) → RelF cmp ctx nt m S.sl.get S.hp.get df a w →
    (∀ a' w' m', m.le m' → RelF cmp ctx nt m' S'.sl.get S'.hp.get df a' w' → Q .normal a' w') → wpOpsIn (FR r) 0 P ops.toArray Q (List.range' k xs.length) a w
  | [], k, S, S', E, m, a, w, hk, hs, hx, hR, hQ' => by
    simp only [xops_nil, Option.some.injEq, Prod.mk.injEq] at hx
    obtain ⟨_, rfl, rfl⟩ := hx
    exact hQ' a w m m.le_refl hR
  | x :: xs, k, S, S', E, m, a, w, hk, hs, hx, hR, hQ' => by
    have hlt : k < ops.length := by simp at hk; omega
    have hok : ops[k]? = some ops[k] := by simp [hlt]
    obtain ⟨x', h1, h2, h3, h4, h5⟩ := hs 0 ops[k] (by simpa using hok)
    simp only [List.getElem?_cons_zero, Option.some.injEq] at h1
    subst h1
    simp only [xops_cons] at hx
    split at hx
    case h_2 => cases hx
    rename_i v e hxe
    split at hx
    case h_2 => cases hx
    rename_i v' S'' l hr
    simp only [Option.some.injEq, Prod.mk.injEq, Bool.and_eq_true] at hx
    obtain ⟨⟨rfl, rfl⟩, rfl, rfl⟩ := hx
    simp only [List.length_cons, List.range'_succ, wpOpsIn]
    have : ops.toArray[k]? = some ops[k] := by simpa using hok
    rw [this]
    refine op_snd (comp_snd hT hQ hG hB h2) hxe rfl hR h3 h5 h4 fun a' w' m' hm hR' => ?_
    obtain ⟨g1, g2⟩ := app_get S e
    rw [xopF_dst hxe] at g1
    rw [← g1, ← g2] at hR'
    refine reg_snd hT hQ hG hB (by simp at hk ⊢; omega) (fun i o hi => ?_) hr hR' fun a'' w'' m'' hm' hR'' => hQ' a'' w'' m'' (MM.le_trans hm hm') hR''
    have := hs (i + 1) o (by rw [show k + (i + 1) = k + 1 + i by omega]; exact hi)
    simpa using this
theorem ancs_spec : ∀ (l : List Oper) (acc : List (List Nat)), acc.length ≤ (ancs l acc).length ∧ (∀ j, j < acc.length → (ancs l acc)[j]? = acc[j]?) ∧
    ∀ i o, l[i]? = some o → ∃ s, (ancs l acc)[acc.length + i]? = some s ∧ ∀ k ∈ s, ∃ e ∈ o.after.toList, bindsE e = true ∧ (k = e.on ∨ (e.on < acc.length + i ∧ k ∈ (ancs l acc).getD e.on []))
  | [], acc => ⟨Nat.le_refl _, fun _ _ => rfl, fun i o h => by simp at h⟩
  | o :: l, acc => by
    simp only [ancs]
    generalize hs : (o.after.toList.filter bindsE |>.map (·.on)).foldl (fun s j => if s.contains j then s else j :: (acc.getD j []).foldl (fun s k => if s.contains k then s else k :: s) s) [] = s
    obtain ⟨h1, h2, h3⟩ := ancs_spec l (acc ++ [s])
    have hl : (acc ++ [s]).length = acc.length + 1 := by simp
    refine ⟨by omega, fun j hj => ?_, fun i o' hi => ?_⟩
    · rw [h2 j (by omega), List.getElem?_append_left hj]
    · have old : ∀ j, j < acc.length → (ancs l (acc ++ [s])).getD j [] = acc.getD j [] := fun j hj => by
        rw [List.getD_eq_getElem?_getD, List.getD_eq_getElem?_getD, h2 j (by omega), List.getElem?_append_left hj]
      cases i with
      | zero =>
        simp only [List.getElem?_cons_zero, Option.some.injEq] at hi
        subst hi
        refine ⟨s, by rw [Nat.add_zero, h2 _ (by omega)]; simp, fun k hk => ?_⟩
        rw [← hs] at hk
        have inner : ∀ (q : List Nat) (s0 : List Nat) k, k ∈ q.foldl (fun s k => if s.contains k then s else k :: s) s0 → k ∈ s0 ∨ k ∈ q := by
          intro q
          induction q with
          | nil => intro s0 k hk; exact .inl hk
          | cons y q ih =>
            intro s0 k hk
            simp only [List.foldl_cons] at hk
            rcases ih _ k hk with h | h
            · split at h
              · exact .inl h
              · rcases List.mem_cons.1 h with rfl | h
                · exact .inr (by simp)
                · exact .inl h
            · exact .inr (by simp [h])
        have outer : ∀ (q : List Nat) (s0 : List Nat) k, k ∈ q.foldl (fun s j => if s.contains j then s else j :: (acc.getD j []).foldl (fun s k => if s.contains k then s else k :: s) s) s0 → k ∈ s0 ∨ ∃ j ∈ q, k = j ∨ k ∈ acc.getD j [] := by
          intro q
          induction q with
          | nil => intro s0 k hk; exact .inl hk
          | cons y q ih =>
            intro s0 k hk
            simp only [List.foldl_cons] at hk
            rcases ih _ k hk with h | ⟨j, hj, h⟩
            · split at h
              · exact .inl h
              · rcases List.mem_cons.1 h with rfl | h
                · exact .inr ⟨_, by simp, .inl rfl⟩
                · rcases inner _ _ k h with h | h
                  · exact .inl h
                  · exact .inr ⟨y, by simp, .inr h⟩
            · exact .inr ⟨j, by simp [hj], h⟩
        rcases outer _ _ k hk with h | ⟨j, hj, h⟩
        · cases h
        · obtain ⟨e, he, rfl⟩ := List.mem_map.1 hj
          rw [List.mem_filter] at he
          refine ⟨e, he.1, he.2, h.imp_right fun h => ?_⟩
          by_cases hlt : e.on < acc.length
          · exact ⟨by omega, by rw [old _ hlt]; exact h⟩
          · rw [List.getD_eq_getElem?_getD, List.getElem?_eq_none (by omega)] at h
            simp at h
      | succ i =>
        obtain ⟨s', g1, g2⟩ := h3 i o' (by simpa using hi)
        rw [hl] at g1 g2
        refine ⟨s', by rw [← g1]; congr 1; omega, fun k hk => ?_⟩
        obtain ⟨e, q1, q2, q3⟩ := g2 k hk
        exact ⟨e, q1, q2, q3.imp_right fun h => ⟨by omega, h.2⟩⟩
/-- done operations: what binds them is done too -/
def Closed (ops : List Oper) (D : Nat → Bool) : Prop := ∀ j o, ops[j]? = some o → D j = true → ∀ e ∈ o.after.toList, bindsE e = true → D e.on = true
theorem anc_in {ops : List Oper} {D : Nat → Bool} (hD : Closed ops D) : ∀ (j : Nat) (o : Oper), ops[j]? = some o → (∀ e ∈ o.after.toList, bindsE e = true → D e.on = true) → ∀ k ∈ (ancs ops []).getD j [], D k = true := by
  intro j
  induction j using Nat.strongRecOn with
  | _ j ih =>
    intro o ho he k hk
    obtain ⟨s, h1, h2⟩ := (ancs_spec ops []).2.2 j o ho
    simp only [List.length_nil, Nat.zero_add] at h1 h2
    rw [List.getD_eq_getElem?_getD, h1] at hk
    obtain ⟨e, q1, q2, rfl | ⟨q3, q4⟩⟩ := h2 k hk
    · exact he e q1 q2
    · have hlt : e.on < ops.length := Nat.lt_trans q3 (List.getElem?_eq_some_iff.1 ho).1
      have hoe : ops[e.on]? = some ops[e.on] := by simp [hlt]
      exact ih e.on q3 _ hoe (hD e.on _ hoe (he e q1 q2)) k q4
theorem anc_lt {ops : List Oper} (hf : fwdOk ops = true) (j : Nat) (o : Oper) (ho : ops[j]? = some o) : ∀ k ∈ (ancs ops []).getD j [], k < j := by
  have fwd : ∀ (i : Nat) (o : Oper), ops[i]? = some o → ∀ e ∈ o.after.toList, bindsE e = true → e.on < i := by
    intro i o hi e he hb
    have := List.all_eq_true.1 hf i (List.mem_range.2 (List.getElem?_eq_some_iff.1 hi).1)
    rw [hi] at this
    have := List.all_eq_true.1 this e he
    simpa [hb] using this
  intro k hk
  have hcl : Closed ops fun i => decide (i < j) := by
    intro i o hi hd e he hb
    simp only [decide_eq_true_eq] at hd ⊢
    exact Nat.lt_trans (fwd i o hi e he hb) hd
  have := anc_in hcl j o ho (fun e he hb => by simpa using fwd j o ho e he hb) k hk
  simpa using this
theorem cnt_add (D : Nat → Bool) (i : Nat) (hD : D i = false) : ∀ (l : List Nat), l.Nodup → i ∈ l → l.countP (fun k => !(k == i || D k)) + 1 = l.countP (fun k => !D k)
  | [], _, h => by cases h
  | x :: l, hn, hm => by
    rw [List.nodup_cons] at hn
    rw [List.countP_cons, List.countP_cons]
    by_cases hx : x = i
    · subst hx
      have : l.countP (fun k => !(k == x || D k)) = l.countP (fun k => !D k) := by
        refine List.countP_congr fun k hk => ?_
        have : (k == x) = false := by
          rw [beq_eq_false_iff_ne]; rintro rfl; exact hn.1 hk
        simp [this]
      rw [this]; simp [hD]
    · have hm' : i ∈ l := (List.mem_cons.1 hm).resolve_left fun e => hx e.symm
      have := cnt_add D i hD l hn.2 hm'
      have hxi : (x == i) = false := by rw [beq_eq_false_iff_ne]; exact hx
      simp only [hxi, Bool.false_or]
      omega
theorem pairs_mem {n : Nat} {bad : Nat → Nat → Bool} {i j : Nat} (hij : i < j) (hj : j < n) (hb : bad i j = true) : (i, j) ∈ pairs n bad := by
  unfold pairs
  rw [List.mem_flatMap]
  exact ⟨j, List.mem_range.2 hj, List.mem_map.2 ⟨i, List.mem_filter.2 ⟨List.mem_range.2 hij, hb⟩, rfl⟩⟩
theorem disjL_spec {a b : List Nat} (h : disjL a b = true) : ∀ x ∈ a, x ∉ b := by
  intro x hx hb
  have := List.all_eq_true.1 (List.all_eq_true.1 h x hx) x hb
  simp at this
theorem disjO_spec {a : List Nat} {b : Option (List Nat)} (h : disjO a b = true) : ∀ x ∈ a, ∃ l, b = some l ∧ x ∉ l := by
  intro x hx
  cases b with
  | none => simp only [disjO, List.isEmpty_iff] at h; subst h; cases hx
  | some l => exact ⟨l, rfl, disjL_spec h x hx⟩
theorem RelF.weak {ctx : Ctx} {nt : Nat} {m : MM} {sl : Nat → Option Slot} {hp : Nat → Option HO} {df : List Nat} {a : Act} {w : World} {d : Option Nat} {s s' : Slot} (h : RelF cmp ctx nt m (setF sl d s) hp df a w) (hs : s = s' ∨ (s.c = false ∧ s'.c = false)) : RelF cmp ctx nt m (setF sl d s') hp df a w := by
  rcases hs with rfl | ⟨h1, h2⟩
  · exact h
  refine ⟨fun t q hq => ?_, h.size, h.heap, h.df⟩
  cases d with
  | none => exact h.slot t q hq
  | some d =>
    simp only [setF] at hq
    split at hq
    · rename_i e
      subst e
      cases hq
      have := h.slot t s (by simp [setF])
      exact ⟨fun e => (by rw [h2] at e; cases e), fun _ => this.2 h1⟩
    · rename_i e
      exact h.slot t q (by simp only [setF, if_neg e]; exact hq)
/-- a region that draws its order -/
theorem regD_snd (hT : TOK P T) (hQ : EQOK P) (hG : GamOK P cmp Γ) (hB : ∀ f sp, Γ (.f f) = some sp → Bodied P f) (hFp : GamFp Γ) {nt : Nat} {ops : List Oper} {b0 : Nat} {ctx : Ctx} {df : List Nat} {Q : Exit → Act → World → Prop}
    {xs : List XOp} {S S' : St} {E : List Ef} {m : MM} {a : Act} {w : World} (hlen : xs.length = ops.length)
    (hspec : ∀ (i : Nat) (o : Oper), ops[i]? = some o → ∃ x : XOp, xs[i]? = some x ∧ compOp T o = some x.x ∧ x.dst = o.dst ∧ guardOf ops o = some x.g ∧ (∀ t, x.dst = some t → t < nt))
    (hf : fwdOk ops = true) (hs : slotsOk xs (ancs ops []) = true) (hx : xops Γ b0 xs S = some (true, S', E))
    (hchk : (pairs xs.length fun i j => !((ancs ops []).getD j []).contains i && (match xs[i]?, xs[j]? with | some a, some b => clash a.x b.x | _, _ => false)).all (okAt E) = true)
    (hR : RelF cmp ctx nt m S.sl.get S.hp.get df a w) (hQ' : ∀ a' w' m', m.le m' → RelF cmp ctx nt m' S'.sl.get S'.hp.get df a' w' → Q .normal a' w') :
    wpAnyIn (FR r) 0 P .any ops.toArray Q ops.length (Array.replicate ops.length false) a w := by
  obtain ⟨r1, r2, r3, r4, -, -⟩ := xops_run hx
  have fwd : ∀ (i : Nat) (o : Oper), ops[i]? = some o → ∀ e ∈ o.after.toList, bindsE e = true → e.on < i := by
    intro i o hi e he hb
    have := List.all_eq_true.1 hf i (List.mem_range.2 (List.getElem?_eq_some_iff.1 hi).1)
    rw [hi] at this
    have := List.all_eq_true.1 this e he
    simpa [hb] using this
  -- the slots
  have slots : ∀ i j x p d, xs[j]? = some x → xs[i]? = some p → p.dst = some d → (i = j ∨ x.dst ≠ some d) ∧ (d ∈ x.looks → i = j ∨ i ∈ (ancs ops []).getD j [] ∨ j ∈ (ancs ops []).getD i []) := by
    intro i j x p d hj hi hd
    have := List.all_eq_true.1 hs j (List.mem_range.2 (List.getElem?_eq_some_iff.1 hj).1)
    rw [hj] at this
    have := List.all_eq_true.1 this i (List.mem_range.2 (List.getElem?_eq_some_iff.1 hi).1)
    rw [hi] at this
    simp only [hd, Bool.and_eq_true, Bool.or_eq_true, Bool.not_eq_true', beq_iff_eq, bne_iff_ne, List.contains_iff_mem] at this
    refine ⟨this.1, fun hm => ?_⟩
    rcases this.2 with ((h | h) | h) | h
    · have := List.contains_iff_mem.2 hm
      rw [this] at h; cases h
    · exact .inl h
    · exact .inr (.inl h)
    · exact .inr (.inr h)
  -- two operations that are not bound
  have free : ∀ i j e e', i < j → E[i]? = some e → E[j]? = some e' → i ∉ (ancs ops []).getD j [] → (∀ id ∈ e.tch, ¬ e'.inFp id ∧ id ∉ e'.tch) ∧ (∀ id ∈ e'.tch, ¬ e.inFp id ∧ id ∉ e.tch) := by
    intro i j e e' hij hi hj ha
    have hjn : j < xs.length := by rw [← r1]; exact (List.getElem?_eq_some_iff.1 hj).1
    have hxi : xs[i]? = some xs[i] := by simp
    have hxj : xs[j]? = some xs[j] := by simp [hjn]
    obtain ⟨e1, g1, g2⟩ := r2 i _ hxi
    obtain ⟨e2, g3, g4⟩ := r2 j _ hxj
    rw [hi] at g1; cases g1
    rw [hj] at g3; cases g3
    cases hc : clash xs[i].x xs[j].x with
    | true =>
      have := List.all_eq_true.1 hchk (i, j) (pairs_mem hij hjn (by
        rw [hxi, hxj]
        simp only [hc, Bool.and_true, Bool.not_eq_true']
        rw [← Bool.not_eq_true]
        exact fun h => ha (List.contains_iff_mem.1 h)))
      unfold okAt at this
      rw [hi, hj] at this
      simp only [okEf, Bool.and_eq_true] at this
      obtain ⟨⟨k1, k2⟩, k3⟩ := this
      refine ⟨fun id hid => ⟨fun hf => ?_, disjL_spec k1 id hid⟩, fun id hid => ⟨fun hf => ?_, fun h => disjL_spec k1 id h hid⟩⟩
      · obtain ⟨l, q1, q2⟩ := disjO_spec k2 id hid
        unfold Ef.inFp at hf
        rw [q1] at hf
        exact hf.elim q2 (disjL_spec k1 id hid)
      · obtain ⟨l, q1, q2⟩ := disjO_spec k3 id hid
        unfold Ef.inFp at hf
        rw [q1] at hf
        exact hf.elim q2 fun h => disjL_spec k1 id h hid
    | false =>
      have cases3 : opClass xs[i].x = 0 ∨ opClass xs[j].x = 0 ∨ (opClass xs[i].x = 1 ∧ opClass xs[j].x = 1) := by
        unfold clash at hc
        split at hc
        · exact .inl ‹_›
        · exact .inr (.inl ‹_›)
        · exact .inr (.inr ⟨‹_›, ‹_›⟩)
        · cases hc
      rcases cases3 with h | h | ⟨h, h'⟩
      · obtain ⟨q1, q2⟩ := xopF_cls0 g2 h
        rw [q1]
        refine ⟨fun id hid => (by cases hid), fun id hid => ⟨fun hf => ?_, fun h => (by cases h)⟩⟩
        unfold Ef.inFp at hf
        rw [q2, q1] at hf
        simp at hf
      · obtain ⟨q1, q2⟩ := xopF_cls0 g4 h
        rw [q1]
        refine ⟨fun id hid => ⟨fun hf => ?_, fun h => (by cases h)⟩, fun id hid => (by cases hid)⟩
        unfold Ef.inFp at hf
        rw [q2, q1] at hf
        simp at hf
      · rw [xopF_cls1 g2 h, xopF_cls1 g4 h']
        exact ⟨fun id hid => (by cases hid), fun id hid => (by cases hid)⟩
  have main : ∀ (fuel : Nat) (listed : Array Bool) (m' : MM) (a : Act) (w : World), listed.size = ops.length → m.le m' → Closed ops (fun k => listed.getD k false) → (List.range ops.length).countP (fun k => !listed.getD k false) = fuel →
      RelF cmp ctx nt m' (apS (fun k => listed.getD k false) E S.sl.get) (apH (fun k => listed.getD k false) E S.hp.get) df a w → wpAnyIn (FR r) 0 P .any ops.toArray Q fuel listed a w := by
    intro fuel
    have done : ∀ (listed : Array Bool) (m' : MM) (a : Act) (w : World), m.le m' → (∀ k, k < ops.length → listed.getD k false = true) → RelF cmp ctx nt m' (apS (fun k => listed.getD k false) E S.sl.get) (apH (fun k => listed.getD k false) E S.hp.get) df a w → Q .normal a w := by
      intro listed m' a w hm hall hR
      refine hQ' a w m' hm ?_
      have h1 : apS (fun k => listed.getD k false) E S.sl.get = apS (fun _ => true) E S.sl.get := by
        funext t
        exact apS_congr E _ _ _ _ t (fun i e hi _ => hall i (by rw [← hlen, ← r1]; exact (List.getElem?_eq_some_iff.1 hi).1)) rfl
      have h2 : apH (fun k => listed.getD k false) E S.hp.get = apH (fun _ => true) E S.hp.get := by
        funext t
        exact apH_congr E _ _ _ _ t (fun i e hi _ => hall i (by rw [← hlen, ← r1]; exact (List.getElem?_eq_some_iff.1 hi).1)) rfl
      rw [h1, h2, ← r3, ← r4] at hR
      exact hR
    induction fuel with
    | zero =>
      intro listed m' a w hsz hm hcl hcnt hR
      have hall : ∀ k, k < ops.length → listed.getD k false = true := by
        intro k hk
        rw [List.countP_eq_zero] at hcnt
        simpa using hcnt k (List.mem_range.2 hk)
      refine ⟨?_, done listed m' a w hm hall hR⟩
      rw [List.eq_nil_iff_forall_not_mem]
      intro j hj
      obtain ⟨h1, o, h2, _⟩ := mem_ready.1 hj
      have hlt : j < ops.length := by simpa using (Array.getElem?_eq_some_iff.1 h2).1
      have := hall j hlt
      simp [hsz, hlt] at h1 this
      rw [h1] at this
      cases this
    | succ fuel ih =>
      intro listed m' a w hsz hm hcl hcnt hR
      refine ⟨fun hr => done listed m' a w hm ?_ hR, fun i hi => ?_⟩
      · intro k
        induction k using Nat.strongRecOn with
        | _ k ihk =>
          intro hk
          cases hd : listed.getD k false with
          | true => rfl
          | false =>
            exfalso
            have : k ∈ Region.ready .any ops.toArray listed := by
              refine mem_ready.2 ⟨?_, ops[k], by simp [hk], fun e he hb => ?_⟩
              · simp [hsz, hk] at hd ⊢
                exact hd
              · have hlt := fwd k ops[k] (by simp [hk]) e (by simpa using he) hb
                exact ihk e.on hlt (Nat.lt_trans hlt hk)
            rw [hr] at this
            cases this
      · obtain ⟨hi1, o, hi2, hi3⟩ := mem_ready.1 hi
        have hio : ops[i]? = some o := by simpa using hi2
        have hin : i < ops.length := (List.getElem?_eq_some_iff.1 hio).1
        have hDi : listed.getD i false = false := by
          simp [hsz, hin] at hi1 ⊢
          exact hi1
        have hafter : ∀ e ∈ o.after.toList, bindsE e = true → listed.getD e.on false = true := fun e he hb => hi3 e (by simpa using he) hb
        obtain ⟨x, q1, q2, q3, q4, q5⟩ := hspec i o hio
        obtain ⟨e, p1, p2⟩ := r2 i x q1
        -- who is done before whom
        have agree : ∀ j e', E[j]? = some e' → j ≠ i → (j < i → listed.getD j false = false → j ∉ (ancs ops []).getD i []) ∧ (i < j → listed.getD j false = true → i ∉ (ancs ops []).getD j []) := by
          intro j e' hj hne
          refine ⟨fun _ hd ha => ?_, fun _ hd ha => ?_⟩
          · rw [anc_in hcl i o hio hafter j ha] at hd; cases hd
          · have hjn : j < ops.length := by rw [← hlen, ← r1]; exact (List.getElem?_eq_some_iff.1 hj).1
            have hjo : ops[j]? = some ops[j] := by simp [hjn]
            have := anc_in hcl j _ hjo (fun e he hb => hcl j _ hjo hd e he hb) i ha
            rw [this] at hDi; cases hDi
        obtain ⟨e2, s1, s2, s3, s4, s5⟩ := xopF_congr hFp p2 rfl (sl' := apS (fun k => listed.getD k false) E S.sl.get) (hp' := apH (fun k => listed.getD k false) E S.hp.get)
          (by
            intro t ht
            refine apS_congr E _ _ _ _ t (fun j e' hj hdj => ?_) rfl
            have hjx : j < xs.length := by rw [← r1]; exact (List.getElem?_eq_some_iff.1 hj).1
            obtain ⟨e1, g1, g2⟩ := r2 j xs[j] (by simp [hjx])
            rw [hj] at g1; cases g1
            have hpd : xs[j].dst = some t := by rw [← xopF_dst g2]; exact hdj
            by_cases hji : j = i
            · subst hji
              rw [hDi]; simp
            rcases (slots j i x xs[j] t q1 (by simp [hjx]) hpd).2 ht with h | h | h
            · exact absurd h hji
            · have h1 := anc_in hcl i o hio hafter j h
              have h2 := anc_lt hf i o hio j h
              simp only [h1, h2, decide_true]
            · have hjo : ops[j]? = some ops[j] := by simp [← hlen, hjx]
              have h2 := anc_lt hf j _ hjo i h
              have h3 : listed.getD j false = false := by
                cases hd : listed.getD j false with
                | false => rfl
                | true => exact absurd h ((agree j e' hj hji).2 h2 hd)
              rw [h3]
              simp; omega)
          (by
            intro id hid
            refine apH_congr E _ _ _ _ id (fun j e' hj hm => ?_) rfl
            by_cases hji : j = i
            · subst hji
              rw [hDi]; simp
            rcases Nat.lt_or_gt_of_ne hji with hlt | hgt
            · cases hd : listed.getD j false with
              | true => simp [hlt]
              | false =>
                have := free j i e' e hlt hj p1 ((agree j e' hj hji).1 hlt hd)
                exact absurd hid (this.1 id hm).1
            · cases hd : listed.getD j false with
              | false => simp; omega
              | true =>
                have := free i j e e' hgt p1 hj ((agree j e' hj hji).2 hgt hd)
                exact absurd hid (this.2 id hm).1)
        have hD2 : (fun k => (listed.setIfInBounds i true).getD k false) = fun k => (k == i || listed.getD k false) := by
          funext k
          by_cases hk : k = i
          · subst hk
            simp [hsz, hin]
          · rw [getD_set_ne false (Ne.symm hk)]
            have : (k == i) = false := by rw [beq_eq_false_iff_ne]; exact hk
            simp [this]
        unfold wpOpIn
        rw [hi2]
        refine op_snd (comp_snd hT hQ hG hB q2) s1 rfl hR q3 q5 q4 fun a' w' m'' hm' hR' => ?_
        refine ih _ m'' a' w' (by simpa using hsz) (MM.le_trans hm hm') ?_ ?_ ?_
        · rw [hD2]
          intro j oj hj hd e' he' hb
          simp only [Bool.or_eq_true, beq_iff_eq] at hd ⊢
          rcases hd with rfl | hd
          · rw [hio] at hj; cases hj
            exact .inr (hafter e' he' hb)
          · exact .inr (hcl j oj hj hd e' he' hb)
        · have := cnt_add (fun k => listed.getD k false) i hDi (List.range ops.length) List.nodup_range (List.mem_range.2 hin)
          have h2 : (fun k => !(listed.setIfInBounds i true).getD k false) = fun k => !(k == i || listed.getD k false) := by
            funext k; rw [← congrFun hD2 k]
          rw [h2]
          omega
        · rw [hD2, apS_add E _ _ i e p1 hDi, apH_add E _ _ i e p1 hDi, xopF_dst p2]
          · rw [s2, s3, s4] at hR'
            exact hR'.weak s5
          · intro j e' hij hj hd id hid
            have := free i j e e' hij p1 hj ((agree j e' hj (by omega)).2 hij hd)
            exact (this.1 id hid).2
          · intro j e' hij hj hd t ht h2
            have hjx : j < xs.length := by rw [← r1]; exact (List.getElem?_eq_some_iff.1 hj).1
            obtain ⟨e1, g1, g2⟩ := r2 j xs[j] (by simp [hjx])
            rw [hj] at g1; cases g1
            rw [xopF_dst g2] at h2
            rw [xopF_dst p2] at ht
            rcases (slots j i x xs[j] t q1 (by simp [hjx]) h2).1 with h | h
            · omega
            · exact h ht
  refine main _ _ m a w (by simp) m.le_refl ?_ ?_ ?_
  · intro j o hj hd
    simp only [Array.getD_eq_getD_getElem?, Array.getElem?_replicate] at hd
    split at hd <;> simp at hd
  · rw [List.countP_eq_length.2]
    · simp
    · intro k hk
      simp only [Array.getD_eq_getD_getElem?, Array.getElem?_replicate]
      split <;> rfl
  · have hz : (fun k => (Array.replicate ops.length false).getD k false) = fun _ => false := by
      funext k
      simp only [Array.getD_eq_getD_getElem?, Array.getElem?_replicate]
      split <;> rfl
    rw [hz, apS_none _ _ _ fun _ => rfl, apH_none _ _ _ fun _ => rfl]
    exact hR
end
end Go.Proofs.Yteekkjfjpoaihaa.Eng
namespace Go.Proofs.Yteekkjfjpoaihaa.Eng
open Go
inductive XE where
  | n
  | x (id : Nat)
  | r
  deriving DecidableEq
def XE.to : XE → Exit
  | .n => .normal
  | .x id => .exit id
  | .r => .ret
def XE.unblock (id : Nat) : XE → XE
  | .x id' => bif Nat.beq id' id then .n else .x id'
  | e => e
/-- what holds of the ids below kp stays -/
def MM.leK (kp : Nat) (m m' : MM) : Prop := ∀ id mb, id < kp → m id = some mb → m' id = some mb
theorem MM.le.toK {m m' : MM} (h : m.le m') (kp : Nat) : MM.leK kp m m' := fun id mb _ e => h id mb e
theorem MM.leK.refl {kp : Nat} {m : MM} : MM.leK kp m m := fun _ _ _ h => h
theorem MM.leK.trans {kp : Nat} {a b c : MM} (h : MM.leK kp a b) (k : MM.leK kp b c) : MM.leK kp a c := fun id mb hi e => k id mb hi (h id mb hi e)
structure EnvOK (P : Program) (T : Tab) (Γ : Cal → Option Spec) : Prop where
  tok : TOK P T
  eqok : EQOK P
  G : GamOK P (compC T) Γ
  B : ∀ f sp, Γ (.f f) = some sp → Bodied P f
  F : GamFp Γ
  mix : P.follows .mixedOrders = true
def RelSt (T : Tab) (ctx : Ctx) (nt : Nat) (m : MM) (S : St) (a : Act) (w : World) : Prop := RelF (compC T) ctx nt m S.sl.get S.hp.get S.df a w
/-- code goes from a state to a state, and ends so -/
def Exec (P : Program) (T : Tab) (r : Option Nat) (nt kp : Nat) (c : XC) (S : St) (e : XE) (S' : St) : Prop :=
  ∀ (code : Code), compC T nt code = some c → ∀ (ctx : Ctx) (m : MM) (a : Act) (w : World) (Q : Exit → Act → World → Prop), RelSt T ctx nt m S a w →
    (∀ a' w' m', MM.leK kp m m' → RelSt T ctx nt m' S' a' w' → Q e.to a' w') → code.wpIn (FR r) 0 P Q a w
/-- another way to see a state -/
def Weak (T : Tab) (kp : Nat) (S S' : St) : Prop := ∀ ctx nt m a w, RelSt T ctx nt m S a w → ∃ m', MM.leK kp m m' ∧ RelSt T ctx nt m' S' a w
section
variable {P : Program} {T : Tab} {r : Option Nat} {Γ : Cal → Option Spec} {nt kp : Nat}
theorem evalX_TR {cmp : Cmp} {ctx : Ctx} {m : MM} {sl : Nat → Option Slot} {hp : Nat → Option HO} {df : List Nat} {a : Act} {w : World} (hR : RelF cmp ctx nt m sl hp df a w) {y : Operand} {xo : XO} (hy : cO y = some xo) (hc : (evalX sl xo).c = true) : TR m (evalX sl xo).v (a.eval y) := by
  cases y with
  | tmp t =>
    simp only [cO, Option.some.injEq] at hy
    subst hy
    simp only [evalX] at hc ⊢
    cases hs : sl t with
    | none => simp only [Option.getD_none]; trivial
    | some s =>
      rw [hs] at hc
      simp only [Option.getD_some] at hc ⊢
      exact (hR.slot t s hs).1 hc
  | const v =>
    simp only [cO, Option.map_eq_some_iff] at hy
    obtain ⟨av, h1, rfl⟩ := hy
    exact cV_snd h1 m
  | func f =>
    simp only [cO, Option.some.injEq] at hy
    subst hy
    exact ⟨[], rfl, trivial⟩
  | global g => simp [cO] at hy
theorem Exec.post {c : XC} {S S1 S2 : St} {e : XE} (h : Exec P T r nt kp c S e S1) (hw : Weak T kp S1 S2) : Exec P T r nt kp c S e S2 := fun code hc ctx m a w Q hR hQ =>
  h code hc ctx m a w Q hR fun a' w' m' hm hR' => let ⟨m2, h1, h2⟩ := hw ctx nt m' a' w' hR'; hQ a' w' m2 (hm.trans h1) h2
theorem Exec.pre {c : XC} {S S1 S2 : St} {e : XE} (hw : Weak T kp S S1) (h : Exec P T r nt kp c S1 e S2) : Exec P T r nt kp c S e S2 := fun code hc ctx m a w Q hR hQ =>
  let ⟨m2, h1, h2⟩ := hw ctx nt m a w hR; h code hc ctx m2 a w Q h2 fun a' w' m' hm hR' => hQ a' w' m' (h1.trans hm) hR'
/-- which code compiles to which -/
def Shape (T : Tab) (n : Nat) : XC → Code → Prop
  | .skip, .skip => True
  | .label _, .label _ => True
  | .ret, .ret => True
  | .exit i, .exit j => i = j
  | .reg o t, .region _ ops d => d = false ∧ compOps T n ops.toList ops.toList 0 = some (o, t)
  | .regD o t chk, .region _ ops d => d = true ∧ compOps T n ops.toList ops.toList 0 = some (o, t) ∧ fwdOk ops.toList = true ∧ slotsOk o (ancs ops.toList []) = true ∧
      chk = pairs o.length fun i j => !((ancs ops.toList []).getD j []).contains i && (match o[i]?, o[j]? with | some a, some b => clash a.x b.x | _, _ => false)
  | .seq x y, .seq a b => compC T n a = some x ∧ compC T n b = some y
  | .cond c x y, .cond o a b => cO o = some c ∧ compC T n a = some x ∧ compC T n b = some y
  | .block i x, .block j a => i = j ∧ compC T n a = some x
  | .loop x, .loop a => compC T n a = some x
  | .rf f ps x y, .rangeFunc g qs a b => cO g = some f ∧ ps = qs.toList ∧ (∀ t ∈ ps, t < n) ∧ compC T n a = some x ∧ compC T n b = some y
  | .scope x, .scope a => compC T n a = some x
  | _, _ => False
theorem compC_shape {T : Tab} {n : Nat} {code : Code} {c : XC} (hc : compC T n code = some c) : Shape T n c code := by
  cases code <;> simp only [compC, Option.bind_eq_some_iff, Option.map_eq_some_iff, Option.some.injEq] at hc
  case skip => subst hc; trivial
  case label => subst hc; trivial
  case ret => subst hc; trivial
  case exit => subst hc; rfl
  case region id ops d =>
    obtain ⟨⟨o, t⟩, h1, h2⟩ := hc
    cases d with
    | true =>
      simp only [if_true] at h2
      split at h2
      case isFalse => cases h2
      rename_i hb
      simp only [Option.some.injEq] at h2
      subst h2
      simp only [Bool.and_eq_true] at hb
      exact ⟨rfl, h1, hb.1, hb.2, rfl⟩
    | false =>
      simp only [Bool.false_eq_true, if_false, Option.some.injEq] at h2
      subst h2
      exact ⟨rfl, h1⟩
  case seq a b => obtain ⟨x, h1, y, h2, rfl⟩ := hc; exact ⟨h1, h2⟩
  case cond o a b => obtain ⟨z, h0, x, h1, y, h2, rfl⟩ := hc; exact ⟨h0, h1, h2⟩
  case block i a => obtain ⟨x, h1, rfl⟩ := hc; exact ⟨rfl, h1⟩
  case loop a => obtain ⟨x, h1, rfl⟩ := hc; exact h1
  case rangeFunc g qs a b =>
    split at hc
    case isFalse => cases hc
    rename_i hps
    simp only [Option.bind_eq_some_iff, Option.map_eq_some_iff] at hc
    obtain ⟨z, h0, x, h1, y, h2, rfl⟩ := hc
    exact ⟨h0, rfl, fun t ht => by simpa using List.all_eq_true.1 hps t ht, h1, h2⟩
  case scope a => obtain ⟨x, h1, rfl⟩ := hc; exact h1
  case goto => cases hc
  case refuse => cases hc
theorem exec_skip {S : St} : Exec P T r nt kp .skip S .n S := by
  intro code hc ctx m a w Q hR hQ
  have hsh := compC_shape hc
  cases code <;> try exact hsh.elim
  case skip => exact wpIn_skip (hQ a w m .refl hR)
theorem exec_label {l : Nat} {S : St} : Exec P T r nt kp (.label l) S .n S := by
  intro code hc ctx m a w Q hR hQ
  have hsh := compC_shape hc
  cases code <;> try exact hsh.elim
  case label => exact wpIn_label (hQ a w m .refl hR)
theorem exec_ret {S : St} : Exec P T r nt kp .ret S .r S := by
  intro code hc ctx m a w Q hR hQ
  have hsh := compC_shape hc
  cases code <;> try exact hsh.elim
  case ret => exact wpIn_ret (hQ a w m .refl hR)
theorem exec_exit {id : Nat} {S : St} : Exec P T r nt kp (.exit id) S (.x id) S := by
  intro code hc ctx m a w Q hR hQ
  have hsh := compC_shape hc
  cases code <;> try exact hsh.elim
  case exit j => cases (show id = j from hsh); exact wpIn_exit (hQ a w m .refl hR)
theorem exec_reg (hE : EnvOK P T Γ) {ops : List XOp} {tot : Nat} {S S' : St} {E : List Ef} (hx : xops Γ S.nx ops S = some (true, S', E)) : Exec P T r nt kp (.reg ops tot) S .n { S' with nx := S'.nx + tot } := by
  intro code hc ctx m a w Q hR hQ
  have hsh := compC_shape hc
  cases code <;> try exact hsh.elim
  case region id os d =>
    obtain ⟨rfl, h1⟩ := hsh
    obtain ⟨h3, h4⟩ := compOps_spec h1
    refine wpIn_region ?_
    have : List.range os.size = List.range' 0 ops.length := by rw [h3, List.range_eq_range', Array.length_toList]
    rw [this]
    have hdf := (xops_run hx).2.2.2.2.2
    refine reg_snd (ops := os.toList) hE.tok hE.eqok hE.G hE.B (by rw [h3]; simp) (fun i o hi => h4 i o (by simpa using hi)) hx hR fun a' w' m' hm hR' => hQ a' w' m' (hm.toK _) ?_
    unfold RelSt
    simp only [hdf]
    exact hR'
theorem exec_regD (hE : EnvOK P T Γ) {ops : List XOp} {tot : Nat} {chk : List (Nat × Nat)} {S S' : St} {E : List Ef} (hx : xops Γ S.nx ops S = some (true, S', E)) (hk : chk.all (okAt E) = true) : Exec P T r nt kp (.regD ops tot chk) S .n { S' with nx := S'.nx + tot } := by
  intro code hc ctx m a w Q hR hQ
  have hsh := compC_shape hc
  cases code <;> try exact hsh.elim
  case region id os d =>
    obtain ⟨rfl, h1, hf, hs, rfl⟩ := hsh
    obtain ⟨h3, h4⟩ := compOps_spec h1
    refine wpIn_region_any hE.mix ?_
    have hdf := (xops_run hx).2.2.2.2.2
    have hR0 : RelF (compC T) ctx nt m S.sl.get S.hp.get S.df a { w with drawn := w.drawn + 1 } := by
      refine ⟨hR.slot, hR.size, ?_, hR.df⟩
      have := hR.heap
      refine ⟨fun id ho h => ?_, this.dist, this.dom, this.os, this.tape, this.output, this.size, this.same0⟩
      obtain ⟨mb, g1, g2, g3, g4⟩ := this.obj id ho h
      exact ⟨mb, g1, OR.block (w := w) (fun _ _ => rfl) g2, g3, g4⟩
    have := regD_snd (ops := os.toList) (r := r) (P := P) (Q := Q) hE.tok hE.eqok hE.G hE.B hE.F h3 h4 hf hs hx hk hR0 fun a' w' m' hm hR' => hQ a' w' m' (hm.toK _) (by unfold RelSt; simp only [hdf]; exact hR')
    simpa using this
theorem exec_seq {x y : XC} {S S1 S2 : St} {e : XE} (h1 : Exec P T r nt kp x S .n S1) (h2 : Exec P T r nt kp y S1 e S2) : Exec P T r nt kp (.seq x y) S e S2 := by
  intro code hc ctx m a w Q hR hQ
  have hsh := compC_shape hc
  cases code <;> try exact hsh.elim
  case seq c1 c2 =>
    obtain ⟨h3, h4⟩ := hsh
    exact wpIn_seq (h1 c1 h3 ctx m a w _ hR fun a' w' m' hm hR' => h2 c2 h4 ctx m' a' w' Q hR' fun a'' w'' m'' hm' hR'' => hQ _ _ _ (hm.trans hm') hR'')
theorem exec_seq_x {x y : XC} {S S1 : St} {e : XE} (h1 : Exec P T r nt kp x S e S1) (he : e ≠ .n) : Exec P T r nt kp (.seq x y) S e S1 := by
  intro code hc ctx m a w Q hR hQ
  have hsh := compC_shape hc
  cases code <;> try exact hsh.elim
  case seq c1 c2 =>
    obtain ⟨h3, h4⟩ := hsh
    refine wpIn_seq (h1 c1 h3 ctx m a w _ hR fun a' w' m' hm hR' => ?_)
    have := hQ a' w' m' hm hR'
    cases e with
    | n => exact absurd rfl he
    | x id => exact this
    | r => exact this
theorem exec_cond {c : XO} {x y : XC} {S S1 : St} {e : XE} {t : Bool} (hc : evalX S.sl.get c = ⟨true, .av (.s (.bool t))⟩) (h : Exec P T r nt kp (bif t then x else y) S e S1) : Exec P T r nt kp (.cond c x y) S e S1 := by
  intro code hcc ctx m a w Q hR hQ
  have hsh := compC_shape hcc
  cases code <;> try exact hsh.elim
  case cond o c1 c2 =>
    obtain ⟨h2, h3, h4⟩ := hsh
    have hv := evalX_TR hR h2 (by rw [hc])
    rw [hc] at hv
    cases t with
    | true => exact wpIn_cond_true hv (h c1 h3 ctx m a w Q hR hQ)
    | false => exact wpIn_cond_false hv (h c2 h4 ctx m a w Q hR hQ)
theorem exec_block {id : Nat} {x : XC} {S S1 : St} {e : XE} (h : Exec P T r nt kp x S e S1) : Exec P T r nt kp (.block id x) S (e.unblock id) S1 := by
  intro code hc ctx m a w Q hR hQ
  have hsh := compC_shape hc
  cases code <;> try exact hsh.elim
  case block id' c1 =>
    obtain ⟨rfl, h3⟩ := hsh
    refine wpIn_block (h c1 h3 ctx m a w _ hR fun a' w' m' hm hR' => ?_)
    have := hQ a' w' m' hm hR'
    cases e with
    | n => exact this
    | x i =>
      simp only [XE.to, Exit.inBlock]
      simp only [XE.unblock] at this
      by_cases hi : i = id
      · rw [if_pos hi]
        subst hi
        rw [Nat.beq_refl] at this
        exact this
      · rw [if_neg hi]
        rw [beqF hi] at this
        exact this
    | r => exact this
/-- some rounds of a loop, and the one that leaves it -/
inductive LoopX (X : St → XE → St → Prop) : Nat → St → XE → St → Prop
  | done {S S' : St} {e : XE} : X S e S' → e ≠ .n → LoopX X 0 S e S'
  | step {k : Nat} {S S1 S' : St} {e : XE} : X S .n S1 → LoopX X k S1 e S' → LoopX X (k + 1) S e S'
open Classical in
theorem exec_loop {x : XC} {k : Nat} {S S1 : St} {e : XE} (h : LoopX (Exec P T r nt kp x) k S e S1) : Exec P T r nt kp (.loop x) S e S1 := by
  intro code hc ctx m a w Q hR hQ
  have hsh := compC_shape hc
  cases code <;> try exact hsh.elim
  case loop c1 =>
    have h3 : compC T nt c1 = some x := hsh
    let J : Nat → Act → World → Prop := fun k a w => ∃ S0 m0, LoopX (Exec P T r nt kp x) k S0 e S1 ∧ MM.leK kp m m0 ∧ RelSt T ctx nt m0 S0 a w
    have hlow : ∀ (a : Act) (w : World), (∃ k, J k a w) → ∃ k, J k a w ∧ ∀ j, j < k → ¬ J j a w := by
      intro a w ⟨k, hk⟩
      induction k using Nat.strongRecOn with
      | _ k ih =>
        by_cases hj : ∃ j, j < k ∧ J j a w
        · obtain ⟨j, h1, h2⟩ := hj
          exact ih j h1 h2
        · exact ⟨k, hk, fun j h1 h2 => hj ⟨j, h1, h2⟩⟩
    let μ : Act → World → Nat := fun a w => if hx : ∃ k, J k a w then Classical.choose (hlow a w hx) else 0
    have hle : ∀ a w k, J k a w → μ a w ≤ k := by
      intro a w k hk
      have hx : ∃ k, J k a w := ⟨k, hk⟩
      have hs := Classical.choose_spec (hlow a w hx)
      simp only [μ, dif_pos hx]
      exact Nat.le_of_not_lt fun hlt => hs.2 k hlt hk
    refine wpIn_loop (fun a w => ∃ k, J k a w) μ ⟨k, S, m, h, .refl, hR⟩ fun a w hx => ?_
    have hs := Classical.choose_spec (hlow a w hx)
    have hμ : μ a w = Classical.choose (hlow a w hx) := by simp only [μ, dif_pos hx]
    rw [← hμ] at hs
    obtain ⟨⟨S0, m0, g1, g2, g3⟩, _⟩ := hs
    generalize hn : μ a w = n at *
    cases g1 with
    | done h1 h2 =>
      refine h1 c1 h3 ctx m0 a w _ g3 fun a' w' m' hm hR' => ?_
      have := hQ a' w' m' (g2.trans hm) hR'
      cases e with
      | n => exact absurd rfl h2
      | x id => exact this
      | r => exact this
    | step h1 h2 =>
      refine h1 c1 h3 ctx m0 a w _ g3 fun a' w' m' hm hR' => ?_
      have hJ : J _ a' w' := ⟨_, m', h2, g2.trans hm, hR'⟩
      exact ⟨⟨_, hJ⟩, Nat.lt_succ_of_le (hle a' w' _ hJ)⟩
theorem stepR_scope {P : Program} {b : Frame} {a : Act} {k : List Item} {cs : List Frame} {w : World} {c : Code} : step P (lone (b.atR a (.code (.scope c) :: k)) cs w) = .next (lone (b.atR a (.code c :: .inScope c :: k)) cs w) :=
  step_lone_go (by simp [stepG, stepG.exec, Frame.atR])
theorem stepR_inScope {P : Program} {b : Frame} {a : Act} {k : List Item} {cs : List Frame} {w : World} {c : Code} : step P (lone (b.atR a (.inScope c :: k)) cs w) = .next (lone (b.atR a k) cs w) :=
  step_lone_go (by simp [stepG, stepG.exec, Frame.atR])
theorem wpIn_scope_straight {F : Fence} {n : Nat} {c : Code} {Q : Exit → Act → World → Prop} {a : Act} {w : World} (h : c.wpIn F n P (fun e a w => (∀ l, e ≠ .goto l) ∧ Q e a w) a w) : (Code.scope c).wpIn F n P Q a w := by
  intro b k cs hro hb hr
  have h0 : (lone (b.atR a (.code (.scope c) :: k)) cs w).fenced P F := fenced_calm hb hr rfl
  obtain ⟨e, a₁, w₁, ⟨hg, hq⟩, harr⟩ := h b (.inScope c :: k) cs hro hb hr
  cases e with
  | normal => exact ⟨.normal, a₁, w₁, hq, .head h0 stepR_scope (StepsIn.trans harr (.one (fenced_calm hb hr rfl) stepR_inScope))⟩
  | exit id =>
    have hx : exitTo id (.inScope c :: k) = exitTo id k := by simp [exitTo]
    exact ⟨.exit id, a₁, w₁, hq, fun k' hk => .head h0 stepR_scope (harr.1 k' (by rw [hx]; exact hk)),
      fun hr' hk => let ⟨k₁, h1, h2⟩ := harr.2 hr' (by rw [hx]; exact hk); ⟨k₁, h1, .head h0 stepR_scope h2⟩⟩
  | goto l => exact absurd rfl (hg l)
  | ret => exact ⟨_, a₁, w₁, hq, .of_steps (.one h0 stepR_scope) harr⟩
  | panic ch => exact ⟨_, a₁, w₁, hq, .of_steps (.one h0 stepR_scope) harr⟩
  | outgrown => exact ⟨_, a₁, w₁, hq, .of_steps (.one h0 stepR_scope) harr⟩
theorem exec_scope {x : XC} {S S1 : St} {e : XE} (h : Exec P T r nt kp x S e S1) : Exec P T r nt kp (.scope x) S e S1 := by
  intro code hc ctx m a w Q hR hQ
  have hsh := compC_shape hc
  cases code <;> try exact hsh.elim
  case scope c1 =>
    have h3 : compC T nt c1 = some x := hsh
    exact wpIn_scope_straight (h c1 h3 ctx m a w _ hR fun a' w' m' hm hR' => ⟨fun l => by cases e <;> simp [XE.to], hQ a' w' m' hm hR'⟩)
end
end Go.Proofs.Yteekkjfjpoaihaa.Eng
namespace Go.Proofs.Yteekkjfjpoaihaa.Eng
open Go
/-- where a result lies -/
inductive XR where
  | t (n : Nat)
  | cell (a : Nat) (lk : LK)
def compR (T : Tab) : ResultVar → Option XR
  | .tmp t => some (.t t)
  | .cell a ty => (lkT T ty).map (.cell a)
def compRs (T : Tab) : List ResultVar → Option (List XR)
  | [] => some []
  | x :: r => (compR T x).bind fun y => (compRs T r).map (y :: ·)
def resV1 (sl : Nat → Option Slot) (hp : Nat → Option HO) : XR → Option (Bool × AV)
  | .t n => match evalX sl (.t n) with
    | ⟨c, .av v⟩ => some (c, v)
    | _ => none
  | .cell a lk => match evalX sl (.t a) with
    | ⟨c, .av (.s (.ptr id b o))⟩ => match hp id with
      | some ho => (ldO lk ho.o b o).map fun r => (c && r.1, r.2)
      | none => none
    | _ => none
def resVs (sl : Nat → Option Slot) (hp : Nat → Option HO) : List XR → Option (Bool × List AV)
  | [] => some (true, [])
  | x :: r => match resV1 sl hp x with
    | some (c, v) => match resVs sl hp r with
      | some (c', l) => some (c && c', v :: l)
      | none => none
    | none => none
def resV (sl : Nat → Option Slot) (hp : Nat → Option HO) (rs : List XR) : Option (Bool × TV) :=
  match resVs sl hp rs with
  | some (c, [v]) => some (c, .av v)
  | some (c, l) => some (c, .tup l)
  | none => none
/-- a function as the small code -/
structure XFn where
  nt : Nat
  body : XC
  res : List XR
noncomputable def compFn (T : Tab) (fn : Func) : Option XFn := match fn.body with
  | some b => match compC T fn.ntmps b, compRs T fn.results.toList with
    | some c, some rs => some ⟨fn.ntmps, c, rs⟩
    | _, _ => none
  | none => none
section
variable {P : Program} {T : Tab} {r : Option Nat} {Γ : Cal → Option Spec} {nt kp : Nat}
def resM (tmps : Array Value) : ResultVar → Sem Value
  | .tmp t => pure (tmps.getD t undef)
  | .cell ad t => do loadVar t (← asAddr (tmps.getD ad undef))
theorem results_resM (fn : Func) (tmps : Array Value) : results fn tmps = (do let vs ← fn.results.mapM (resM tmps); pure (if h : vs.size = 1 then vs[0] else .tuple vs)) := rfl
theorem resV1_snd (hT : TOK P T) {cmp : Cmp} {ctx : Ctx} {m : MM} {sl : Nat → Option Slot} {hp : Nat → Option HO} {df : List Nat} {a : Act} {w : World} (hR : RelF cmp ctx nt m sl hp df a w) {x : ResultVar} {y : XR} (hy : compR T x = some y) {c : Bool} {v : AV} (hv : resV1 sl hp y = some (c, v)) (hc : c = true) :
    ∃ u, (resM a.tmps x).run P w = .ok u w ∧ AR m v u := by
  cases x with
  | tmp t =>
    cases hy
    simp only [resV1] at hv
    split at hv
    case h_2 => cases hv
    rename_i c0 v0 he
    simp only [Option.some.injEq, Prod.mk.injEq] at hv
    obtain ⟨rfl, rfl⟩ := hv
    refine ⟨_, rfl, ?_⟩
    have := evalX_TR hR (y := .tmp t) rfl (by rw [he]; exact hc)
    rw [he] at this
    exact this
  | cell ad t =>
    obtain ⟨lk, hk, rfl⟩ := Option.map_eq_some_iff.1 hy
    simp only [resV1] at hv
    split at hv
    case h_2 => cases hv
    rename_i c0 id b' o' he
    split at hv
    case h_2 => cases hv
    rename_i hob hho
    obtain ⟨rv, hl, h2⟩ := Option.map_eq_some_iff.1 hv
    simp only [Prod.mk.injEq] at h2
    obtain ⟨rfl, rfl⟩ := h2
    simp only [Bool.and_eq_true] at hc
    have hp1 := evalX_TR hR (y := .tmp ad) rfl (by rw [he]; exact hc.1)
    rw [he] at hp1
    obtain ⟨mb, bb, h1, h2, hv⟩ := hp1
    obtain ⟨mb', h1', hor, _⟩ := hR.heap.obj id hob hho
    rw [h1] at h1'
    cases h1'
    have hv' : a.tmps.getD ad undef = .pointer (some ⟨bb, mb.base + (b' + o'), none⟩) := hv
    cases lk with
    | one =>
      obtain ⟨u, hu1, hu2⟩ := ld_one hor h2 hl hc.2
      refine ⟨u, ?_, hu2⟩
      simp only [resM, hv']
      simp [asAddr, loadVar, (lk_one hT hk).1, hu1]
    | many p q =>
      obtain ⟨cs, hcl, hcells, hu2⟩ := ld_many hor h2 hl hc.2
      refine ⟨.agg cs.toArray, ?_, hu2⟩
      have hrun := run_loadCells_list (P := P) w ⟨bb, mb.base + (b' + o'), none⟩ cs (fun j u hj => by rw [addr_add]; exact hcells j u hj)
      rw [hcl] at hrun
      simp only [resM, hv']
      simp [asAddr, loadVar, (lk_many hT hk).1, T_size hT (lk_many hT hk).2, hrun]
theorem resVs_snd (hT : TOK P T) {cmp : Cmp} {ctx : Ctx} {m : MM} {sl : Nat → Option Slot} {hp : Nat → Option HO} {df : List Nat} {a : Act} {w : World} (hR : RelF cmp ctx nt m sl hp df a w) : ∀ {xs : List ResultVar} {ys : List XR}, compRs T xs = some ys → ∀ {c : Bool} {l : List AV}, resVs sl hp ys = some (c, l) → c = true →
    ∃ us, (xs.mapM (resM a.tmps)).run P w = .ok us w ∧ All2 (AR m) l us
  | [], ys, hy, c, l, hv, hc => by
    simp only [compRs, Option.some.injEq] at hy
    subst hy
    simp only [resVs, Option.some.injEq, Prod.mk.injEq] at hv
    obtain ⟨_, rfl⟩ := hv
    exact ⟨[], rfl, trivial⟩
  | x :: xs, ys, hy, c, l, hv, hc => by
    simp only [compRs, Option.bind_eq_some_iff, Option.map_eq_some_iff] at hy
    obtain ⟨y, h1, zs, h2, rfl⟩ := hy
    simp only [resVs] at hv
    split at hv
    case h_2 => cases hv
    rename_i c0 v0 hv0
    split at hv
    case h_2 => cases hv
    rename_i c1 l1 hv1
    simp only [Option.some.injEq, Prod.mk.injEq] at hv
    obtain ⟨rfl, rfl⟩ := hv
    simp only [Bool.and_eq_true] at hc
    obtain ⟨u, g1, g2⟩ := resV1_snd hT hR h1 hv0 hc.1
    obtain ⟨us, g3, g4⟩ := resVs_snd hT hR h2 hv1 hc.2
    refine ⟨u :: us, ?_, g2, g4⟩
    rw [List.mapM_cons, Sem.run_bind]
    rw [g1]
    simp only [Result.andThen_ok, Sem.run_bind]
    rw [g3]
    rfl
theorem resV_snd (hT : TOK P T) {cmp : Cmp} {ctx : Ctx} {m : MM} {sl : Nat → Option Slot} {hp : Nat → Option HO} {df : List Nat} {a : Act} {w : World} (hR : RelF cmp ctx nt m sl hp df a w) {fn : Func} {ys : List XR} (hy : compRs T fn.results.toList = some ys) {c : Bool} {tv : TV} (hv : resV sl hp ys = some (c, tv)) (hc : c = true) :
    ∃ v, (results fn a.tmps).run P w = .ok v w ∧ TR m tv v := by
  have key : ∀ {c : Bool} {l : List AV}, resVs sl hp ys = some (c, l) → c = true → ∃ us, (results fn a.tmps).run P w = .ok (if h : us.size = 1 then us[0] else .tuple us) w ∧ All2 (AR m) l us.toList := by
    intro c l h1 h2
    obtain ⟨us, g1, g2⟩ := resVs_snd hT hR hy h1 h2
    refine ⟨us.toArray, ?_, g2⟩
    rw [results_resM, Sem.run_bind, Array.mapM_eq_mapM_toList, Sem.run_map, g1]
    rfl
  unfold resV at hv
  split at hv
  · rename_i c0 v0 h0
    simp only [Option.some.injEq, Prod.mk.injEq] at hv
    obtain ⟨rfl, rfl⟩ := hv
    obtain ⟨us, g1, g2⟩ := key h0 hc
    have hl : us.size = 1 := by have := All2.length g2; simpa using this
    rw [dif_pos hl] at g1
    refine ⟨_, g1, ?_⟩
    obtain ⟨us⟩ := us
    match us, g2 with
    | [u], g2 => exact g2.1
  · rename_i c0 l0 hne h0
    simp only [Option.some.injEq, Prod.mk.injEq] at hv
    obtain ⟨rfl, rfl⟩ := hv
    obtain ⟨us, g1, g2⟩ := key h0 hc
    have hl : us.size ≠ 1 := by
      intro e
      have := All2.length g2
      rw [Array.length_toList, e] at this
      match l0, this with
      | [v], _ => exact hne v rfl
    rw [dif_neg hl] at g1
    exact ⟨_, g1, us.toList, by simp, g2⟩
  · cases hv
/-- the blocks for deferred calls are shut -/
def leaveH (h : Nat → Option HO) : List Nat → Nat → Option HO
  | [] => h
  | id :: r => leaveH (fun j => if j = id then some ⟨false, .gone⟩ else h j) r
def dfOk (h : Nat → Option HO) : List Nat → Bool
  | [] => true
  | id :: r => (match h id with | some ⟨false, .dfr⟩ => true | _ => false) && dfOk (fun j => if j = id then some ⟨false, .gone⟩ else h j) r
theorem Wr.putObj {w : World} {b : Nat} {o : Obj} : Wr w (w.putObj b o) b :=
  ⟨by simp, fun k hk => World.putObj_heap_other hk, rfl, rfl, rfl⟩
theorem HRel.turn {cmp : Cmp} {ctx : Ctx} {m : MM} {h : Nat → Option HO} {w w' : World} {id : Nat} {ho ho' : HO} {mb : MB} {b : Nat} (hH : HRel cmp ctx m h w) (hid : h id = some ho) (hro : ho.ro = false) (hl : ho.live = true) (hro' : ho'.ro = false)
    (hm : m id = some mb) (hb : mb.b = some b) (hw : Wr w w' b) (hor : OR cmp m mb ho'.o w') : HRel cmp ctx m (fun j => if j = id then some ho' else h j) w' := by
  have hs : Stp cmp m m w w' [(id, ho')] 0 [] := Stp.upd1 hH hm hb hw hor
  have := HRel.step hH hs (by simp [updOk, hid, hro, hl, hro']) rfl
  exact this
theorem leaves_snd {fn : Func} {tmps : Array Value} {R : Ending → World → Prop} {cmp : Cmp} {ctx : Ctx} {m : MM} : ∀ {df : List Nat} {ds : List Deferred} {h : Nat → Option HO} {w : World},
    All2 (fun id d => ∃ mb b, m id = some mb ∧ mb.b = some b ∧ d = ({ target := .collected b, args := #[] } : Deferred)) df ds → dfOk h df = true → HRel cmp ctx m h w →
    (∀ w', HRel cmp ctx m (leaveH h df) w' → ∃ v, (results fn tmps).run P w' = .ok v w' ∧ R (.returned v) w') → LeavesInM (FR none) 0 P fn tmps R ds .returning w
  | [], [], h, w, _, _, hH, hR => hR w hH
  | [], _ :: _, _, _, hd, _, _, _ => hd.elim
  | _ :: _, [], _, _, hd, _, _, _ => hd.elim
  | id :: df, d :: ds, h, w, ⟨⟨mb, b, h1, h2, h3⟩, hd⟩, hk, hH, hR => by
    subst h3
    simp only [dfOk, Bool.and_eq_true] at hk
    obtain ⟨hk1, hk2⟩ := hk
    split at hk1
    case h_2 => cases hk1
    rename_i hid
    obtain ⟨mb', g1, g2, g3, g4⟩ := hH.obj id _ hid
    rw [h1] at g1
    cases g1
    obtain ⟨b', g5, g6⟩ := g2
    rw [h2] at g5
    cases g5
    refine ⟨by simp, .inl ⟨b, _, rfl, run_takeDeferred g6, ?_⟩⟩
    exact leaves_snd hd hk2 (HRel.turn hH hid rfl rfl rfl h1 h2 Wr.putObj trivial) hR
/-- the slots that a function starts with -/
def argSl (l : List AV) (t : Nat) : Option Slot := (l[t]?).map fun v => ⟨true, .av v⟩
theorem argSl_slot {m : MM} {args : List AV} {vals : List Value} (ha : All2 (AR m) args vals) (n : Nat) (t : Nat) (s : Slot) (h : argSl args t = some s) : SlotR m s ((vals.toArray ++ Array.replicate n undef).getD t undef) := by
  unfold argSl at h
  obtain ⟨v, h1, rfl⟩ := Option.map_eq_some_iff.1 h
  obtain ⟨u, h2, h3⟩ := All2.get ha h1
  have : (vals.toArray ++ Array.replicate n undef).getD t undef = u := by
    rw [Array.getD_eq_getD_getElem?, Array.getElem?_append_left (by simpa using (List.getElem?_eq_some_iff.1 h2).1)]
    simp [h2]
  rw [this]
  exact ⟨fun _ => h3, fun h => (by cases h)⟩
/-- a function, by a run of its body -/
theorem callsIn_exec (hT : TOK P T) {f : FuncId} {fn : Func} {x : XFn} (hf : P.funcs[f]? = some fn) (hx : compFn T fn = some x) {args : List AV} {vals : List Value} {S S' : St} {e : XE} {tv : TV} (hlen : args.length ≤ x.nt)
    (hsl : ∀ t s, S.sl.get t = some s → argSl args t = some s) (hdf : S.df = []) (hrun : Exec P T none x.nt kp x.body S e S') (he : e = .n ∨ e = .r) (hd : dfOk S'.hp.get S'.df = true)
    (hres : resV S'.sl.get (leaveH S'.hp.get S'.df) x.res = some (true, tv)) {ctx : Ctx} {m : MM} {w : World} (hH : HRel (compC T) ctx m S.hp.get w) (hargs : All2 (AR m) args vals) {R : Ending → World → Prop}
    (hR : ∀ v w' m', MM.leK kp m m' → TR m' tv v → HRel (compC T) ctx m' (leaveH S'.hp.get S'.df) w' → R (.returned v) w') : CallsIn (FR none) 0 P f vals.toArray w R := by
  unfold compFn at hx
  split at hx
  case h_2 => cases hx
  rename_i b hb
  split at hx
  case h_2 => cases hx
  rename_i c rs hc hrs
  cases hx
  refine callsIn_of_wp_marks hf hb trivial (hrun b hc ctx m _ w _ ⟨fun t s h => argSl_slot hargs _ t s (hsl t s h), ?_, hH, by rw [hdf]; trivial⟩ fun a' w' m' hm hR' => ?_)
  · have := All2.length hargs
    simp [this]
    exact Nat.add_sub_cancel' hlen
  · have key : LeavesInM (FR none) 0 P fn a'.tmps R a'.defers .returning w' := by
      refine leaves_snd hR'.df hd hR'.heap fun w'' hH'' => ?_
      have hR'' : RelF (compC T) ctx fn.ntmps m' S'.sl.get (leaveH S'.hp.get S'.df) [] { a' with defers := [] } w'' := ⟨hR'.slot, hR'.size, hH'', trivial⟩
      obtain ⟨v, g1, g2⟩ := resV_snd hT hR'' hrs hres rfl
      exact ⟨v, g1, hR v w'' m' hm g2 hH''⟩
    rcases he with rfl | rfl
    · exact key
    · exact key
def wbOf (m : MM) (upd : List (Nat × HO)) (b : Nat) : Prop := ∃ u ∈ upd, ∃ mb, m u.1 = some mb ∧ mb.b = some b
/-- the caller's ids and the callee's new ones -/
def subM (m m1 : MM) (N : Nat → Nat) (base n : Nat) : MM := fun id => if base ≤ id ∧ id < base + n then m1 (N (id - base)) else m id
theorem sub_stp {cmp : Cmp} {ctx : Ctx} {m : MM} {h : Nat → Option HO} {w : World} {base : Nat} {upd : List (Nat × HO)} {news : List HO} (hH : HRel cmp ctx m h w) (hfr : ∀ k, k < news.length → h (base + k) = none)
    {m1 : MM} {h1 : Nat → Option HO} {w1 : World} (hH1 : HRel cmp ⟨w, wbOf m upd⟩ m1 h1 w1) {N : Nat → Nat} (hinj : ∀ i j, i < news.length → j < news.length → N i = N j → i = j)
    (hN : ∀ k, k < news.length → ∃ ho, h1 (N k) = some ho ∧ ho.ro = false ∧ ho.live = true)
    (hold : ∀ u ∈ upd, u.2.live = true → ∃ j ho, h1 j = some ho ∧ ho.live = true ∧ m1 j = m u.1 ∧ ∀ k, k < news.length → N k ≠ j)
    (hupd : ∀ u ∈ upd, ∃ mb, m u.1 = some mb ∧ OR cmp (subM m m1 N base news.length) mb u.2.o w1)
    (hnew : ∀ k ho, news[k]? = some ho → ∃ mb, m1 (N k) = some mb ∧ OR cmp (subM m m1 N base news.length) mb ho.o w1) :
    Stp cmp m (subM m m1 N base news.length) w w1 upd base news where
  ext := fun id mb hm => by
    unfold subM
    split
    · rename_i hc
      have := hH.dom id (by have := hfr (id - base) (by omega); rwa [show base + (id - base) = id by omega] at this)
      rw [hm] at this; cases this
    · exact hm
  dom := fun id mb hm => by
    unfold subM at hm
    split at hm
    · rename_i hc; exact .inr hc
    · exact .inl hm
  size := hH1.size
  same := fun b hb hne => hH1.same0 b hb fun ⟨u, hu, mb, h2, h3⟩ => hne u hu mb h2 h3
  os := hH1.os
  tape := hH1.tape
  output := hH1.output
  upd := hupd
  new := fun k ho hk => by
    obtain ⟨mb, g1, g2⟩ := hnew k ho hk
    have hkl : k < news.length := (List.getElem?_eq_some_iff.1 hk).1
    refine ⟨mb, by unfold subM; rw [if_pos (by omega), show base + k - base = k by omega]; exact g1, g2, fun b hb => ?_⟩
    obtain ⟨hoN, q1, q2, q3⟩ := hN k hkl
    obtain ⟨mb', q4, _, q5, q6⟩ := hH1.obj (N k) hoN q1
    rw [g1] at q4
    cases q4
    refine ⟨q5 q3 b hb, ?_⟩
    rcases q6 q2 q3 b hb with q7 | ⟨u, hu, mbu, q8, q9⟩
    · exact .inl q7
    · refine .inr ⟨u, hu, ?_, mbu, q8, q9⟩
      cases hl : u.2.live with
      | false => rfl
      | true =>
        obtain ⟨j, hoj, p1, p2, p3, p4⟩ := hold u hu hl
        exact absurd q9 (hH1.dist (N k) j hoN hoj mb mbu b (p4 k hkl) q1 p1 q2 q3 p2 g1 (by rw [p3]; exact q8) hb)
  ndist := fun k k' mb mb' b hk hk' hne hm hm' hb => by
    unfold subM at hm hm'
    rw [if_pos (by omega), show base + k - base = k by omega] at hm
    rw [if_pos (by omega), show base + k' - base = k' by omega] at hm'
    obtain ⟨ho, q1, q2, q3⟩ := hN k hk
    obtain ⟨ho', q1', _, q3'⟩ := hN k' hk'
    exact hH1.dist (N k) (N k') ho ho' mb mb' b (fun e => hne (hinj k k' hk hk' e)) q1 q1' q2 q3 q3' hm hm' hb
def pjExit : LS → Option XE
  | .ready => some .n
  | .done .ret => some .r
  | .done (.exit id) => some (.x id)
  | .busy => none
noncomputable def rfH (S : St) (ps : List Nat) (asg body : XC) : Sto HO := (S.hp.set S.nx ⟨false, .dfr⟩).set (S.nx + 1) ⟨false, .loop S.sl ps asg body .ready⟩
noncomputable def rfS (S : St) (ps : List Nat) (asg body : XC) (e : Eff) : St :=
  { sl := S.sl, hp := (((rfH S ps asg body).setAll e.upd).setNews (S.nx + 2) e.news).set (S.nx + 1) ⟨false, .gone⟩, nx := S.nx + 2 + e.news.length, df := S.nx :: S.df }
theorem exec_rf (hE : EnvOK P T Γ) {f : XO} {ps : List Nat} {asg body : XC} {S : St} {fid : FuncId} {caps : List Nat} {sp : Spec} {e : Eff} {sl2 : Sto Slot} {ps2 : List Nat} {asg2 body2 : XC} {st : LS} {ex : XE}
    (hf : evalX S.sl.get f = ⟨true, .av (.s (.fn fid caps))⟩) (hn1 : (S.hp.get S.nx).isNone = true) (hn2 : (S.hp.get (S.nx + 1)).isNone = true) (hsp : Γ (.f fid) = some sp)
    (hrun : sp.run (.s (.yield (S.nx + 1)) :: capArgs caps) (rfH S ps asg body).get (S.nx + 2) = some e) (hvc : e.vc = true) (hup : updOk (rfH S ps asg body).get e.upd = true) (hnw : newsOk (rfH S ps asg body).get (S.nx + 2) e.news = true)
    (hl : (((rfH S ps asg body).setAll e.upd).setNews (S.nx + 2) e.news).get (S.nx + 1) = some ⟨false, .loop sl2 ps2 asg2 body2 st⟩) (hex : pjExit st = some ex) :
    Exec P T none nt kp (.rf f ps asg body) S ex (rfS S ps asg body e) := by
  intro code hc ctx m a w Q hR hQ
  have hsh := compC_shape hc
  cases code <;> try exact hsh.elim
  case rangeFunc g qs c1 c2 =>
    obtain ⟨g1, rfl, g2, g3, g4⟩ := hsh
    have hfv := evalX_TR hR g1 (by rw [hf])
    rw [hf] at hfv
    obtain ⟨cvs, hfv, hcaps⟩ := hfv
    have hn1' : S.hp.get S.nx = none := by simpa using hn1
    have hn2' : S.hp.get (S.nx + 1) = none := by simpa using hn2
    -- the two new blocks
    let lo : FuncId → Loop := fun fn => { state := .ready, pending := none, fn, tmps := a.tmps, params := qs, assign := c1, body := c2, defers := w.heap.size }
    let w1 : FuncId → World := fun fn => (w.alloc (.deferred (some []))).alloc (.loop (lo fn))
    let m1 := m.put S.nx ⟨some w.heap.size, 0, 0⟩
    let m2 := m1.put (S.nx + 1) ⟨some (w.heap.size + 1), 0, 0⟩
    have hm0 : m S.nx = none := hR.heap.dom _ hn1'
    have s1 : Stp (compC T) m m1 w (w.alloc (.deferred (some []))) [] S.nx [⟨false, .dfr⟩] :=
      Stp.new1 (obj := .deferred (some [])) hm0 rfl rfl rfl rfl rfl ⟨w.heap.size, rfl, World.alloc_heap_new w _⟩
    have hH1 := HRel.step hR.heap s1 rfl (by simp [newsOk, hn1'])
    have hh1 : newH (upH S.hp.get []) S.nx [⟨false, .dfr⟩] (S.nx + 1) = none := by
      simp only [newH, upH]
      rw [if_neg (by omega)]; exact hn2'
    have hm1 : m1 (S.nx + 1) = none := hH1.dom _ hh1
    have hsz : (w.alloc (.deferred (some []))).heap.size = w.heap.size + 1 := World.size_alloc _ _
    have s2 : ∀ fn, Stp (compC T) m1 m2 (w.alloc (.deferred (some []))) (w1 fn) [] (S.nx + 1) [⟨false, .loop S.sl qs.toList asg body .ready⟩] := by
      intro fn
      refine Stp.new1 (obj := .loop (lo fn)) hm1 (by rw [hsz]) rfl rfl rfl rfl ⟨w.heap.size + 1, lo fn, rfl, ?_, ?_, rfl, ?_, ?_, ?_, rfl, rfl⟩
      · have := World.alloc_heap_new (w.alloc (.deferred (some []))) (.loop (lo fn))
        rwa [hsz] at this
      · exact fun t s hs => (hR.slot t s hs).le (MM.le_trans s1.ext (MM.le_put hm1))
      · intro t ht; show t < a.tmps.size; rw [hR.size]; exact g2 t ht
      · show compC T a.tmps.size c1 = some asg; rw [hR.size]; exact g3
      · show compC T a.tmps.size c2 = some body; rw [hR.size]; exact g4
    have hH2 : ∀ fn, HRel (compC T) ctx m2 (rfH S qs.toList asg body).get (w1 fn) := by
      intro fn
      have := HRel.step hH1 (s2 fn) rfl (by simp [newsOk, hh1])
      have e1 : (rfH S qs.toList asg body).get = newH (upH (newH (upH S.hp.get []) S.nx [⟨false, .dfr⟩]) []) (S.nx + 1) [⟨false, .loop S.sl qs.toList asg body .ready⟩] := by
        funext j
        simp only [rfH, Sto.get_set, newH, upH]
      rw [e1]
      exact this
    have hle2 : m.le m2 := MM.le_trans s1.ext (MM.le_put hm1)
    refine wpIn_rangeFunc fun fn _ => ⟨w.heap.size + 1, _, w1 fn, { target := .fn (.func fid) cvs.toArray, args := #[.func (.yield (w.heap.size + 1)) #[] #[]] }, w1 fn, fid, ((Value.func (.yield (w.heap.size + 1)) #[] #[]) :: cvs).toArray, w1 fn, run_enterLoop_outer fn a.tmps qs c1 c2, ?_, fun _ _ => trivial, ?_, fun h => (by cases h), ?_⟩
    · simp [rangeCall, resolve, hfv, Deferred.ofValue]
      rfl
    · simp [invoke, run_callFunc (hE.B fid sp hsp)]
    · have hargs : All2 (AR m2) (.s (.yield (S.nx + 1)) :: capArgs caps) ((Value.func (.yield (w.heap.size + 1)) #[] #[]) :: cvs) :=
        ⟨⟨_, _, MM.put_same _ _ _, rfl, rfl⟩, (caps_spec hcaps).mono fun _ _ h => h.le hle2⟩
      refine CallsIn.mono (hE.G.1 fid sp hsp ctx m2 _ (w1 fn) _ _ (S.nx + 2) e (hH2 fn) hargs (fun k hk => (newsOk_spec hnw k e.news[k] (by simp [hk])).1) hup hrun hvc) ?_
      rintro en w3 ⟨v, m3, rfl, hv, hs⟩
      have hH3 := HRel.step (hH2 fn) hs hup hnw
      rw [← setAll_get, ← setNews_get] at hH3
      obtain ⟨mbl, k1, ⟨b, lo', k2, k3, k4⟩, _⟩ := hH3.obj _ _ hl
      have hle3 : m.le m3 := MM.le_trans hle2 hs.ext
      have hmb : m3 (S.nx + 1) = some ⟨some (w.heap.size + 1), 0, 0⟩ := hs.ext _ _ (MM.put_same _ _ _)
      rw [hmb] at k1
      cases k1
      cases k2
      have hH4 := HRel.turn (ho' := ⟨false, .gone⟩) hH3 hl rfl rfl rfl hmb rfl (Wr.putObj (o := .loop { lo' with state := .exhausted })) trivial
      have hR4 : RelSt T ctx nt m3 (rfS S qs.toList asg body e) { a with defers := [({ target := .collected w.heap.size, args := #[] } : Deferred)] ++ a.defers } (w3.putObj (w.heap.size + 1) (.loop { lo' with state := .exhausted })) := by
        refine ⟨fun t s h => (hR.slot t s h).le hle3, hR.size, ?_, ⟨⟨_, w.heap.size, hs.ext _ _ ((MM.le_put hm1) _ _ (MM.put_same _ _ _)), rfl, rfl⟩, hR.df.mono fun _ _ ⟨mb, b, q1, q2⟩ => ⟨mb, b, hle3 _ _ q1, q2⟩⟩⟩
        have e2 : (rfS S qs.toList asg body e).hp.get = fun j => if j = S.nx + 1 then some ⟨false, .gone⟩ else (((rfH S qs.toList asg body).setAll e.upd).setNews (S.nx + 2) e.news).get j := by
          funext j
          simp only [rfS, Sto.get_set]
        rw [e2]
        exact hH4
      have hfin := hQ _ _ m3 (hle3.toK kp) hR4
      cases st with
      | busy => cases hex
      | ready =>
        cases hex
        refine ⟨none, _, ?_, hfin⟩
        have := run_endLoop (P := P) k3 (by rw [k4.2.2.2.2.2.1]; simp)
        exact this.trans (congrArg (fun p => Result.ok p _) k4.2.2.2.2.2.2)
      | done j =>
        refine ⟨some (jcode j), w3.putObj (w.heap.size + 1) (.loop { lo' with state := .exhausted }), ?_, ?_⟩
        · have := run_endLoop (P := P) k3 (by rw [k4.2.2.2.2.2.1]; simp)
          exact this.trans (congrArg (fun p => Result.ok p _) k4.2.2.2.2.2.2)
        · cases j with
          | ret => cases hex; exact wpIn_ret hfin
          | exit id => cases hex; exact wpIn_exit hfin
def setPs (sl : Nat → Option Slot) : List Nat → List AV → Nat → Option Slot
  | p :: ps, v :: vs => setPs (fun t => if t = p then some ⟨true, .av v⟩ else sl t) ps vs
  | _, _ => sl
theorem setPs_slot {m : MM} : ∀ {ps : List Nat} {args : List AV} {vals : List Value} {sl : Nat → Option Slot} {tmps : Array Value}, All2 (AR m) args vals → (∀ t ∈ ps, t < tmps.size) → (∀ t s, sl t = some s → SlotR m s (tmps.getD t undef)) →
    (((ps.zip vals).foldl (fun tmps (x : Nat × Value) => tmps.setIfInBounds x.1 x.2) tmps).size = tmps.size) ∧
    ∀ t s, setPs sl ps args t = some s → SlotR m s (((ps.zip vals).foldl (fun tmps (x : Nat × Value) => tmps.setIfInBounds x.1 x.2) tmps).getD t undef)
  | [], _, _, _, _, _, _, h => ⟨by simp, fun t s hs => by simpa using h t s (by simpa [setPs] using hs)⟩
  | _ :: _, [], [], _, _, _, _, h => ⟨by simp, fun t s hs => by simpa using h t s (by simpa [setPs] using hs)⟩
  | _ :: _, [], _ :: _, _, _, ha, _, _ => ha.elim
  | _ :: _, _ :: _, [], _, _, ha, _, _ => ha.elim
  | p :: ps, v :: vs, u :: us, sl, tmps, ⟨h1, h2⟩, hp, h => by
    have := setPs_slot (ps := ps) (sl := fun t => if t = p then some ⟨true, .av v⟩ else sl t) (tmps := tmps.setIfInBounds p u) h2 (fun t ht => by simpa using hp t (by simp [ht])) (fun t s hs => by
      split at hs
      · rename_i e
        subst e
        cases hs
        have : t < tmps.size := hp t (by simp)
        simp [this]
        exact ⟨fun _ => h1, fun h => (by cases h)⟩
      · rename_i e
        have := h t s hs
        simp only [Array.getD_eq_getD_getElem?] at this ⊢
        rwa [Array.getElem?_setIfInBounds_ne (fun e' => e e'.symm)])
    refine ⟨?_, ?_⟩
    · simpa using this.1
    · simpa [setPs] using this.2
/-- how a round leaves its loop -/
def endLS : XE → LS
  | .n => .ready
  | .r => .done .ret
  | .x id => .done (.exit id)
def XE.isN : XE → Bool
  | .n => true
  | _ => false
/-- one round, by runs of the assignment and the body -/
theorem round_exec {id : Nat} {sl : Sto Slot} {ps : List Nat} {asg body : XC} {args : List AV} {vals : List Value} {S S1 S2 : St} {ex : XE} (hkp : id < kp) (hlen : args.length = ps.length)
    (hid : S.hp.get id = some ⟨false, .loop sl ps asg body .ready⟩) (hsl : ∀ t s, S.sl.get t = some s → setPs sl.get ps args t = some s) (hdf : S.df = [])
    (hasg : ∀ l nt, Exec P T (some l) nt kp asg S .n S1) {sl1 : Sto Slot} {ps1 : List Nat} {asg1 body1 : XC} (hid1 : S1.hp.get id = some ⟨false, .loop sl1 ps1 asg1 body1 .ready⟩)
    (hbody : ∀ l nt, Exec P T (some l) nt kp body { S1 with hp := S1.hp.set id ⟨false, .loop sl1 ps1 asg1 body1 .busy⟩ } ex S2) {sl2 : Sto Slot} {ps2 : List Nat} {asg2 body2 : XC} (hid2 : S2.hp.get id = some ⟨false, .loop sl2 ps2 asg2 body2 .busy⟩)
    {ctx : Ctx} {m : MM} {w : World} {mb : MB} {l : Nat} (hH : HRel (compC T) ctx m S.hp.get w) (hm : m id = some mb) (hb : mb.b = some l) (hargs : All2 (AR m) args vals) {R : Ending → World → Prop}
    (hR : ∀ v w' m', MM.leK kp m m' → v = .bool ex.isN → HRel (compC T) ctx m' (S2.hp.set id ⟨false, .loop sl2 ps2 asg2 body2 (endLS ex)⟩).get w' → R (.returned v) w') :
    ∃ f tmps assign body, (Instr.yield l vals.toArray).run P w = .ok (.round l f tmps assign body) w ∧ RoundIn (FR none) 0 P l f tmps assign body w R := by
  obtain ⟨mb', h1, ⟨b, lo, h2, h3, h4, h5, h6, h7, h8, h9, h10⟩, _⟩ := hH.obj _ _ hid
  rw [hm] at h1
  cases h1
  rw [hb] at h2
  cases h2
  have hvl := All2.length hargs
  refine ⟨lo.fn, _, lo.assign, lo.body, run_yield h3 (by rw [h5]; simp [hvl, hlen]), roundIn_of_wpIn trivial ?_⟩
  have hz : (lo.params.zip vals.toArray).foldl (fun tmps (x : Tmp × Value) => tmps.setIfInBounds x.1 x.2) lo.tmps = (ps.zip vals).foldl (fun tmps (x : Nat × Value) => tmps.setIfInBounds x.1 x.2) lo.tmps := by
    rw [h5, ← Array.foldl_toList]
    simp
  obtain ⟨q1, q2⟩ := setPs_slot hargs h6 h4
  rw [← hz] at q1 q2
  refine hasg l lo.tmps.size lo.assign h7 ctx m _ w _ ⟨fun t s h => q2 t s (hsl t s h), q1, hH, by rw [hdf]; trivial⟩ fun a1 w1 m1 hm1 hR1 => ?_
  have hmid : m1 id = some mb := hm1 _ _ hkp hm
  obtain ⟨mb1, g1, ⟨b1, lo1, g2, g3, g4⟩, _⟩ := hR1.heap.obj _ _ hid1
  rw [hmid] at g1
  cases g1
  rw [hb] at g2
  cases g2
  refine ⟨_, run_beginRound g3 g4.2.2.2.2.2.1, ?_⟩
  have hH1 := HRel.turn (ho' := ⟨false, .loop sl1 ps1 asg1 body1 .busy⟩) hR1.heap hid1 rfl rfl rfl hmid hb (Wr.putObj (o := .loop { lo1 with state := .busy }))
    ⟨l, _, hb, World.putObj_heap_same (Array.getElem?_eq_some_iff.1 g3).1, g4.1, g4.2.1, g4.2.2.1, g4.2.2.2.1, g4.2.2.2.2.1, rfl⟩
  refine hbody l lo.tmps.size lo.body h8 ctx m1 a1 _ _ ⟨hR1.slot, hR1.size, ?_, hR1.df⟩ fun a2 w2 m2 hm2 hR2 => ?_
  · have e1 : (S1.hp.set id ⟨false, .loop sl1 ps1 asg1 body1 .busy⟩).get = fun j => if j = id then some ⟨false, .loop sl1 ps1 asg1 body1 .busy⟩ else S1.hp.get j := by
      funext j; rw [Sto.get_set]
    show HRel (compC T) ctx m1 (S1.hp.set id ⟨false, .loop sl1 ps1 asg1 body1 .busy⟩).get _
    rw [e1]
    exact hH1
  · have hmid2 : m2 id = some mb := hm2 _ _ hkp hmid
    obtain ⟨mb2, g1, ⟨b2, lo2, k2, k3, k4⟩, _⟩ := hR2.heap.obj _ _ hid2
    rw [hmid2] at g1
    cases g1
    rw [hb] at k2
    cases k2
    have key : ∀ jump : Option Code, (match endLS ex with | .ready => jump = none | .busy => False | .done j => jump = some (jcode j)) →
        ∃ v w', (Instr.endRound l jump).run P w2 = .ok v w' ∧ R (.returned v) w' := by
      intro jump hj
      refine ⟨_, _, run_endRound jump k3, hR _ _ m2 (hm1.trans hm2) ?_ ?_⟩
      · cases ex <;> simp only [endLS] at hj <;> subst hj <;> rfl
      · have hlt := (Array.getElem?_eq_some_iff.1 k3).1
        have hH2 := HRel.turn (ho' := ⟨false, .loop sl2 ps2 asg2 body2 (endLS ex)⟩) hR2.heap hid2 rfl rfl rfl hmid2 hb (Wr.putObj (o := .loop { lo2 with state := if jump.isNone then .ready else .done, pending := jump }))
          ⟨l, _, hb, World.putObj_heap_same hlt, k4.1, k4.2.1, k4.2.2.1, k4.2.2.2.1, k4.2.2.2.2.1, by
            cases ex <;> simp only [endLS] at hj ⊢ <;> subst hj <;> exact ⟨rfl, rfl⟩⟩
        have e1 : (S2.hp.set id ⟨false, .loop sl2 ps2 asg2 body2 (endLS ex)⟩).get = fun j => if j = id then some ⟨false, .loop sl2 ps2 asg2 body2 (endLS ex)⟩ else S2.hp.get j := by
          funext j; rw [Sto.get_set]
        rw [e1]
        exact hH2
    cases ex with
    | n => exact key none rfl
    | r => exact key (some .ret) rfl
    | x i => exact key (some (.exit i)) rfl
end
end Go.Proofs.Yteekkjfjpoaihaa.Eng

/- Contracts by hand, part 1: a function seen over a small heap of one's own. -/
import Derived.Test.YteekkjfjpoaihaaEw
set_option linter.all false
namespace Go.Proofs.Yteekkjfjpoaihaa.Eng
open Go

/-- objects that are only read, as ids 0, 1, .. -/
def RoView (cmp : Cmp) (m0 : MM) (hs : List HO) (w : World) : Prop :=
  (∀ j ho, hs[j]? = some ho → ho.ro = true ∧ ∃ mb, m0 j = some mb ∧ OR cmp m0 mb ho.o w ∧ ∀ b, mb.b = some b → b < w.heap.size) ∧ ∀ j, hs.length ≤ j → m0 j = none

def slotsOf (args : List AV) : List (Nat × Slot) := args.zipIdx.map fun p => (p.2, ⟨true, .av p.1⟩)
def startSt (args : List AV) (hs : List HO) : St := mkSt (slotsOf args) hs hs.length []

theorem alGet_slots : ∀ (l : List AV) (n t : Nat) (s : Slot), alGet ((l.zipIdx n).map fun p => (p.2, (⟨true, .av p.1⟩ : Slot))) t = some s → n ≤ t ∧ argSl l (t - n) = some s
  | [], n, t, s, h => by simp [alGet_nil] at h
  | x :: l, n, t, s, h => by
    rw [List.zipIdx_cons, List.map_cons, alGet_cons] at h
    by_cases e : n = t
    · subst e
      rw [beqT rfl, cond_true] at h
      exact ⟨Nat.le_refl _, by rw [Nat.sub_self]; exact h⟩
    · rw [beqF e, cond_false] at h
      obtain ⟨h1, h2⟩ := alGet_slots l (n + 1) t s h
      refine ⟨by omega, ?_⟩
      rw [show t - n = (t - (n + 1)) + 1 by omega]
      exact h2

theorem startSt_slot {args : List AV} {hs : List HO} {t : Nat} {s : Slot} (h : (startSt args hs).sl.get t = some s) : argSl args t = some s := by
  have := (alGet_slots args 0 t s h).2
  simpa using this

theorem RoView.hrel {cmp : Cmp} {m0 : MM} {hs : List HO} {w : World} (h : RoView cmp m0 hs w) (args : List AV) : HRel cmp ⟨w, fun _ => False⟩ m0 (startSt args hs).hp.get w where
  obj := fun id ho hid => by
    unfold startSt at hid
    rw [mkSt_hp] at hid
    obtain ⟨h1, mb, h2, h3, h4⟩ := h.1 id ho hid
    exact ⟨mb, h2, h3, fun _ => h4, fun hro => by rw [h1] at hro; cases hro⟩
  dist := fun id id' ho ho' mb mb' b hne hid hid' hro => by
    unfold startSt at hid
    rw [mkSt_hp] at hid
    rw [(h.1 id ho hid).1] at hro; cases hro
  dom := fun id hid => by
    unfold startSt at hid
    rw [mkSt_hp, List.getElem?_eq_none_iff] at hid
    exact h.2 id hid
  os := rfl
  tape := rfl
  output := rfl
  size := Nat.le_refl _
  same0 := fun _ _ _ => rfl

section
variable {P : Program} {T : Tab} {Γ : Cal → Option Spec}

/-- what a run of the function's body over a small heap must show, for a call that turns nothing that was there -/
structure Shown (P : Program) (T : Tab) (x : XFn) (m0 : MM) (hs : List HO) (args0 : List AV) (vals : List Value) (w : World) (val : TV) (news : List HO) (base : Nat) : Prop where
  view : RoView (compC T) m0 hs w
  args : All2 (AR m0) args0 vals
  len : args0.length ≤ x.nt
  run : ∃ (S' : St) (ex : XE) (tv : TV) (N : List Nat), Exec P T none x.nt 0 x.body (startSt args0 hs) ex S' ∧ (ex = .n ∨ ex = .r) ∧ dfOk S'.hp.get S'.df = true ∧ resV S'.sl.get (leaveH S'.hp.get S'.df) x.res = some (true, tv) ∧
    nodupB N = true ∧ (∀ j ∈ tv.ids, j ∈ N) ∧ val = tv.ren (renN N base) ∧ news.length = N.length ∧
    ∀ (k id : Nat), N[k]? = some id → ∃ ho, leaveH S'.hp.get S'.df id = some ho ∧ ho.ro = false ∧ ho.live = true ∧ ho.o.isLoop = false ∧ (∀ j ∈ ho.o.ids, j ∈ N) ∧ news[k]? = some (ho.ren (renN N base))

theorem spec_gen (hT : TOK P T) {f : FuncId} {x : XFn} (hx : FunOK P T f x) {sp : Spec}
    (h : ∀ (ctx : Ctx) (m : MM) (h : Nat → Option HO) (w : World) (args : List AV) (vals : List Value) (base : Nat) (e : Eff), HRel (compC T) ctx m h w → All2 (AR m) args vals → sp.run args h base = some e → e.vc = true →
      e.upd = [] ∧ ∃ m0 hs args0, Shown P T x m0 hs args0 vals w e.val e.news base) : SpecOK P (compC T) f sp := by
  obtain ⟨_, fn, hf, hxf⟩ := hx
  intro ctx m hh w args vals base e hH hargs hfr hup hr hvc
  obtain ⟨hupd, m0, hs, args0, ⟨hview, ha0, hlen, S', ex, tv, N, hrun, hex, hd, hres, hnd, htv, hval, hnl, hN⟩⟩ := h ctx m hh w args vals base e hH hargs hr hvc
  refine callsIn_exec (kp := 0) hT hf hxf hlen (fun t s => startSt_slot) rfl hrun hex hd hres (hview.hrel args0) ha0 fun v w' m1 _ hv hH1 => ?_
  have hnod := nodupB_spec hnd
  let Nf : Nat → Nat := fun k => N.getD k 0
  have hNf : ∀ k, k < N.length → N[k]? = some (Nf k) := fun k hk => by simp [Nf, hk]
  have hren : ∀ j, j ∈ N → subM m m1 Nf base e.news.length (renN N base j) = m1 j := by
    intro j hjN
    obtain ⟨k, k1, k2⟩ := renN_mem (b := base) hjN
    have hk := (List.getElem?_eq_some_iff.1 k1).1
    rw [k2]
    unfold subM
    rw [if_pos (by omega), show base + k - base = k by omega]
    have := hNf k hk
    rw [k1] at this
    cases this
    rfl
  refine ⟨v, subM m m1 Nf base e.news.length, rfl, by rw [hval]; exact hv.ren fun j hj => hren j (htv j hj), ?_⟩
  rw [hupd]
  have hwb : wbOf m ([] : List (Nat × HO)) = fun _ => False := by
    funext b
    refine propext ⟨?_, fun h => h.elim⟩
    rintro ⟨u, hu, _⟩
    cases hu
  refine sub_stp hH hfr (by rw [hwb]; exact hH1) (N := Nf) ?_ ?_ (fun u hu => by cases hu) (fun u hu => by cases hu) ?_
  · intro i j hi hj hij
    have h2 := hNf i (by omega)
    have h3 := hNf j (by omega)
    rw [← hij] at h3
    exact (List.getElem?_inj (by omega) hnod).1 (h2.trans h3.symm)
  · intro k hk
    obtain ⟨ho, q1, q2, q3, _⟩ := hN k _ (hNf k (by omega))
    exact ⟨ho, q1, q2, q3⟩
  · intro k ho hk
    have hkl := (List.getElem?_eq_some_iff.1 hk).1
    obtain ⟨ho', q1, q2, q3, q4, q5, q6⟩ := hN k _ (hNf k (by omega))
    rw [hk] at q6
    cases q6
    obtain ⟨mb, g1, g2, _⟩ := hH1.obj _ _ q1
    exact ⟨mb, g1, g2.ren (fun j hj => hren j (q5 j hj)) fun hl => by rw [q4] at hl; cases hl⟩

/-- a slice, whatever it is in the caller's eyes, as a row that is only read -/
theorem view_slice {cmp : Cmp} {ctx : Ctx} {m : MM} {h : Nat → Option HO} {w : World} {s : AV} {v : Value} {k : IntKind} {sz n : Nat} {q : List Int} {rd : List Nat} (hH : HRel cmp ctx m h w) (hv : AR m s v) (hs : srcOf (.av s) h k sz = some (true, q, n, rd)) :
    ∃ mb : MB, (∀ m', OR cmp m' mb (.xvec k sz q) w) ∧ (∀ b, mb.b = some b → b < w.heap.size) ∧ (∀ (m' : MM) id, m' id = some mb → SR m' (.sl id 0 sz n) v) ∧ q.length = n * sz := by
  cases s with
  | pb pre n f => simp [srcOf] at hs
  | s x =>
  cases x <;> first | (simp [srcOf] at hs; done) | skip
  · simp only [srcOf, Option.some.injEq, Prod.mk.injEq] at hs
    obtain ⟨_, rfl, rfl, _⟩ := hs
    refine ⟨⟨none, 0, 0⟩, fun m' => .inl ⟨rfl, rfl, rfl⟩, fun b hb => (by cases hb), fun m' id hm => ⟨_, hm, Nat.le_refl _, .inl ⟨rfl, hv, rfl, rfl, rfl⟩⟩, by simp⟩
  · rename_i id off sz1 len
    simp only [srcOf] at hs
    split at hs
    case isFalse => cases hs
    rename_i hsz
    subst hsz
    have key : ∀ l : List Int, (∃ mb, m id = some mb ∧ ((mb.b = none ∧ l = [] ∧ mb.cap = 0) ∨ ∃ b, mb.b = some b ∧ b < w.heap.size ∧ ∀ j, j < l.length → w.cell? ⟨b, mb.base + j, none⟩ = some (.int k (l.getD j 0)))) →
        (off + len) * sz1 ≤ l.length → ∃ mb : MB, (∀ m', OR cmp m' mb (.xvec k sz1 ((l.drop (off * sz1)).take (len * sz1))) w) ∧ (∀ b, mb.b = some b → b < w.heap.size) ∧ (∀ (m' : MM) id, m' id = some mb → SR m' (.sl id 0 sz1 len) v) ∧ ((l.drop (off * sz1)).take (len * sz1)).length = len * sz1 := by
      intro l ⟨mb, hmb, hor⟩ hle
      have hlen : ((l.drop (off * sz1)).take (len * sz1)).length = len * sz1 := by
        rw [List.length_take, List.length_drop]
        rw [Nat.add_mul] at hle
        omega
      obtain ⟨mb', hm', hcap, hsr⟩ := hv
      rw [hmb] at hm'
      cases hm'
      rcases hor with ⟨hb, hl, hc⟩ | ⟨b, hb, hlt, hcell⟩
      · rcases hsr with ⟨_, rfl, rfl, rfl, _⟩ | ⟨b, o, hb', _⟩
        · refine ⟨⟨none, 0, 0⟩, fun m' => .inl ⟨rfl, by simp, rfl⟩, fun b hb => (by cases hb), fun m' id hm => ⟨_, hm, Nat.le_refl _, .inl ⟨rfl, rfl, rfl, rfl, rfl⟩⟩, hlen⟩
        · rw [hb] at hb'; cases hb'
      · rcases hsr with ⟨hb', _⟩ | ⟨b', o, hb', rfl, ho⟩
        · rw [hb] at hb'; cases hb'
        · rw [hb] at hb'
          cases hb'
          refine ⟨⟨some b, o, mb.cap - off⟩, fun m' => .inr ⟨b, rfl, fun j hj => ?_⟩, fun b' hb' => (by cases hb'; exact hlt), fun m' id hm => ⟨_, hm, by simp only; omega, .inr ⟨b, o, rfl, by simp, .inr (by simp)⟩⟩, hlen⟩
          rw [hlen] at hj
          have hlp : 0 < len := by
            rcases Nat.eq_zero_or_pos len with h0 | h0
            · subst h0; simp at hj
            · exact h0
          have ho' : o = mb.base + off * sz1 := ho.resolve_left fun ⟨h0, _⟩ => by omega
          subst ho'
          rw [Nat.add_mul] at hle
          have := hcell (off * sz1 + j) (by omega)
          rw [show mb.base + off * sz1 + j = mb.base + (off * sz1 + j) by omega, this]
          congr 2
          simp only [List.getD_eq_getElem?_getD]
          rw [List.getElem?_take_of_lt hj, List.getElem?_drop]
    split at hs
    · rename_i ro ty k' szo l hid
      split at hs
      case isFalse => cases hs
      rename_i hk
      subst hk
      simp only [Option.some.injEq, Prod.mk.injEq, decide_eq_true_eq] at hs
      obtain ⟨hle, rfl, rfl, _⟩ := hs
      obtain ⟨mb, h1, h2, h3, _⟩ := hH.obj id _ hid
      refine key l ⟨mb, h1, ?_⟩ hle
      rcases h2 with h2 | ⟨b, cur, e1, e2, e3, e4, e5, e6⟩
      · exact .inl h2
      · refine .inr ⟨b, e1, h3 rfl b e1, fun j hj => ?_⟩
        rw [e2, Nat.zero_add]
        have := e6 j hj
        simp [World.cell?, e3, this]
    · rename_i ro k' szo l hid
      split at hs
      case isFalse => cases hs
      rename_i hk
      subst hk
      simp only [Option.some.injEq, Prod.mk.injEq, decide_eq_true_eq] at hs
      obtain ⟨hle, rfl, rfl, _⟩ := hs
      obtain ⟨mb, h1, h2, h3, _⟩ := hH.obj id _ hid
      refine key l ⟨mb, h1, ?_⟩ hle
      rcases h2 with h2 | ⟨b, e1, e2⟩
      · exact .inl h2
      · exact .inr ⟨b, e1, h3 rfl b e1, e2⟩
    · cases hs

end
end Go.Proofs.Yteekkjfjpoaihaa.Eng

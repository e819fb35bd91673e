/- The engine, part 14: a step keeps the objects; the state against the frame; one operation with its guard. -/
import Derived.Test.YteekkjfjpoaihaaEm
set_option linter.all false
namespace Go.Proofs.Yteekkjfjpoaihaa.Eng
open Go

def upH : (Nat → Option HO) → List (Nat × HO) → Nat → Option HO
  | h, [] => h
  | h, (i, x) :: r => upH (fun j => if j = i then some x else h j) r
def newH (h : Nat → Option HO) : Nat → List HO → Nat → Option HO
  | _, [] => h
  | b, o :: r => fun j => if j = b then some o else newH h (b + 1) r j

theorem newH_get (h : Nat → Option HO) : ∀ (l : List HO) (b id : Nat), newH h b l id = if b ≤ id ∧ id < b + l.length then l[id - b]? else h id
  | [], b, id => by simp [newH]; omega
  | o :: r, b, id => by
    simp only [newH, List.length_cons]
    by_cases he : id = b
    · subst he
      rw [if_pos rfl, if_pos (by omega)]
      simp
    · rw [if_neg he, newH_get h r (b + 1) id]
      by_cases hc : b + 1 ≤ id ∧ id < b + 1 + r.length
      · rw [if_pos hc, if_pos (by omega)]
        rw [show id - b = (id - (b + 1)) + 1 by omega]
        simp
      · rw [if_neg hc, if_neg (by omega)]

theorem upH_other : ∀ (l : List (Nat × HO)) (h : Nat → Option HO) (id : Nat), (∀ u ∈ l, u.1 ≠ id) → upH h l id = h id
  | [], _, _, _ => rfl
  | (i, x) :: r, h, id, hn => by
    simp only [upH]
    rw [upH_other r _ id (fun u hu => hn u (by simp [hu])), if_neg (fun e => hn (i, x) (by simp) e.symm)]

theorem upH_in : ∀ (l : List (Nat × HO)) (h : Nat → Option HO) (u : Nat × HO), u ∈ l → l.Pairwise (fun a b => a.1 ≠ b.1) → upH h l u.1 = some u.2
  | (i, x) :: r, h, u, hu, hp => by
    simp only [upH]
    rw [List.pairwise_cons] at hp
    rcases List.mem_cons.1 hu with rfl | hu
    · rw [upH_other r _ _ (fun v hv => fun e => hp.1 v hv e.symm)]
      simp
    · exact upH_in r _ u hu hp.2

theorem updOk_spec {h : Nat → Option HO} : ∀ {l : List (Nat × HO)}, updOk h l = true → l.Pairwise (fun a b => a.1 ≠ b.1) ∧ ∀ u ∈ l, ∃ ho, h u.1 = some ho ∧ ho.ro = false ∧ ho.live = true ∧ u.2.ro = false := by
  have one : ∀ u : Nat × HO, ((match h u.1 with | some ho => !ho.ro && ho.live | none => false) && !u.2.ro) = true → ∃ ho, h u.1 = some ho ∧ ho.ro = false ∧ ho.live = true ∧ u.2.ro = false := by
    intro u hu
    cases hh : h u.1 with
    | none => simp [hh] at hu
    | some ho =>
      simp only [hh, Bool.and_eq_true, Bool.not_eq_true'] at hu
      exact ⟨ho, rfl, hu.1.1, hu.1.2, hu.2⟩
  intro l
  induction l with
  | nil => intro _; exact ⟨List.Pairwise.nil, fun u hu => by cases hu⟩
  | cons u r ih =>
    intro hl
    cases r with
    | nil =>
      simp only [updOk] at hl
      exact ⟨List.pairwise_singleton _ _, fun v hv => by simp at hv; subst hv; exact one _ hl⟩
    | cons v r =>
      simp only [updOk, Bool.and_eq_true] at hl
      have h1 : ((match h u.1 with | some ho => !ho.ro && ho.live | none => false) && !u.2.ro) = true := by simp only [Bool.and_eq_true]; exact ⟨hl.1.1.1, hl.1.1.2⟩
      obtain ⟨h3, h4⟩ := ih hl.2
      refine ⟨List.pairwise_cons.2 ⟨fun x hx e => ?_, h3⟩, fun x hx => ?_⟩
      · have := List.all_eq_true.1 hl.1.2 x hx
        rw [← e] at this
        simp at this
      · rcases List.mem_cons.1 hx with rfl | hx
        · exact one _ h1
        · exact h4 x hx

theorem newsOk_spec {h : Nat → Option HO} : ∀ {l : List HO} {b : Nat}, newsOk h b l = true → ∀ k ho, l[k]? = some ho → h (b + k) = none ∧ ho.ro = false
  | [], _, _, k, ho, hk => by simp at hk
  | o :: r, b, hl, k, ho, hk => by
    simp only [newsOk, Bool.and_eq_true, Bool.not_eq_true', Option.isNone_iff_eq_none] at hl
    cases k with
    | zero => simp at hk; subst hk; exact ⟨hl.1.1, hl.1.2⟩
    | succ k =>
      have := newsOk_spec hl.2 k ho (by simpa using hk)
      rw [show b + (k + 1) = b + 1 + k by omega]
      exact this

section
variable {P : Program} {T : Tab} {cmp : Cmp} {r : Option Nat} {Γ : Cal → Option Spec}

theorem HRel.step {ctx : Ctx} {m m' : MM} {h : Nat → Option HO} {w w' : World} {ups : List (Nat × HO)} {base : Nat} {news : List HO} (hH : HRel cmp ctx m h w) (hs : Stp cmp m m' w w' ups base news) (hup : updOk h ups = true) (hnw : newsOk h base news = true) :
    HRel cmp ctx m' (newH (upH h ups) base news) w' := by
  obtain ⟨hpw, hupd⟩ := updOk_spec hup
  have hnew := newsOk_spec hnw
  -- the three kinds
  have kinds : ∀ id ho, newH (upH h ups) base news id = some ho → (∃ k, id = base + k ∧ news[k]? = some ho) ∨ (h id ≠ none ∧ ((∃ u ∈ ups, u.1 = id ∧ u.2 = ho) ∨ ((∀ u ∈ ups, u.1 ≠ id) ∧ h id = some ho))) := by
    intro id ho hid
    rw [newH_get] at hid
    split at hid
    · rename_i hc
      exact .inl ⟨id - base, by omega, hid⟩
    · by_cases hex : ∃ u ∈ ups, u.1 = id
      · obtain ⟨u, hu, rfl⟩ := hex
        rw [upH_in ups h u hu hpw] at hid
        cases hid
        obtain ⟨ho', h1, _⟩ := hupd u hu
        exact .inr ⟨by rw [h1]; simp, .inl ⟨u, hu, rfl, rfl⟩⟩
      · have hno : ∀ u ∈ ups, u.1 ≠ id := fun u hu e => hex ⟨u, hu, e⟩
        rw [upH_other ups h id hno] at hid
        exact .inr ⟨by rw [hid]; simp, .inr ⟨hno, hid⟩⟩
  -- an old id's block
  have old : ∀ id ho, h id = some ho → ∃ mb, m id = some mb ∧ m' id = some mb := by
    intro id ho hid
    obtain ⟨mb, h1, _⟩ := hH.obj id ho hid
    exact ⟨mb, h1, hs.ext id mb h1⟩
  -- a live old id that stays, its block is as it was
  have stays : ∀ id ho mb b, h id = some ho → (∀ u ∈ ups, u.1 ≠ id) → ho.live = true → m id = some mb → mb.b = some b → w'.heap[b]? = w.heap[b]? := by
    intro id ho mb b hid hno hl hm hb
    obtain ⟨mb', h1, _, h2, _⟩ := hH.obj id ho hid
    rw [hm] at h1
    cases h1
    refine hs.same b (h2 hl b hb) fun u hu mbu hmu e => ?_
    obtain ⟨hou, g1, g2, g3, _⟩ := hupd u hu
    exact hH.dist u.1 id hou ho mbu mb b (hno u hu) g1 hid g2 g3 hl hmu hm e hb
  refine ⟨?_, ?_, ?_, hs.os.trans hH.os, hs.tape.trans hH.tape, hs.output.trans hH.output, Nat.le_trans hH.size hs.size, ?_⟩
  · intro id ho hid
    rcases kinds id ho hid with ⟨k, rfl, hk⟩ | ⟨hne, ⟨u, hu, rfl, rfl⟩ | ⟨hno, hid'⟩⟩
    · obtain ⟨mb, h1, h2, h3⟩ := hs.new k ho hk
      refine ⟨mb, h1, h2, fun _ b hb => (h3 b hb).1, fun _ _ b hb => ?_⟩
      rcases (h3 b hb).2 with h4 | ⟨u, hu, _, mbu, h5, h6⟩
      · exact .inl (Nat.le_trans hH.size h4)
      · obtain ⟨hou, g1, g2, g3, _⟩ := hupd u hu
        obtain ⟨mb', q1, _, _, q2⟩ := hH.obj u.1 hou g1
        rw [h5] at q1
        cases q1
        exact q2 g2 g3 b h6
    · obtain ⟨mb, h1, h2⟩ := hs.upd u hu
      obtain ⟨hou, g1, g2, g3, g4⟩ := hupd u hu
      obtain ⟨mb', q1, _, q2, q3⟩ := hH.obj u.1 hou g1
      rw [h1] at q1
      cases q1
      exact ⟨mb, hs.ext _ _ h1, h2, fun _ b hb => Nat.lt_of_lt_of_le (q2 g3 b hb) hs.size, fun _ _ b hb => q3 g2 g3 b hb⟩
    · obtain ⟨mb, h1, h2, h3, h4⟩ := hH.obj id ho hid'
      refine ⟨mb, hs.ext _ _ h1, ?_, fun hl b hb => Nat.lt_of_lt_of_le (h3 hl b hb) hs.size, h4⟩
      cases hl : ho.live with
      | false =>
        have : ho.o = .gone := by
          unfold HO.live at hl
          split at hl
          · assumption
          · cases hl
        rw [this]
        trivial
      | true => exact (OR.block (fun b hb => stays id ho mb b hid' hno hl h1 hb) h2).le hs.ext
  · intro id id' ho ho' mb mb' b hne hid hid' hro hl hl' hm hm' hb
    rcases kinds id ho hid with ⟨k, rfl, hk⟩ | ⟨hne1, hold⟩
    · rcases kinds id' ho' hid' with ⟨k', rfl, hk'⟩ | ⟨hne2, hold'⟩
      · have hlk : k < news.length := (List.getElem?_eq_some_iff.1 hk).1
        have hlk' : k' < news.length := (List.getElem?_eq_some_iff.1 hk').1
        exact hs.ndist k k' mb mb' b hlk hlk' (fun e => hne (by rw [e])) hm hm' hb
      · obtain ⟨mbn, h1, _, h3⟩ := hs.new k ho hk
        rw [hm] at h1
        cases h1
        obtain ⟨ho2, hho2⟩ := Option.ne_none_iff_exists'.1 hne2
        obtain ⟨mbo, g1, g2⟩ := old id' ho2 hho2
        rw [hm'] at g2
        cases g2
        intro hb'
        have live2 : ho2.live = true := by
          rcases hold' with ⟨u, hu, rfl, rfl⟩ | ⟨_, h5⟩
          · obtain ⟨hou, q1, _, q3, _⟩ := hupd u hu
            rw [hho2] at q1
            cases q1
            exact q3
          · rw [hho2] at h5; cases h5; exact hl'
        rcases (h3 b hb).2 with h4 | ⟨u, hu, hul, mbu, h5, h6⟩
        · obtain ⟨_, q1, _, q2, _⟩ := hH.obj id' ho2 hho2
          rw [g1] at q1
          cases q1
          have := q2 live2 b hb'
          omega
        · obtain ⟨hou, q1, q2, q3, _⟩ := hupd u hu
          have hune : u.1 ≠ id' := by
            rintro rfl
            rcases hold' with ⟨u', hu', he, rfl⟩ | ⟨hno, _⟩
            · have e1 := upH_in ups h u hu hpw
              have e2 := upH_in ups h u' hu' hpw
              rw [he] at e2
              rw [e1] at e2
              have he2 : u.2 = u'.2 := Option.some.inj e2
              rw [← he2, hul] at hl'
              cases hl'
            · exact hno u hu rfl
          exact hH.dist u.1 id' hou ho2 mbu mb' b hune q1 hho2 q2 q3 live2 h5 g1 h6 hb'
    · obtain ⟨ho1, hho1⟩ := Option.ne_none_iff_exists'.1 hne1
      obtain ⟨mbo, g1, g2⟩ := old id ho1 hho1
      rw [hm] at g2
      cases g2
      have rw1 : ho1.ro = false ∧ ho1.live = true := by
        rcases hold with ⟨u, hu, rfl, rfl⟩ | ⟨_, h5⟩
        · obtain ⟨hou, q1, q2, q3, _⟩ := hupd u hu
          rw [hho1] at q1
          cases q1
          exact ⟨q2, q3⟩
        · rw [hho1] at h5; cases h5; exact ⟨hro, hl⟩
      rcases kinds id' ho' hid' with ⟨k', rfl, hk'⟩ | ⟨hne2, hold'⟩
      · obtain ⟨mbn, h1, _, h3⟩ := hs.new k' ho' hk'
        rw [hm'] at h1
        cases h1
        intro hb'
        rcases (h3 b hb').2 with h4 | ⟨u, hu, hul, mbu, h5, h6⟩
        · obtain ⟨_, q1, _, q2, _⟩ := hH.obj id ho1 hho1
          rw [g1] at q1
          cases q1
          have := q2 rw1.2 b hb
          omega
        · obtain ⟨hou, q1, q2, q3, _⟩ := hupd u hu
          have hune : u.1 ≠ id := by
            rintro rfl
            rcases hold with ⟨u', hu', he, rfl⟩ | ⟨hno, _⟩
            · have e1 := upH_in ups h u hu hpw
              have e2 := upH_in ups h u' hu' hpw
              rw [he] at e2
              rw [e1] at e2
              have he2 : u.2 = u'.2 := Option.some.inj e2
              rw [← he2, hul] at hl
              cases hl
            · exact hno u hu rfl
          exact hH.dist u.1 id hou ho1 mbu mb b hune q1 hho1 q2 q3 rw1.2 h5 g1 h6 hb
      · obtain ⟨ho2, hho2⟩ := Option.ne_none_iff_exists'.1 hne2
        obtain ⟨mbo', g1', g2'⟩ := old id' ho2 hho2
        rw [hm'] at g2'
        cases g2'
        have live2 : ho2.live = true := by
          rcases hold' with ⟨u, hu, rfl, rfl⟩ | ⟨_, h5⟩
          · obtain ⟨hou, q1, _, q3, _⟩ := hupd u hu
            rw [hho2] at q1
            cases q1
            exact q3
          · rw [hho2] at h5; cases h5; exact hl'
        exact hH.dist id id' ho1 ho2 mb mb' b hne hho1 hho2 rw1.1 rw1.2 live2 g1 g1' hb
  · intro id hid
    have hnr : ¬ (base ≤ id ∧ id < base + news.length) := by
      intro hc
      rw [newH_get, if_pos hc] at hid
      have : id - base < news.length := by omega
      simp [this] at hid
    rw [newH_get, if_neg hnr] at hid
    have hno : ∀ u ∈ ups, u.1 ≠ id := by
      intro u hu e
      subst e
      rw [upH_in ups h u hu hpw] at hid
      cases hid
    rw [upH_other ups h id hno] at hid
    have hm := hH.dom id hid
    cases hm' : m' id with
    | none => rfl
    | some mb =>
      rcases hs.dom id mb hm' with h1 | h1
      · rw [hm] at h1; cases h1
      · exact absurd h1 hnr
  · intro b hb hW
    rw [hs.same b (Nat.lt_of_lt_of_le hb hH.size) fun u hu mbu hmu e => ?_]
    · exact hH.same0 b hb hW
    · obtain ⟨hou, q1, q2, q3, _⟩ := hupd u hu
      obtain ⟨mb, g1, _, _, g2⟩ := hH.obj u.1 hou q1
      rw [hmu] at g1
      cases g1
      rcases g2 q2 q3 b e with h1 | h1
      · omega
      · exact hW h1

end
end Go.Proofs.Yteekkjfjpoaihaa.Eng

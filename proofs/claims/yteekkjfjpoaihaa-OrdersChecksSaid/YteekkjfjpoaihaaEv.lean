/- The engine, part 21: a call in place, a round in place, their specifications. -/
import Derived.Test.YteekkjfjpoaihaaEu
set_option linter.all false
namespace Go.Proofs.Yteekkjfjpoaihaa.Eng
open Go

/-- what can be reached -/
def reachL (h : Nat → Option HO) : Nat → List Nat → List Nat → Option (List Nat)
  | _, [], seen => some seen
  | 0, _ :: _, _ => none
  | k + 1, id :: todo, seen => match seen.any (Nat.beq id) with
    | true => reachL h k todo seen
    | false => match h id with
      | some ho => reachL h k (ho.o.ids ++ todo) (id :: seen)
      | none => none

theorem any_beq {l : List Nat} {id : Nat} : l.any (Nat.beq id) = true ↔ id ∈ l := by
  rw [List.any_eq_true]
  constructor
  · rintro ⟨x, hx, h⟩; rw [Nat.eq_of_beq_eq_true h]; exact hx
  · exact fun h => ⟨id, h, Nat.beq_refl id⟩

theorem reachL_spec {h : Nat → Option HO} : ∀ (k : Nat) (todo seen L : List Nat), reachL h k todo seen = some L →
    (∀ id ∈ seen, ∃ ho, h id = some ho ∧ ∀ j ∈ ho.o.ids, j ∈ seen ∨ j ∈ todo) → seen.Nodup →
    (∀ id ∈ L, ∃ ho, h id = some ho ∧ ∀ j ∈ ho.o.ids, j ∈ L) ∧ (∀ id ∈ todo, id ∈ L) ∧ (∀ id ∈ seen, id ∈ L) ∧ L.Nodup := by
  intro k
  induction k with
  | zero =>
    intro todo seen L hr hi hn
    cases todo with
    | nil =>
      simp only [reachL, Option.some.injEq] at hr
      subst hr
      exact ⟨fun id hid => let ⟨ho, h1, h2⟩ := hi id hid; ⟨ho, h1, fun j hj => (h2 j hj).resolve_right (by simp)⟩, fun _ h => (by cases h), fun _ h => h, hn⟩
    | cons id todo => simp [reachL] at hr
  | succ k ih =>
    intro todo seen L hr hi hn
    cases todo with
    | nil =>
      simp only [reachL, Option.some.injEq] at hr
      subst hr
      exact ⟨fun id hid => let ⟨ho, h1, h2⟩ := hi id hid; ⟨ho, h1, fun j hj => (h2 j hj).resolve_right (by simp)⟩, fun _ h => (by cases h), fun _ h => h, hn⟩
    | cons id todo =>
      simp only [reachL] at hr
      split at hr
      · rename_i hs
        rw [any_beq] at hs
        obtain ⟨h1, h2, h3, h4⟩ := ih todo seen L hr (fun i hm => by
          obtain ⟨ho, q1, q2⟩ := hi i hm
          refine ⟨ho, q1, fun j hj => ?_⟩
          rcases q2 j hj with q | q
          · exact .inl q
          · rcases List.mem_cons.1 q with rfl | q
            · exact .inl hs
            · exact .inr q) hn
        refine ⟨h1, fun i hm => ?_, h3, h4⟩
        rcases List.mem_cons.1 hm with rfl | hm
        · exact h3 _ hs
        · exact h2 i hm
      · rename_i hs
        have hs' : id ∉ seen := fun hm => by rw [any_beq.2 hm] at hs; cases hs
        split at hr
        case h_2 => cases hr
        rename_i ho hho
        obtain ⟨h1, h2, h3, h4⟩ := ih (ho.o.ids ++ todo) (id :: seen) L hr (fun i hm => by
          rcases List.mem_cons.1 hm with rfl | hm
          · exact ⟨ho, hho, fun j hj => .inr (List.mem_append.2 (.inl hj))⟩
          · obtain ⟨ho', q1, q2⟩ := hi i hm
            refine ⟨ho', q1, fun j hj => ?_⟩
            rcases q2 j hj with q | q
            · exact .inl (List.mem_cons_of_mem _ q)
            · rcases List.mem_cons.1 q with rfl | q
              · exact .inl (by simp)
              · exact .inr (List.mem_append.2 (.inr q))) (List.nodup_cons.2 ⟨hs', hn⟩)
        refine ⟨h1, fun i hm => ?_, fun i hm => h3 i (List.mem_cons_of_mem _ hm), h4⟩
        rcases List.mem_cons.1 hm with rfl | hm
        · exact h3 _ (by simp)
        · exact h2 i (List.mem_append.2 (.inr hm))

theorem reachL_congr {h h' : Nat → Option HO} : ∀ (k : Nat) (todo seen L : List Nat), reachL h k todo seen = some L → (∀ id ∈ L, h' id = h id) → (∀ id ∈ seen, id ∈ L) → reachL h' k todo seen = some L := by
  have sub : ∀ (k : Nat) (todo seen L : List Nat), reachL h k todo seen = some L → ∀ id ∈ seen, id ∈ L := by
    intro k
    induction k with
    | zero =>
      intro todo seen L hr
      cases todo with
      | nil => simp only [reachL, Option.some.injEq] at hr; subst hr; exact fun _ h => h
      | cons => simp [reachL] at hr
    | succ k ih =>
      intro todo seen L hr
      cases todo with
      | nil => simp only [reachL, Option.some.injEq] at hr; subst hr; exact fun _ h => h
      | cons id todo =>
        simp only [reachL] at hr
        split at hr
        · exact ih _ _ _ hr
        · split at hr
          · exact fun i hi => ih _ _ _ hr i (List.mem_cons_of_mem _ hi)
          · cases hr
  intro k
  induction k with
  | zero =>
    intro todo seen L hr _ _
    cases todo with
    | nil => exact hr
    | cons => simp [reachL] at hr
  | succ k ih =>
    intro todo seen L hr hh hs
    cases todo with
    | nil => exact hr
    | cons id todo =>
      simp only [reachL] at hr ⊢
      split at hr
      · exact ih _ _ _ hr hh hs
      · split at hr
        case h_2 => cases hr
        rename_i ho hho
        have hid : id ∈ L := sub _ _ _ _ hr id (by simp)
        simp only [hh id hid, hho]
        exact ih _ _ _ hr hh (sub _ _ _ _ hr)

/-- the objects of a list of ids -/
noncomputable def subTr (h : Nat → Option HO) (l : List Nat) : Tr HO := List.rec .nil (fun id _ ih => match h id with
    | some ho => ih.set id ho
    | none => ih) l
theorem subTr_nil (h : Nat → Option HO) : subTr h [] = .nil := rfl
theorem subTr_cons (h : Nat → Option HO) (id : Nat) (r : List Nat) : subTr h (id :: r) = (match h id with
    | some ho => (subTr h r).set id ho
    | none => subTr h r) := rfl

theorem subTr_get {h : Nat → Option HO} : ∀ {L : List Nat} {j : Nat}, (subTr h L).get j = if j ∈ L then h j else none
  | [], j => by simp [subTr_nil, Tr.get_nil]
  | id :: r, j => by
    simp only [subTr_cons]
    cases hid : h id with
    | none =>
      simp only
      rw [subTr_get]
      by_cases hj : j = id
      · subst hj; simp [hid]
      · simp [hj]
    | some ho =>
      simp only
      rw [Tr.get_set, subTr_get]
      by_cases hj : j = id
      · subst hj; simp [hid]
      · simp [hj]

theorem subTr_congr {h h' : Nat → Option HO} : ∀ {L : List Nat}, (∀ id ∈ L, h' id = h id) → subTr h' L = subTr h L
  | [], _ => rfl
  | id :: r, hh => by
    simp only [subTr_cons, hh id (by simp), subTr_congr fun i hi => hh i (List.mem_cons_of_mem _ hi)]

def rwLive (h : Nat → Option HO) (id : Nat) : Bool := match h id with
  | some ho => !ho.ro && ho.live
  | none => false

def renN : List Nat → Nat → Nat → Nat
  | [], _, id => id
  | n :: r, b, id => bif Nat.beq n id then b else renN r (b + 1) id

theorem renN_not : ∀ {N : List Nat} {b id : Nat}, id ∉ N → renN N b id = id
  | [], _, _, _ => rfl
  | n :: r, b, id, h => by
    simp only [renN]
    rw [beqF (fun e => h (by simp [e])), cond_false]
    exact renN_not fun hm => h (List.mem_cons_of_mem _ hm)

theorem renN_mem : ∀ {N : List Nat} {b id : Nat}, id ∈ N → ∃ k, N[k]? = some id ∧ renN N b id = b + k
  | n :: r, b, id, h => by
    simp only [renN]
    by_cases e : n = id
    · subst e
      exact ⟨0, by simp, by simp⟩
    · rw [beqF e, cond_false]
      obtain ⟨k, h1, h2⟩ := renN_mem (b := b + 1) ((List.mem_cons.1 h).resolve_left fun e' => e e'.symm)
      exact ⟨k + 1, by simpa using h1, by rw [h2]; omega⟩

def goneH : HO := ⟨true, .gone⟩

/-- what a call did, told over the caller's ids: its reachable objects, its new ones renamed -/
def finish (L : List Nat) (h h1 : Nat → Option HO) (base : Nat) (tv : TV) : Option Eff :=
  let U := L.filter (rwLive h)
  match reachL h1 10000 (tv.ids ++ U.flatMap fun id => ((h1 id).getD goneH).o.ids) [] with
  | none => none
  | some R =>
    let N := R.filter fun id => !(L.any (Nat.beq id))
    match (U.all fun id => match h1 id with | some ho => !ho.ro && (!ho.o.isLoop || ho.o.ids.all fun j => !(N.any (Nat.beq j))) | none => false) && N.all fun id => match h1 id with | some ho => !ho.ro && ho.live && !ho.o.isLoop | none => false with
    | false => none
    | true => some ⟨true, tv.ren (renN N base), U.map fun id => (id, ((h1 id).getD goneH).ren (renN N base)), N.map fun id => ((h1 id).getD goneH).ren (renN N base), some L⟩

theorem finish_snd {cmp : Cmp} {ctx : Ctx} {m : MM} {h : Nat → Option HO} {w : World} {L : List Nat} {base : Nat} {tv : TV} {e : Eff} (hH : HRel cmp ctx m h w) (hL : ∀ id ∈ L, ∃ ho, h id = some ho ∧ ∀ j ∈ ho.o.ids, j ∈ L) {h1 : Nat → Option HO} (hf : finish L h h1 base tv = some e)
    (hfr : ∀ k, k < e.news.length → h (base + k) = none) {m1 : MM} {w1 : World} (hm1 : ∀ id ∈ L, m1 id = m id) (hH1 : HRel cmp ⟨w, wbOf m ((L.filter (rwLive h)).map fun id => (id, goneH))⟩ m1 h1 w1) {v : Value} (hv : TR m1 tv v) :
    ∃ m', TR m' e.val v ∧ Stp cmp m m' w w1 e.upd base e.news := by
  unfold finish at hf
  simp only at hf
  split at hf
  case h_1 => cases hf
  rename_i R hR
  split at hf
  case h_1 => cases hf
  rename_i hchk
  simp only [Bool.and_eq_true, List.all_eq_true] at hchk
  obtain ⟨hU, hN⟩ := hchk
  cases hf
  generalize hUd : L.filter (rwLive h) = U at *
  generalize hNd : R.filter (fun id => !(L.any (Nat.beq id))) = N at *
  obtain ⟨r1, r2, -, r4⟩ := reachL_spec _ _ _ _ hR (fun _ hm => by cases hm) List.nodup_nil
  have memN : ∀ id, id ∈ N ↔ id ∈ R ∧ id ∉ L := by
    intro id
    rw [← hNd, List.mem_filter]
    simp only [Bool.not_eq_true', ← Bool.not_eq_true, any_beq]
  have memU : ∀ id, id ∈ U → id ∈ L ∧ rwLive h id = true := by
    intro id hm
    rw [← hUd, List.mem_filter] at hm
    exact hm
  have nodN : N.Nodup := by rw [← hNd]; exact r4.filter _
  simp only [List.length_map] at hfr ⊢
  let Nf : Nat → Nat := fun k => N.getD k 0
  have hNf : ∀ k, k < N.length → N[k]? = some (Nf k) := fun k hk => by simp [Nf, hk]
  -- the ids that are reached, in both numberings
  have hren : ∀ j, j ∈ R → subM m m1 Nf base N.length (renN N base j) = m1 j := by
    intro j hj
    by_cases hjN : j ∈ N
    · obtain ⟨k, k1, k2⟩ := renN_mem (b := base) hjN
      have hk := (List.getElem?_eq_some_iff.1 k1).1
      rw [k2]
      unfold subM
      rw [if_pos (by omega), show base + k - base = k by omega]
      have := hNf k hk
      rw [k1] at this
      cases this
      rfl
    · have hjL : j ∈ L := by
        refine Classical.byContradiction fun hn => hjN ((memN j).2 ⟨hj, hn⟩)
      rw [renN_not hjN]
      unfold subM
      split
      · rename_i hc
        have := hfr (j - base) (by omega)
        rw [show base + (j - base) = j by omega] at this
        obtain ⟨ho, h2, _⟩ := hL j hjL
        rw [this] at h2; cases h2
      · exact (hm1 j hjL).symm
  have hrenL : ∀ j, j ∈ L → renN N base j = j := fun j hj => renN_not fun hm => ((memN j).1 hm).2 hj
  have inR : ∀ id, id ∈ N → ∃ ho, h1 id = some ho ∧ ∀ j ∈ ho.o.ids, j ∈ R := fun id hm => r1 id ((memN id).1 hm).1
  refine ⟨subM m m1 Nf base N.length, hv.ren fun j hj => hren j (r2 j (List.mem_append.2 (.inl hj))), ?_⟩
  have hwb : wbOf m (U.map fun id => (id, ((h1 id).getD goneH).ren (renN N base))) = wbOf m (U.map fun id => (id, goneH)) := by
    funext b
    refine propext ⟨?_, ?_⟩
    · rintro ⟨u, hu, mb, g1, g2⟩
      obtain ⟨id, hid, rfl⟩ := List.mem_map.1 hu
      exact ⟨_, List.mem_map.2 ⟨id, hid, rfl⟩, mb, g1, g2⟩
    · rintro ⟨u, hu, mb, g1, g2⟩
      obtain ⟨id, hid, rfl⟩ := List.mem_map.1 hu
      exact ⟨_, List.mem_map.2 ⟨id, hid, rfl⟩, mb, g1, g2⟩
  have key := sub_stp (cmp := cmp) (upd := U.map fun id => (id, ((h1 id).getD goneH).ren (renN N base))) (news := N.map fun id => ((h1 id).getD goneH).ren (renN N base)) (base := base) hH (by simpa using hfr) (m1 := m1) (h1 := h1) (w1 := w1) (by rw [hwb]; exact hH1) (N := Nf)
  simp only [List.length_map] at key
  refine key ?_ ?_ ?_ ?_ ?_
  · intro i j hi hj hij
    have h2 := hNf i hi
    have h3 := hNf j hj
    rw [← hij] at h3
    exact (List.getElem?_inj hi nodN).1 (h2.trans h3.symm)
  · intro k hk
    have hm : Nf k ∈ N := List.mem_of_getElem? (hNf k hk)
    have := hN _ hm
    split at this
    · rename_i ho hho
      simp only [Bool.and_eq_true, Bool.not_eq_true'] at this
      exact ⟨ho, hho, this.1.1, this.1.2⟩
    · cases this
  · intro u hu hul
    obtain ⟨id, hid, rfl⟩ := List.mem_map.1 hu
    have := hU _ hid
    split at this
    case h_2 => cases this
    rename_i ho hho
    refine ⟨id, ho, hho, ?_, hm1 id (memU id hid).1, fun k hk e => ?_⟩
    · simp only [hho, Option.getD_some] at hul
      unfold HO.live HO.ren at hul
      unfold HO.live
      cases hoo : ho.o <;> rw [hoo] at hul <;> first | rfl | (simp [AO.ren] at hul)
    · exact ((memN id).1 (by rw [← e]; exact List.mem_of_getElem? (hNf k hk))).2 (memU id hid).1
  · intro u hu
    obtain ⟨id, hid, rfl⟩ := List.mem_map.1 hu
    have := hU _ hid
    split at this
    case h_2 => cases this
    rename_i ho hho
    simp only [Bool.and_eq_true, Bool.or_eq_true, Bool.not_eq_true'] at this
    obtain ⟨mb, g1, g2, _⟩ := hH1.obj id ho hho
    refine ⟨mb, by rw [← hm1 id (memU id hid).1]; exact g1, ?_⟩
    simp only [hho, Option.getD_some]
    have hids : ∀ j ∈ ho.o.ids, j ∈ R := fun j hj => r2 j (List.mem_append.2 (.inr (List.mem_flatMap.2 ⟨id, hid, by rw [hho]; exact hj⟩)))
    refine g2.ren (fun j hj => hren j (hids j hj)) fun hl j hj => ?_
    rcases this.2 with h3 | h3
    · rw [hl] at h3; cases h3
    · have := List.all_eq_true.1 h3 j hj
      simp only [Bool.not_eq_true', ← Bool.not_eq_true, any_beq] at this
      exact renN_not this
  · intro k ho hk
    rw [List.getElem?_map] at hk
    obtain ⟨id, k1, rfl⟩ := Option.map_eq_some_iff.1 hk
    have hid : id ∈ N := List.mem_of_getElem? k1
    have hkl := (List.getElem?_eq_some_iff.1 k1).1
    have hNk : Nf k = id := by have := hNf k hkl; rw [k1] at this; exact (Option.some.inj this).symm
    have := hN _ hid
    split at this
    case h_2 => cases this
    rename_i ho' hho
    simp only [Bool.and_eq_true, Bool.not_eq_true'] at this
    obtain ⟨mb, g1, g2, _⟩ := hH1.obj id ho' hho
    refine ⟨mb, by rw [hNk]; exact g1, ?_⟩
    simp only [hho, Option.getD_some]
    obtain ⟨ho2, q1, q2⟩ := inR id hid
    rw [hho] at q1
    cases q1
    exact g2.ren (fun j hj => hren j (q2 j hj)) fun hl => by rw [this.2] at hl; cases hl

/-- the objects that a call can reach, on their own -/
theorem HRel.sub {cmp : Cmp} {ctx : Ctx} {m : MM} {h : Nat → Option HO} {w : World} {L : List Nat} (hH : HRel cmp ctx m h w) (hL : ∀ id ∈ L, ∃ ho, h id = some ho ∧ ∀ j ∈ ho.o.ids, j ∈ L) :
    HRel cmp ⟨w, wbOf m ((L.filter (rwLive h)).map fun id => (id, goneH))⟩ (fun id => if id ∈ L then m id else none) (Sto.tr (subTr h L)).get w where
  obj := fun id ho hid => by
    have hid' : (if id ∈ L then h id else none) = some ho := by rw [← subTr_get]; exact hid
    split at hid'
    case isFalse => cases hid'
    rename_i hm
    obtain ⟨mb, h1, h2, h3, h4⟩ := hH.obj id ho hid'
    obtain ⟨ho', q1, q2⟩ := hL id hm
    rw [hid'] at q1
    cases q1
    refine ⟨mb, by simp [hm, h1], h2.sub fun j hj => by simp [q2 j hj], h3, fun hro hl b hb => .inr ⟨(id, goneH), List.mem_map.2 ⟨id, List.mem_filter.2 ⟨hm, by simp [rwLive, hid', hro, hl]⟩, rfl⟩, mb, h1, hb⟩⟩
  dist := fun id id' ho ho' mb mb' b hne hid hid' hro hl hl' hm hm' hb => by
    have h1 : (if id ∈ L then h id else none) = some ho := by rw [← subTr_get]; exact hid
    have h2 : (if id' ∈ L then h id' else none) = some ho' := by rw [← subTr_get]; exact hid'
    split at h1
    case isFalse => cases h1
    split at h2
    case isFalse => cases h2
    rename_i g1 g2
    simp only [g1, g2, if_true] at hm hm'
    exact hH.dist id id' ho ho' mb mb' b hne h1 h2 hro hl hl' hm hm' hb
  dom := fun id hid => by
    have h1 : (if id ∈ L then h id else none) = none := by rw [← subTr_get]; exact hid
    split
    · rename_i hm
      rw [if_pos hm] at h1
      obtain ⟨ho, q1, _⟩ := hL id hm
      rw [h1] at q1; cases q1
    · rfl
  os := rfl
  tape := rfl
  output := rfl
  size := Nat.le_refl _
  same0 := fun _ _ _ => rfl

/-! ### the specifications -/

noncomputable def argTr (l : List AV) : Nat → Tr Slot → Tr Slot := List.rec (fun _ t => t) (fun v _ ih i t => ih (Nat.succ i) (t.set i ⟨true, .av v⟩)) l
theorem argTr_nil (i : Nat) (t : Tr Slot) : argTr [] i t = t := rfl
theorem argTr_cons (v : AV) (r : List AV) (i : Nat) (t : Tr Slot) : argTr (v :: r) i t = argTr r (i + 1) (t.set i ⟨true, .av v⟩) := rfl

theorem argTr_get : ∀ {l : List AV} {i : Nat} {t : Tr Slot} {j : Nat}, (argTr l i t).get j = if i ≤ j ∧ j < i + l.length then argSl l (j - i) else t.get j
  | [], i, t, j => by simp only [argTr_nil, List.length_nil]; rw [if_neg (by omega)]
  | v :: r, i, t, j => by
    simp only [argTr_cons]
    rw [argTr_get, Tr.get_set, List.length_cons]
    by_cases hj : j = i
    · subst hj
      rw [if_neg (by omega), if_pos rfl, if_pos (by omega), Nat.sub_self]
      rfl
    · rw [if_neg hj]
      by_cases hc : i + 1 ≤ j ∧ j < i + 1 + r.length
      · rw [if_pos hc, if_pos (by omega)]
        unfold argSl
        rw [show j - i = (j - (i + 1)) + 1 by omega]
        rfl
      · rw [if_neg hc, if_neg (by omega)]

theorem argTr_slot {l : List AV} {t : Nat} {s : Slot} (h : (Sto.tr (argTr l 0 .nil)).get t = some s) : argSl l t = some s := by
  have : (argTr l 0 .nil).get t = some s := h
  rw [argTr_get] at this
  split at this
  · exact this
  · simp [Tr.get_nil] at this

noncomputable def leaveS (h : Sto HO) : List Nat → Sto HO
  | [] => h
  | id :: r => leaveS (h.set id ⟨false, .gone⟩) r

theorem leaveS_get : ∀ {l : List Nat} {h : Sto HO}, (leaveS h l).get = leaveH h.get l
  | [], _ => rfl
  | id :: r, h => by
    simp only [leaveS, leaveH]
    rw [leaveS_get]
    congr 1
    funext j
    rw [Sto.get_set]

def XE.isX : XE → Bool
  | .x _ => true
  | _ => false

noncomputable def callS (x : XFn) (run : XC → St → Option (XE × St)) : Spec where
  run := fun args h base =>
    match Nat.ble args.length x.nt, reachL h 10000 (args.flatMap AV.ids) [] with
    | true, some L => match run x.body ⟨.tr (argTr args 0 .nil), .tr (subTr h L), base, []⟩ with
      | some (e, S') => match e.isX, dfOk S'.hp.get S'.df with
        | false, true => match resV S'.sl.get (leaveS S'.hp S'.df).get x.res with
          | some (true, tv) => finish L h (leaveS S'.hp S'.df).get base tv
          | _ => none
        | _, _ => none
      | none => none
    | _, _ => none

noncomputable def setPsS (sl : Sto Slot) : List Nat → List AV → Sto Slot
  | p :: ps, v :: vs => setPsS (sl.set p ⟨true, .av v⟩) ps vs
  | _, _ => sl

theorem setPsS_get : ∀ {ps : List Nat} {vs : List AV} {sl : Sto Slot}, (setPsS sl ps vs).get = setPs sl.get ps vs
  | [], _, _ => by simp [setPsS, setPs]
  | _ :: _, [], _ => by simp [setPsS, setPs]
  | p :: ps, v :: vs, sl => by
    simp only [setPsS, setPs]
    rw [setPsS_get]
    congr 1
    funext j
    rw [Sto.get_set]

noncomputable def roundS (run : XC → St → Option (XE × St)) (id : Nat) : Spec where
  run := fun args h base =>
    match h id with
    | some ⟨false, .loop sl ps asg body .ready⟩ =>
      match Nat.beq args.length ps.length, reachL h 10000 (id :: args.flatMap AV.ids) [] with
      | true, some L => match run asg ⟨setPsS sl ps args, .tr (subTr h L), base, []⟩ with
        | some (.n, S1) => match S1.hp.get id with
          | some ⟨false, .loop sl1 ps1 asg1 body1 .ready⟩ => match run body { S1 with hp := S1.hp.set id ⟨false, .loop sl1 ps1 asg1 body1 .busy⟩ } with
            | some (ex, S2) => match S2.hp.get id with
              | some ⟨false, .loop sl2 ps2 asg2 body2 .busy⟩ => finish L h (S2.hp.set id ⟨false, .loop sl2 ps2 asg2 body2 (endLS ex)⟩).get base (B ex.isN)
              | _ => none
            | none => none
          | _ => none
        | _ => none
      | _, _ => none
    | _ => none

theorem finish_rd {L : List Nat} {h h1 : Nat → Option HO} {base : Nat} {tv : TV} {e : Eff} (hf : finish L h h1 base tv = some e) : e.rd = some L ∧ e.vc = true := by
  unfold finish at hf
  simp only at hf
  split at hf
  · cases hf
  · split at hf
    · cases hf
    · cases hf; exact ⟨rfl, rfl⟩

theorem finish_congr {L : List Nat} {h h' h1 : Nat → Option HO} {base : Nat} {tv : TV} (hh : ∀ id ∈ L, h' id = h id) : finish L h' h1 base tv = finish L h h1 base tv := by
  have : L.filter (rwLive h') = L.filter (rwLive h) := List.filter_congr fun id hid => by unfold rwLive; rw [hh id hid]
  unfold finish
  rw [this]

section
variable {P : Program} {T : Tab} {Γ : Cal → Option Spec}

theorem callS_fp {x : XFn} {run : XC → St → Option (XE × St)} : SpecFp (callS x run) := by
  intro args h h' base e hr hf
  simp only [callS] at hr ⊢
  split at hr
  case h_2 => cases hr
  rename_i L hlen hL
  split at hr
  case h_2 => cases hr
  rename_i e0 S' hrun
  split at hr
  case h_2 => cases hr
  rename_i h1 h2
  split at hr
  case h_2 => cases hr
  rename_i tv hres
  obtain ⟨hrd, _⟩ := finish_rd hr
  unfold Fp at hf
  rw [hrd] at hf
  simp only at hf
  rw [reachL_congr _ _ _ _ hL hf (fun _ hm => by cases hm)]
  simp only [hlen, subTr_congr hf, hrun, h1, h2, hres, finish_congr hf]
  exact hr

theorem roundS_fp {run : XC → St → Option (XE × St)} {id : Nat} : SpecFp (roundS run id) := by
  intro args h h' base e hr hf
  simp only [roundS] at hr ⊢
  split at hr
  case h_2 => cases hr
  rename_i sl ps asg body hid
  split at hr
  case h_2 => cases hr
  rename_i L hlen hL
  split at hr
  case h_2 => cases hr
  rename_i S1 hrun1
  split at hr
  case h_2 => cases hr
  rename_i sl1 ps1 asg1 body1 hid1
  split at hr
  case h_2 => cases hr
  rename_i ex S2 hrun2
  split at hr
  case h_2 => cases hr
  rename_i sl2 ps2 asg2 body2 hid2
  obtain ⟨hrd, _⟩ := finish_rd hr
  unfold Fp at hf
  rw [hrd] at hf
  simp only at hf
  have hidL : id ∈ L := (reachL_spec _ _ _ _ hL (fun _ hm => by cases hm) List.nodup_nil).2.1 id (by simp)
  rw [hf id hidL, hid]
  simp only
  rw [reachL_congr _ _ _ _ hL hf (fun _ hm => by cases hm)]
  simp only [hlen, subTr_congr hf, hrun1, hid1, hrun2, hid2, finish_congr hf]
  exact hr

theorem le_sum : ∀ {L : List Nat} {id : Nat}, id ∈ L → id ≤ L.sum
  | x :: L, id, h => by
    rw [List.sum_cons]
    rcases List.mem_cons.1 h with rfl | h
    · omega
    · have := le_sum h; omega

theorem All2.sub {m m' : MM} : ∀ {l : List AV} {vs : List Value}, All2 (AR m) l vs → (∀ j ∈ l.flatMap AV.ids, m' j = m j) → All2 (AR m') l vs
  | [], [], _, _ => trivial
  | [], _ :: _, h, _ => h.elim
  | _ :: _, [], h, _ => h.elim
  | x :: l, v :: vs, ⟨h1, h2⟩, hm => by
    simp only [List.flatMap_cons, List.mem_append] at hm
    refine ⟨?_, h2.sub fun j hj => hm j (.inr hj)⟩
    have := h1.ren (ρ := fun j => j) (fun j hj => hm j (.inl hj))
    rwa [AV.ren_id fun _ _ => rfl] at this

/-- a function of the program, as the small code -/
def FunOK (P : Program) (T : Tab) (f : FuncId) (x : XFn) : Prop := Bodied P f ∧ ∃ fn, P.funcs[f]? = some fn ∧ compFn T fn = some x

theorem callS_ok (hT : TOK P T) {f : FuncId} {x : XFn} (hx : FunOK P T f x) {run : XC → St → Option (XE × St)} (hrun : ∀ c S S' e kp nt, run c S = some (e, S') → Exec P T none nt kp c S e S') : SpecOK P (compC T) f (callS x run) := by
  obtain ⟨_, fn, hf, hxf⟩ := hx
  intro ctx m h w args vals base e hH hargs hfr hup hr hvc
  simp only [callS] at hr
  split at hr
  case h_2 => cases hr
  rename_i L hlen hL
  split at hr
  case h_2 => cases hr
  rename_i e0 S' hrun0
  split at hr
  case h_2 => cases hr
  rename_i h1 h2
  split at hr
  case h_2 => cases hr
  rename_i tv hres
  obtain ⟨hcl, hin, -, -⟩ := reachL_spec _ _ _ _ hL (fun _ hm => by cases hm) List.nodup_nil
  have hsub := HRel.sub hH hcl
  refine callsIn_exec (kp := L.sum + 1) hT hf hxf (by simpa using hlen) (fun t s => argTr_slot) rfl (hrun _ _ _ _ (L.sum + 1) x.nt hrun0) ?_ h2 (by rw [← leaveS_get]; exact hres) hsub (hargs.sub fun j hj => by simp [hin j hj]) ?_
  · cases e0 with
    | n => exact .inl rfl
    | r => exact .inr rfl
    | x i => cases h1
  · intro v w' m1 hk hv hH1
    rw [← leaveS_get] at hH1
    have hm1 : ∀ id ∈ L, m1 id = m id := by
      intro id hid
      obtain ⟨ho, q1, _⟩ := hcl id hid
      obtain ⟨mb, q2, _⟩ := hH.obj id ho q1
      rw [q2]
      exact hk id mb (Nat.lt_succ_of_le (le_sum hid)) (by simp [hid, q2])
    obtain ⟨m', g1, g2⟩ := finish_snd hH hcl hr hfr hm1 hH1 hv
    exact ⟨v, m', rfl, g1, g2⟩

theorem roundS_ok {id : Nat} {run : XC → St → Option (XE × St)} (hrun : ∀ l c S S' e kp nt, run c S = some (e, S') → Exec P T (some l) nt kp c S e S') : YieldOK P (compC T) id (roundS run id) := by
  intro ctx m h w args vals base e l mb hH hm hb hargs hfr hup hr hvc
  simp only [roundS] at hr
  split at hr
  case h_2 => cases hr
  rename_i sl ps asg body hid
  split at hr
  case h_2 => cases hr
  rename_i L hlen hL
  split at hr
  case h_2 => cases hr
  rename_i S1 hrun1
  split at hr
  case h_2 => cases hr
  rename_i sl1 ps1 asg1 body1 hid1
  split at hr
  case h_2 => cases hr
  rename_i ex S2 hrun2
  split at hr
  case h_2 => cases hr
  rename_i sl2 ps2 asg2 body2 hid2
  obtain ⟨hcl, hin, -, -⟩ := reachL_spec _ _ _ _ hL (fun _ hm => by cases hm) List.nodup_nil
  have hsub := HRel.sub hH hcl
  have hidL : id ∈ L := hin id (by simp)
  refine round_exec (kp := L.sum + 1) (S := ⟨setPsS sl ps args, .tr (subTr h L), base, []⟩) (Nat.lt_succ_of_le (le_sum hidL)) (Nat.eq_of_beq_eq_true hlen) ?_ (fun t s hs => by rw [← setPsS_get]; exact hs) rfl (fun l nt => hrun l _ _ _ _ _ nt hrun1) hid1 (fun l nt => hrun l _ _ _ _ _ nt hrun2) hid2 hsub (by simp [hidL, hm]) hb (hargs.sub fun j hj => by simp [hin j (List.mem_cons_of_mem _ hj)]) ?_
  · show (subTr h L).get id = _
    rw [subTr_get, if_pos hidL]
    exact hid
  · intro v w' m1 hk hv hH1
    subst hv
    have hm1 : ∀ id ∈ L, m1 id = m id := by
      intro id hid
      obtain ⟨ho, q1, _⟩ := hcl id hid
      obtain ⟨mb, q2, _⟩ := hH.obj id ho q1
      rw [q2]
      exact hk id mb (Nat.lt_succ_of_le (le_sum hid)) (by simp [hid, q2])
    obtain ⟨m', g1, g2⟩ := finish_snd hH hcl hr hfr hm1 hH1 (tv := B ex.isN) (v := .bool ex.isN) rfl
    exact ⟨_, m', rfl, g1, g2⟩

/-- calls in place, so deep -/
noncomputable def gam (F : FuncId → Option XFn) (Γ0 : FuncId → Option Spec) (K : Nat) : Nat → Cal → Option Spec
  | 0, .f f => Γ0 f
  | 0, .y _ => none
  | k + 1, .f f => match Γ0 f with
    | some sp => some sp
    | none => match F f with
      | some x => some (callS x (crun (gam F Γ0 K k) false K))
      | none => none
  | k + 1, .y id => some (roundS (crun (gam F Γ0 K k) true K) id)

/-- specifications that hold -/
structure SpecsOK (P : Program) (T : Tab) (Γ0 : FuncId → Option Spec) : Prop where
  ok : ∀ f sp, Γ0 f = some sp → SpecOK P (compC T) f sp
  fp : ∀ f sp, Γ0 f = some sp → SpecFp sp
  bod : ∀ f sp, Γ0 f = some sp → Bodied P f

theorem gam_ok (hT : TOK P T) (hQ : EQOK P) (hmix : P.follows .mixedOrders = true) {F : FuncId → Option XFn} (hF : ∀ f x, F f = some x → FunOK P T f x) {Γ0 : FuncId → Option Spec} (h0 : SpecsOK P T Γ0) (K : Nat) : ∀ k, EnvOK P T (gam F Γ0 K k) := by
  intro k
  induction k with
  | zero =>
    refine ⟨hT, hQ, ⟨h0.ok, fun id sp h => (by cases h)⟩, h0.bod, fun c sp h => ?_, hmix⟩
    cases c with
    | f f => exact h0.fp f sp h
    | y id => cases h
  | succ k ih =>
    refine ⟨hT, hQ, ⟨fun f sp h => ?_, fun id sp h => ?_⟩, fun f sp h => ?_, fun c sp h => ?_, hmix⟩
    · simp only [gam] at h
      split at h
      · rename_i h1; cases h; exact h0.ok f _ h1
      · split at h
        · rename_i x hx
          cases h
          exact callS_ok hT (hF f x hx) fun c S S' e kp nt hr => (crun_snd ih (fun _ => rfl) K c S S' e hr).1
        · cases h
    · simp only [gam, Option.some.injEq] at h
      subst h
      exact roundS_ok fun l c S S' e kp nt hr => (crun_snd ih (fun h => by cases h) K c S S' e hr).1
    · simp only [gam] at h
      split at h
      · rename_i h1; cases h; exact h0.bod f _ h1
      · split at h
        · rename_i x hx; exact (hF f x hx).1
        · cases h
    · cases c with
      | f f =>
        simp only [gam] at h
        split at h
        · rename_i h1; cases h; exact h0.fp f _ h1
        · split at h
          · cases h; exact callS_fp
          · cases h
      | y id =>
        simp only [gam, Option.some.injEq] at h
        subst h
        exact roundS_fp

end
end Go.Proofs.Yteekkjfjpoaihaa.Eng

/- A part of the proof of ordersEven_holds. -/
import Derived.Test.YteekkjfjpoaihaaOe17
set_option linter.all false
namespace Go.Proofs.Yteekkjfjpoaihaa.Eng
open Go Go.Proofs
/-- a tree that keeps D where no small number leads -/
def tD (D : Tr HO) : Tr HO := .node none .nil (.node none .nil (.node none .nil (.node none .nil (.node none .nil D))))
/-- the numbers that lead there -/
def dN (x : Nat) : Nat := 62 + 32 * x
theorem tD_in (D : Tr HO) (x : Nat) : (tD D).get (dN x) = D.get x := by
  unfold tD dN
  simp only [Tr.get_node]
  rw [beqF (by omega), cond_false, beqF (by omega), cond_false, beqF (by omega), cond_false, beqF (by omega), cond_false, beqF (by omega), cond_false, beqF (by omega), cond_false, beqF (by omega), cond_false, beqF (by omega), cond_false, beqF (by omega), cond_false, beqF (by omega), cond_false]
  congr 1
  omega
theorem tD_out (D : Tr HO) (j : Nat) (h : ∀ x, j ≠ dN x) : (tD D).get j = none := by
  unfold tD
  simp only [Tr.get_node, Tr.get_nil]
  by_cases h0 : j = 0
  · rw [beqT h0]; rfl
  rw [beqF h0, cond_false]
  by_cases h1 : j % 2 = 1
  · rw [beqT h1]; rfl
  rw [beqF h1, cond_false]
  by_cases h2 : j / 2 - 1 = 0
  · rw [beqT h2]; rfl
  rw [beqF h2, cond_false]
  by_cases h3 : (j / 2 - 1) % 2 = 1
  · rw [beqT h3]; rfl
  rw [beqF h3, cond_false]
  by_cases h4 : (j / 2 - 1) / 2 - 1 = 0
  · rw [beqT h4]; rfl
  rw [beqF h4, cond_false]
  by_cases h5 : ((j / 2 - 1) / 2 - 1) % 2 = 1
  · rw [beqT h5]; rfl
  rw [beqF h5, cond_false]
  by_cases h6 : ((j / 2 - 1) / 2 - 1) / 2 - 1 = 0
  · rw [beqT h6]; rfl
  rw [beqF h6, cond_false]
  by_cases h7 : (((j / 2 - 1) / 2 - 1) / 2 - 1) % 2 = 1
  · rw [beqT h7]; rfl
  rw [beqF h7, cond_false]
  by_cases h8 : (((j / 2 - 1) / 2 - 1) / 2 - 1) / 2 - 1 = 0
  · rw [beqT h8]; rfl
  rw [beqF h8, cond_false]
  by_cases h9 : ((((j / 2 - 1) / 2 - 1) / 2 - 1) / 2 - 1) % 2 = 1
  · rw [beqT h9]; rfl
  exact absurd (show j = dN (((((j / 2 - 1) / 2 - 1) / 2 - 1) / 2 - 1) / 2 - 1) by unfold dN; omega) (h _)
noncomputable def setL (t : Tr HO) (l : List HO) : Tr HO := (List.rec (fun t _ => t) (fun h _ ih t i => ih (t.set i h) (Nat.succ i)) l : Tr HO → Nat → Tr HO) t 0
noncomputable def setLF (l : List HO) : Tr HO → Nat → Tr HO := List.rec (fun t _ => t) (fun h _ ih t i => ih (t.set i h) (Nat.succ i)) l
theorem setLF_get : ∀ (l : List HO) (t : Tr HO) (i j : Nat), (setLF l t i).get j = if i ≤ j ∧ j < i + l.length then l[j - i]? else t.get j
  | [], t, i, j => by
    show t.get j = _
    rw [if_neg (by rintro ⟨h1, h2⟩; simp only [List.length_nil] at h2; omega)]
  | h :: l, t, i, j => by
    show (setLF l (t.set i h) (i + 1)).get j = _
    rw [setLF_get l, Tr.get_set]
    by_cases e : j = i
    · subst e
      rw [if_neg (by omega), if_pos rfl, if_pos (by simp), Nat.sub_self]
      rfl
    · by_cases hb : i + 1 ≤ j ∧ j < i + 1 + l.length
      · rw [if_pos hb, if_pos (by simp; omega), show j - i = (j - (i + 1)) + 1 by omega]
        simp
      · rw [if_neg hb, if_neg e, if_neg (by simp; omega)]
theorem setL_get (t : Tr HO) (l : List HO) (j : Nat) : (setL t l).get j = if j < l.length then l[j]? else t.get j := by
  have := setLF_get l t 0 j
  simp only [Nat.zero_le, true_and, Nat.zero_add, Nat.sub_zero] at this
  exact this
/-- a state with D aside -/
noncomputable def stD (ts : List (Nat × Slot)) (hs : List HO) (nx : Nat) (D : Tr HO) (df : List Nat) : St := ⟨.al ts, .tr (setL (tD D) hs), nx, df⟩
theorem stD_lt {ts : List (Nat × Slot)} {hs : List HO} {nx : Nat} {D : Tr HO} {df : List Nat} {j : Nat} (h : j < hs.length) : (stD ts hs nx D df).hp.get j = hs[j]? := by
  show (setL (tD D) hs).get j = _
  rw [setL_get, if_pos h]
theorem stD_in {ts : List (Nat × Slot)} {hs : List HO} {nx : Nat} {D : Tr HO} {df : List Nat} {x : Nat} (h : hs.length ≤ 62) : (stD ts hs nx D df).hp.get (dN x) = D.get x := by
  show (setL (tD D) hs).get _ = _
  rw [setL_get, if_neg (by unfold dN; omega), tD_in]
theorem stD_out {ts : List (Nat × Slot)} {hs : List HO} {nx : Nat} {D : Tr HO} {df : List Nat} {j : Nat} (h : hs.length ≤ j) (h2 : ∀ x, j ≠ dN x) : (stD ts hs nx D df).hp.get j = none := by
  show (setL (tD D) hs).get _ = _
  rw [setL_get, if_neg (by omega), tD_out D j h2]
theorem all2_maps {α β : Type} {R1 R2 : α → β → Prop} {f g : Nat → α} : ∀ {xs : List Nat} {ds : List β}, All2 R1 (xs.map f) ds → (∀ x ∈ xs, ∀ d, R1 (f x) d → R2 (g x) d) → All2 R2 (xs.map g) ds
  | [], [], _, _ => trivial
  | [], _ :: _, h, _ => h.elim
  | _ :: _, [], h, _ => h.elim
  | x :: xs, d :: ds, ⟨h1, h2⟩, h => ⟨h x (by simp) d h1, all2_maps h2 fun y hy => h y (by simp [hy])⟩
section
variable {P : Program} {T : Tab} {r : Option Nat} {Γ : Cal → Option Spec} {nt kp : Nat}
/-- another view, the store aside told by where its blocks were -/
theorem weak_D {S : St} {ts : List (Nat × Slot)} {hs : List HO} {nx : Nat} {D : Tr HO} {df ids : List Nat} (dm : Nat → Nat) (hok : mkOkG ts hs ids 0 = true) (hl62 : hs.length ≤ 62)
    (hts : ∀ p ∈ ts, S.sl.get p.1 = some ⟨p.2.c, p.2.v.ren fun j => ids.getD j 0⟩) (hhs : ∀ j h, hs[j]? = some h → (h.live = true → S.hp.get (ids.getD j 0) = some (h.ren fun j => ids.getD j 0)) ∧ (h.live = false → (S.hp.get (ids.getD j 0)).isSome = true))
    (hD : ∀ x ho, D.get x = some ho → ho = ⟨false, .dfr⟩ ∧ S.hp.get (dm x) = some ho ∧ (∀ j h, hs[j]? = some h → h.live = true → ids.getD j 0 ≠ dm x)) (hDi : ∀ x y ho ho', D.get x = some ho → D.get y = some ho' → dm x = dm y → x = y)
    (hnl : ∀ (j : Nat) (h : HO), hs[j]? = some h → h.o.isLoop = false) (hdf : ∃ xs : List Nat, df = xs.map dN ∧ S.df = xs.map dm ∧ ∀ x ∈ xs, (D.get x).isSome = true) : Weak T 0 S (stD ts hs nx D df) := by
  intro ctx nt m a w hR
  simp only [mkOkG, Bool.and_eq_true] at hok
  obtain ⟨⟨⟨⟨h1, h2⟩, h3⟩, h4⟩, h5⟩ := hok
  have hlen := Nat.eq_of_beq_eq_true h4
  have hinj : ∀ x y, dN x = dN y → x = y := fun x y h => by unfold dN at h; omega
  have hdl : ∀ x j, j < hs.length → j ≠ dN x := fun x j h e => by unfold dN at e; omega
  let m2 : MM := fun j => if j < hs.length then m (ids.getD j 0) else if j ≥ 62 ∧ (j - 62) % 32 = 0 ∧ (D.get ((j - 62) / 32)).isSome = true then m (dm ((j - 62) / 32)) else none
  have hm2 : ∀ j, j < hs.length → m2 j = m (ids.getD j 0) := fun j hj => by simp only [m2, if_pos hj]
  have hmD : ∀ x, (D.get x).isSome = true → m2 (dN x) = m (dm x) := fun x hx => by
    have e : (dN x - 62) / 32 = x := by unfold dN; omega
    simp only [m2]
    rw [if_neg (by unfold dN; omega), if_pos (by rw [e]; exact ⟨by unfold dN; omega, by unfold dN; omega, hx⟩), e]
  have hdist : ∀ i j hi hj, hs[i]? = some hi → hs[j]? = some hj → hi.live = true → hj.live = true → i ≠ j → ids.getD i 0 ≠ ids.getD j 0 := by
    intro i j hi hj e1 e2 l1 l2 hne he
    have g1 := (List.getElem?_eq_some_iff.1 e1).1
    have g2 := (List.getElem?_eq_some_iff.1 e2).1
    have := List.all_eq_true.1 (List.all_eq_true.1 h3 i (List.mem_range.2 g1)) j (List.mem_range.2 g2)
    simp only [liveAt, e1, e2, l1, l2, Bool.not_true, Bool.false_or, Bool.or_eq_true, Bool.not_eq_true'] at this
    rcases this with h | h
    · exact hne (Nat.eq_of_beq_eq_true h)
    · rw [beqT he] at h; cases h
  -- each object of the new view, where it was
  have hwhere : ∀ id ho, (stD ts hs nx D df).hp.get id = some ho → (id < hs.length ∧ hs[id]? = some ho) ∨ ∃ x, id = dN x ∧ D.get x = some ho := by
    intro id ho hid
    by_cases hl : id < hs.length
    · rw [stD_lt hl] at hid; exact .inl ⟨hl, hid⟩
    · by_cases hx : ∃ x, id = dN x
      · obtain ⟨x, rfl⟩ := hx
        rw [stD_in hl62] at hid
        exact .inr ⟨x, rfl, hid⟩
      · rw [stD_out (by omega) fun x e => hx ⟨x, e⟩] at hid; cases hid
  let oid : Nat → Nat := fun id => if id < hs.length then ids.getD id 0 else dm ((id - 62) / 32)
  have oid1 : ∀ id, id < hs.length → oid id = ids.getD id 0 := fun id h => if_pos h
  have oid2 : ∀ x, oid (dN x) = dm x := fun x => by
    have e : (dN x - 62) / 32 = x := by unfold dN; omega
    show (if dN x < hs.length then _ else _) = _
    rw [if_neg (by unfold dN; omega), e]
  have hold : ∀ id ho, (stD ts hs nx D df).hp.get id = some ho → ho.live = true → ∃ ho', S.hp.get (oid id) = some ho' ∧ ho'.ro = ho.ro ∧ ho'.live = true ∧ m2 id = m (oid id) := by
    intro id ho hid hl
    rcases hwhere id ho hid with ⟨hlt, h⟩ | ⟨x, rfl, h⟩
    · rw [oid1 id hlt]
      exact ⟨_, (hhs id ho h).1 hl, rfl, by rw [HO.live_ren]; exact hl, hm2 id hlt⟩
    · rw [oid2 x]
      obtain ⟨_, g, _⟩ := hD x ho h
      exact ⟨_, g, rfl, hl, hmD x (by rw [h]; rfl)⟩
  refine ⟨m2, fun id mb hid hmb => absurd hid (by omega), fun t s hts' => ?_, hR.size, ?_, ?_⟩
  · have hm := alGet_mem hts'
    have := hts _ hm
    have hs1 := hR.slot t _ this
    refine ⟨fun c => TR.unren (hs1.1 c) fun j hj => hm2 j ?_, hs1.2⟩
    have := List.all_eq_true.1 (List.all_eq_true.1 h1 _ hm) j hj
    exact Nat.le_of_ble_eq_true this
  · refine ⟨fun id ho hid => ?_, fun id id' ho ho' mb mb' b hne hid hid' hro hl hl' hm hm' hb => ?_, fun id hid => ?_, hR.heap.os, hR.heap.tape, hR.heap.output, hR.heap.size, hR.heap.same0⟩
    · rcases hwhere id ho hid with ⟨hlt, h⟩ | ⟨x, rfl, h⟩
      · have hin := List.all_eq_true.1 h2 ho (List.mem_of_getElem? h)
        simp only [Bool.and_eq_true, Bool.or_eq_true, Bool.not_eq_true'] at hin
        cases hlv : ho.live with
        | true =>
          obtain ⟨mb, g1, g2, g3, g4⟩ := hR.heap.obj _ _ ((hhs id ho h).1 hlv)
          exact ⟨mb, by rw [hm2 id hlt]; exact g1, OR.unren g2 (fun j hj => hm2 j (Nat.le_of_ble_eq_true (List.all_eq_true.1 hin.1 j hj))) (hnl id ho h), fun _ => g3 (by rw [HO.live_ren]; exact hlv), fun hro _ => g4 hro (by rw [HO.live_ren]; exact hlv)⟩
        | false =>
          obtain ⟨h', hh'⟩ := Option.isSome_iff_exists.1 ((hhs id ho h).2 hlv)
          obtain ⟨mb, g1, _⟩ := hR.heap.obj _ _ hh'
          refine ⟨mb, by rw [hm2 id hlt]; exact g1, ?_, fun h => by simp at h, fun _ h => by simp at h⟩
          rw [live_gone hlv]
          trivial
      · obtain ⟨e, g, _⟩ := hD x ho h
        obtain ⟨mb, g1, g2, g3, g4⟩ := hR.heap.obj _ _ g
        subst e
        exact ⟨mb, by rw [hmD x (by rw [h]; rfl)]; exact g1, g2, g3, g4⟩
    · obtain ⟨k1, a1, b1, c1, d1⟩ := hold id ho hid hl
      obtain ⟨k2, a2, b2, c2, d2⟩ := hold id' ho' hid' hl'
      refine hR.heap.dist _ _ k1 k2 mb mb' b ?_ a1 a2 (by rw [b1]; exact hro) c1 c2 (by rw [← d1]; exact hm) (by rw [← d2]; exact hm') hb
      rcases hwhere id ho hid with ⟨hlt, h⟩ | ⟨x, rfl, h⟩ <;> rcases hwhere id' ho' hid' with ⟨hlt', h'⟩ | ⟨x', rfl, h'⟩
      · rw [oid1 id hlt, oid1 id' hlt']
        exact hdist id id' ho ho' h h' hl hl' hne
      · rw [oid1 id hlt, oid2]
        exact (hD x' ho' h').2.2 id ho h hl
      · rw [oid2, oid1 id' hlt']
        exact fun e => (hD x ho h).2.2 id' ho' h' hl' e.symm
      · rw [oid2, oid2]
        exact fun e => hne (by rw [hDi x x' ho ho' h h' e])
    · by_cases hl : id < hs.length
      · rw [stD_lt hl] at hid
        simp at hid
        omega
      · simp only [m2, if_neg hl]
        split
        · rename_i hc
          have e : id = dN ((id - 62) / 32) := by unfold dN; omega
          rw [e, stD_in hl62] at hid
          rw [hid] at hc
          simp at hc
        · rfl
  · obtain ⟨xs, rfl, e2, hxs⟩ := hdf
    have := hR.df
    rw [e2] at this
    exact all2_maps this fun x hx d ⟨mb, b, e1, e2⟩ => ⟨mb, b, by rw [hmD x (hxs x hx)]; exact e1, e2⟩
/-- what is aside, as a run leaves it -/
noncomputable def spine (S : Sto HO) : Option (Tr HO) := match S with
  | .tr (.node _ _ (.node _ _ (.node _ _ (.node _ _ (.node _ _ D))))) => some D
  | _ => none
theorem spine_get {S : Sto HO} {D : Tr HO} (h : spine S = some D) (x : Nat) : S.get (dN x) = D.get x := by
  unfold spine at h
  split at h
  case h_2 => cases h
  cases h
  unfold dN
  simp only [Sto.get, Tr.get_node]
  rw [beqF (by omega), cond_false, beqF (by omega), cond_false, beqF (by omega), cond_false, beqF (by omega), cond_false, beqF (by omega), cond_false, beqF (by omega), cond_false, beqF (by omega), cond_false, beqF (by omega), cond_false, beqF (by omega), cond_false, beqF (by omega), cond_false]
  congr 1
  omega
/-- k blocks aside -/
noncomputable def dT (k : Nat) : Tr HO := Nat.rec .nil (fun k ih => ih.set k ⟨false, .dfr⟩) k
theorem dT_succ (k : Nat) : dT (k + 1) = (dT k).set k ⟨false, .dfr⟩ := rfl
theorem dT_get : ∀ (k x : Nat), (dT k).get x = if x < k then some ⟨false, .dfr⟩ else none
  | 0, x => rfl
  | k + 1, x => by
    rw [dT_succ, Tr.get_set, dT_get k]
    by_cases h : x = k
    · subst h
      rw [if_pos rfl, if_pos (by omega)]
    · by_cases h2 : x < k
      · rw [if_neg h, if_pos h2, if_pos (by omega)]
      · rw [if_neg h, if_neg h2, if_neg (by omega)]
def dL (k : Nat) : List Nat := (List.range k).reverse.map dN
theorem dL_succ (k : Nat) : dL (k + 1) = dN k :: dL k := by simp [dL, List.range_succ]
noncomputable def vwD (ts ids : List Nat) (hs : List HO) (q : Option (Bool × XE × St × List Bool)) : Option (XE × (List (Option Slot) × List (Option HO) × List Nat) × Option (Tr HO)) :=
  q.map fun q => (q.2.1, viewG ts ids hs q.2.2.1, spine q.2.2.1.hp)
/-- a run that leaves what is aside alone -/
theorem exec_orunD (hE : EnvOK P T Γ) (inr : Bool) (k : Nat) (os : List Bool) (ids : List Nat) {K : Nat} (hr : inr = false → r = none) {c : XC} {S : St} {e : XE} {ts : List (Nat × Slot)} {hs : List HO} {nx : Nat}
    (hv : vwD (ts.map (·.1)) ids hs (orun Γ inr k c S os) = some (e, (ts.map (fun p => some ⟨p.2.c, p.2.v.ren fun j => ids.getD j 0⟩), hs.map (fun h => some (bif h.live then h.ren fun j => ids.getD j 0 else goneH)), dL K), some (dT K)))
    (hok : mkOkG ts hs ids 0 = true) (hl : Nat.ble hs.length 62 = true) (hid : ids.all (fun j => Nat.blt j 62) = true) (hnl : hs.all (fun h => !h.o.isLoop) = true) (hob : obOf (orun Γ inr k c S os) = true) : Exec P T r nt 0 c S e (stD ts hs nx (dT K) (dL K)) := by
  unfold vwD at hv
  cases ho : orun Γ inr k c S os with
  | none => rw [ho] at hv; cases hv
  | some q =>
    obtain ⟨v, e1, S1, os1⟩ := q
    rw [ho] at hv hob
    simp only [Option.map_some, Option.some.injEq, Prod.mk.injEq, viewG] at hv
    obtain ⟨rfl, ⟨h3, h4, h5⟩, h6⟩ := hv
    have hlen : ids.length = hs.length := by
      simp only [mkOkG, Bool.and_eq_true] at hok
      exact Nat.eq_of_beq_eq_true hok.1.2
    refine (orun_snd hE hr k c S S1 os os1 e1 v ho hob).1.post (weak_D (ids := ids) dN hok (Nat.le_of_ble_eq_true hl) (fun p hp => ?_) (fun j h hj => ?_) (fun x ho hx => ?_) (fun x y _ _ _ _ h => by unfold dN at h; omega) (fun j h hj => ?_) ⟨(List.range K).reverse, rfl, h5, fun x hx => ?_⟩)
    · rw [List.map_map] at h3
      exact List.map_inj_left.1 h3 p hp
    · have hlt : j < hs.length := (List.getElem?_eq_some_iff.1 hj).1
      have e : ids[j]? = some (ids.getD j 0) := by
        have : j < ids.length := by omega
        simp [this]
      have hz : (ids.zip hs)[j]? = some (ids.getD j 0, h) := by
        rw [List.getElem?_zip_eq_some]
        exact ⟨e, hj⟩
      have := congrArg (fun l => l[j]?) h4
      simp only [List.getElem?_map, hz, hj, Option.map_some, Option.some.injEq] at this
      unfold lookH at this
      refine ⟨fun hl => ?_, fun hl => ?_⟩
      · rw [hl, cond_true, cond_true] at this
        exact this
      · rw [hl, cond_false] at this
        cases hg : S1.hp.get (ids.getD j 0) with
        | none => rw [hg] at this; cases this
        | some x => rfl
    · rw [spine_get h6, hx]
      rw [dT_get] at hx
      split at hx
      case isFalse => cases hx
      cases hx
      refine ⟨rfl, rfl, fun j h hj _ he => ?_⟩
      have hlt : j < hs.length := (List.getElem?_eq_some_iff.1 hj).1
      have hm : ids.getD j 0 ∈ ids := by
        have : j < ids.length := by omega
        simp [this]
      have := Nat.le_of_ble_eq_true (List.all_eq_true.1 hid _ hm)
      unfold dN at he
      omega
    · simpa using List.all_eq_true.1 hnl h (List.mem_of_getElem? hj)
    · rw [dT_get, if_pos (by simpa using hx)]
      rfl
end
end Go.Proofs.Yteekkjfjpoaihaa.Eng
namespace Go.Proofs.Yteekkjfjpoaihaa.Eng
open Go Go.Proofs
/-- calls in place of forced alone -/
noncomputable def s88 : Spec := callS x88 (crun g0 false 60)
theorem ok88 : SpecOK PP (compC T) 88 s88 := callS_ok tokP o88 fun c S S' e kp nt hr => (crun_snd env0 (fun _ => rfl) 60 c S S' e hr).1
noncomputable def L8 : List (Nat × Spec) := [(88, s88)]
theorem L8_ok : SpecsL L8 := specsL_cons ok88 callS_fp o88 (fun p hp => absurd hp (by simp))
noncomputable abbrev g8 : Cal → Option Spec := specsΓ L8
theorem env8 : EnvOK PP T g8 := envL L8_ok
abbrev RG (n : Nat) (f : Nat → Bool) : HO := ⟨true, .row 115 [.int .i64 (Int.ofNat n)] 49 f⟩
abbrev slA : List (Nat × Slot) := [(0, g1S 0), (6, g1S 1), (7, g1S 3), (8, g1S 4)]
abbrev HA (n : Nat) (f : Nat → Bool) (s : Sig) (i : Nat) : List HO := [RG n f, ⟨false, .row 78 [.mp 2] 0 ff⟩, ⟨false, .map (.ints 2) (.ints 2) s.1⟩, ⟨false, .row 74 [.sl 5 0 2 s.2.2] 0 ff⟩, ⟨false, .row 3 [.int .i64 i] 0 ff⟩, ⟨false, .ivec 77 .i64 2 s.2.1⟩]
noncomputable abbrev SA (n : Nat) (f : Nat → Bool) (s : Sig) (i k : Nat) : St := stD slA (HA n f s i) 6 (dT k) (dL k)
abbrev HP (n : Nat) (f : Nat → Bool) (s : Sig) (i : Nat) (x y : Int) : List HO := [RG n f, ⟨false, .row 78 [.mp 2] 0 ff⟩, ⟨false, .map (.ints 2) (.ints 2) s.1⟩, ⟨false, .row 74 [.sl 7 0 2 s.2.2] 0 ff⟩, ⟨false, .row 3 [.int .i64 i] 0 ff⟩, ⟨false, .row 64 [.ptr 0 0 0] 0 ff⟩, ⟨false, .row 77 [.int .i64 x, .int .i64 y] 0 ff⟩, ⟨false, .ivec 77 .i64 2 s.2.1⟩]
noncomputable abbrev SP (n : Nat) (f : Nat → Bool) (s : Sig) (i k : Nat) (x y : Int) : St := stD slR (HP n f s i x y) 8 (dT k) (dL k)
theorem e54a {n : Nat} {f : Nat → Bool} {s : Sig} {i k : Nat} (hi : i < s.2.2) : Exec PP T none x54.nt 0 L54.a (SA n f s i k) .n (SA n f s i k) := by
  refine exec_orunD env0 false 60 [true] [0, 1, 2, 3, 4, 5] (fun _ => rfl) (by kernel_rfl) (by kernel_rfl) (by kernel_rfl) (by kernel_rfl) (by kernel_rfl) ?_
  rw [(show obOf (orun g0 false 60 L54.a (SA n f s i k) [true]) = (decide (Int.ofNat i < Int.ofNat s.snd.2) && true) from by kernel_rfl)]
  simp
  omega
theorem e54x {n : Nat} {f : Nat → Bool} {s : Sig} {i k : Nat} (hi : ¬ i < s.2.2) : Exec PP T none x54.nt 0 L54.a (SA n f s i k) (.x 0) (SA n f s i k) := by
  refine exec_orunD env0 false 60 [false] [0, 1, 2, 3, 4, 5] (fun _ => rfl) (by kernel_rfl) (by kernel_rfl) (by kernel_rfl) (by kernel_rfl) (by kernel_rfl) ?_
  rw [(show obOf (orun g0 false 60 L54.a (SA n f s i k) [false]) = (!decide (Int.ofNat i < Int.ofNat s.snd.2) && true) from by kernel_rfl)]
  simp
  omega
theorem e54b {n : Nat} {f : Nat → Bool} {s : Sig} {i k : Nat} (hs : okSig s i 900) : Exec PP T none x54.nt 0 L54.b.a.i.a (SA n f s i k) .n (SP n f s i k (s.2.1.getD (0 + (0 + i) * 2 + 0) 0) (s.2.1.getD (0 + (0 + i) * 2 + 0 + 1) 0)) := by
  refine exec_orunD env8 false 60 [] [0, 1, 2, 3, 4, 6, 7, 5] (fun _ => rfl) (by kernel_rfl) (by kernel_rfl) (by kernel_rfl) (by kernel_rfl) (by kernel_rfl) ?_
  rw [(show obOf (orun g8 false 60 L54.b.a.i.a (SA n f s i k) []) = (decide (0 ≤ Int.ofNat i) && decide (Int.ofNat i < Int.ofNat s.snd.2) && (decide (((0 + (0 + i) * 2).add 0).succ.succ ≤ s.snd.1.length) && true)) from by kernel_rfl)]
  simp
  have := hs.1
  have := hs.2.1
  omega
theorem e54d {n : Nat} {f : Nat → Bool} {s : Sig} {i k : Nat} (hi : i < 1000) : Exec PP T none x54.nt 0 L54.b.b (SA n f s i k) .n (SA n f s (i + 1) k) := by
  refine exec_orunD env0 false 60 [] [0, 1, 2, 3, 6, 5] (fun _ => rfl) (by kernel_rfl) (by kernel_rfl) (by kernel_rfl) (by kernel_rfl) (by kernel_rfl) ?_
  rw [(show obOf (orun g0 false 60 L54.b.b (SA n f s i k) []) = (rng64 (Int.ofNat i.succ) && true) from by kernel_rfl)]
  simp [rng64]
  omega
end Go.Proofs.Yteekkjfjpoaihaa.Eng
namespace Go.Proofs.Yteekkjfjpoaihaa.Eng
open Go Go.Proofs
theorem F54_eq : F54 = .rf (.t 29) [30] a54 b54 := by kernel_rfl
abbrev lpR : HO := ⟨false, .loop (.al slR) [30] a54 b54 .ready⟩
/-- the objects that forced sees at its start -/
abbrev HQ (n : Nat) (f : Nat → Bool) (s : Sig) (i : Nat) (x y : Int) : List HO := [RG n f, ⟨true, .row 78 [.mp 2] 0 ff⟩, ⟨false, .map (.ints 2) (.ints 2) s.1⟩, ⟨false, .row 74 [.sl 7 0 2 s.2.2] 0 ff⟩, ⟨true, .row 3 [.int .i64 i] 0 ff⟩, ⟨true, .row 64 [.ptr 0 0 0] 0 ff⟩, ⟨true, .row 77 [.int .i64 x, .int .i64 y] 0 ff⟩, ⟨false, .ivec 77 .i64 2 s.2.1⟩, ⟨true, .dfr⟩, lpR]
abbrev AQ : List AV := [.s (.yield 9), .s (.ptr 6 0 0), .s (.ptr 5 0 0)]
abbrev updQ (s' : Sig) : List (Nat × HO) := [(9, lpR), (2, ⟨false, .map (.ints 2) (.ints 2) s'.1⟩), (3, ⟨false, .row 74 [.sl 10 0 2 s'.2.2] 0 ff⟩), (7, ⟨false, .gone⟩)]
noncomputable abbrev HF (n : Nat) (f : Nat → Bool) (s : Sig) (i k : Nat) (x y : Int) : Sto HO := rfH (SP n f s i k x y) [30] a54 b54
noncomputable abbrev spQ (n : Nat) (f : Nat → Bool) (s : Sig) (i k : Nat) (x y : Nat) : Spec := spAt AQ (HF n f s i k (Int.ofNat x) (Int.ofNat y)).get 10 (.tup []) (updQ (forcedS f i x y s n)) [⟨false, .ivec 77 .i64 2 (forcedS f i x y s n).2.1⟩]
theorem HYr_ids {n : Int} {f : Nat → Bool} {E : List (CV × CV)} {q : List Int} {m i : Nat} {a b : Int} : ∀ (j : Nat) (o : HO), (HYr n f E q m i a b .ready)[j]? = some o → ∀ i ∈ o.o.ids, i < 11 := fun j o hj i hi => by
  match j, hj with
  | 0, hj => cases hj; simp [AO.ids, SV.ids] at hi
  | 1, hj => cases hj; simp [AO.ids, SV.ids] at hi; omega
  | 2, hj => cases hj; simp [AO.ids, SV.ids] at hi
  | 3, hj => cases hj; simp [AO.ids, SV.ids] at hi; omega
  | 4, hj => cases hj; simp [AO.ids, SV.ids] at hi
  | 5, hj => cases hj; simp [AO.ids, SV.ids] at hi; omega
  | 6, hj => cases hj; simp [AO.ids, SV.ids] at hi
  | 7, hj => cases hj; simp [AO.ids, SV.ids] at hi
  | 8, hj => cases hj; simp [AO.ids, SV.ids] at hi
  | 9, hj =>
    cases hj
    have : i = 0 ∨ i = 1 ∨ i = 3 ∨ i = 4 ∨ i = 6 ∨ i = 5 := by simpa [AO.ids, Sto.vals, TV.ids, AV.ids, SV.ids] using hi
    omega
  | 10, hj => cases hj; simp [AO.ids, SV.ids] at hi
  | j + 11, hj => simp at hj
theorem atOK_Q {n : Nat} {f : Nat → Bool} {s s' : Sig} {i k x y : Nat} : AtOK (HF n f s i k (Int.ofNat x) (Int.ofNat y)).get (mkSt [] (HQ n f s i (Int.ofNat x) (Int.ofNat y)) 10 []).hp 10 10 (updQ s') [⟨false, .ivec 77 .i64 2 s'.2.1⟩] (HS n f s' i x y) where
  start := fun j o hj => by
    rw [mkSt_hp] at hj
    match j, hj with
    | 0, hj => cases hj; exact ⟨RG n f, by kernel_rfl, rfl, fun h => by cases h⟩
    | 1, hj => cases hj; exact ⟨⟨false, .row 78 [.mp 2] 0 ff⟩, by kernel_rfl, rfl, fun h => by cases h⟩
    | 2, hj => cases hj; exact ⟨⟨false, .map (.ints 2) (.ints 2) s.1⟩, by kernel_rfl, rfl, fun _ => ⟨rfl, fun _ => ⟨_, .tail _ (.head _), rfl⟩⟩⟩
    | 3, hj => cases hj; exact ⟨⟨false, .row 74 [.sl 7 0 2 s.2.2] 0 ff⟩, by kernel_rfl, rfl, fun _ => ⟨rfl, fun _ => ⟨_, .tail _ (.tail _ (.head _)), rfl⟩⟩⟩
    | 4, hj => cases hj; exact ⟨⟨false, .row 3 [.int .i64 i] 0 ff⟩, by kernel_rfl, rfl, fun h => by cases h⟩
    | 5, hj => cases hj; exact ⟨⟨false, .row 64 [.ptr 0 0 0] 0 ff⟩, by kernel_rfl, rfl, fun h => by cases h⟩
    | 6, hj => cases hj; exact ⟨⟨false, .row 77 [.int .i64 (Int.ofNat x), .int .i64 (Int.ofNat y)] 0 ff⟩, by kernel_rfl, rfl, fun h => by cases h⟩
    | 7, hj => cases hj; exact ⟨⟨false, .ivec 77 .i64 2 s.2.1⟩, by kernel_rfl, rfl, fun _ => ⟨rfl, fun _ => ⟨_, .tail _ (.tail _ (.tail _ (.head _))), rfl⟩⟩⟩
    | 8, hj => cases hj; exact ⟨⟨false, .dfr⟩, by kernel_rfl, rfl, fun h => by cases h⟩
    | 9, hj => cases hj; exact ⟨lpR, by kernel_rfl, rfl, fun _ => ⟨rfl, fun _ => ⟨_, .head _, rfl⟩⟩⟩
    | j + 10, hj => simp at hj
  keep := fun j hj => by
    rw [mkSt_hp]
    simp
    omega
  len := rfl
  new := rfl
  news_eq := rfl
  upd_eq := fun u hu => by
    simp only [List.mem_cons, List.not_mem_nil, or_false] at hu
    rcases hu with rfl | rfl | rfl | rfl
    · exact .inr ⟨(by show 9 < 10; omega), _, rfl, rfl, rfl, fun _ j hj => by
        have : j = 0 ∨ j = 1 ∨ j = 3 ∨ j = 4 ∨ j = 6 ∨ j = 5 := by simpa [AO.ids, Sto.vals, TV.ids, AV.ids, SV.ids] using hj
        omega⟩
    · exact .inr ⟨(by show 2 < 10; omega), _, rfl, rfl, rfl, fun h => by cases h⟩
    · exact .inr ⟨(by show 3 < 10; omega), _, rfl, rfl, rfl, fun h => by cases h⟩
    · exact .inl ⟨rfl, rfl⟩
  ids := HYr_ids
theorem ok_Q {n : Nat} {f : Nat → Bool} {s : Sig} {i k x y : Nat} (hs : okSig s i 900) (hx : x < 7) (hy : y < 7) (hn : n ≤ 7) : SpecOK PP (compC T) 109 (spQ n f s i k x y) := by
  refine spec_at (S := (mkSt [] (HQ n f s i (Int.ofNat x) (Int.ofNat y)) 10 []).hp) (K := 10) (ts := slC n n) (nx := 11) (ex := .n) o109 atOK_Q (fun j o hj i hi => ?_) (fun i hi => ?_) (by kernel_rfl) (Exec.pre (weak_viewG (ids := [0, 1, 2, 3, 4, 5, 6, 7, 8, 9, 7]) (by kernel_rfl) (by kernel_rfl) (by kernel_rfl)) (body109 hs hx hy hn)) (.inl rfl) (by kernel_rfl)
  · rw [mkSt_hp] at hj ⊢
    have : i < 10 := by
      match j, hj with
      | 0, hj => cases hj; simp [AO.ids, SV.ids] at hi
      | 1, hj => cases hj; simp [AO.ids, SV.ids] at hi; omega
      | 2, hj => cases hj; simp [AO.ids, SV.ids] at hi
      | 3, hj => cases hj; simp [AO.ids, SV.ids] at hi; omega
      | 4, hj => cases hj; simp [AO.ids, SV.ids] at hi
      | 5, hj => cases hj; simp [AO.ids, SV.ids] at hi; omega
      | 6, hj => cases hj; simp [AO.ids, SV.ids] at hi
      | 7, hj => cases hj; simp [AO.ids, SV.ids] at hi
      | 8, hj => cases hj; simp [AO.ids, SV.ids] at hi
      | 9, hj =>
        cases hj
        have : i = 0 ∨ i = 1 ∨ i = 3 ∨ i = 4 ∨ i = 6 ∨ i = 5 := by simpa [AO.ids, Sto.vals, TV.ids, AV.ids, SV.ids] using hi
        omega
      | j + 10, hj => simp at hj
    simp
    omega
  · rw [mkSt_hp]
    have : i = 9 ∨ i = 6 ∨ i = 5 := by simpa [AV.ids, SV.ids] using hi
    simp
    omega
noncomputable abbrev eQ (n : Nat) (f : Nat → Bool) (s : Sig) (i k x y : Nat) : Eff := ⟨atB AQ AQ (HF n f s i k (Int.ofNat x) (Int.ofNat y)).get (HF n f s i k (Int.ofNat x) (Int.ofNat y)).get 10 10, .tup [], updQ (forcedS f i x y s n), [⟨false, .ivec 77 .i64 2 (forcedS f i x y s n).2.1⟩], none⟩
theorem e54r {n : Nat} {f : Nat → Bool} {s : Sig} {i k x y : Nat} (hs : okSig s i 900) (hx : x < 7) (hy : y < 7) (hn : n ≤ 7) : Exec PP T none x54.nt 0 F54 (SP n f s i k (Int.ofNat x) (Int.ofNat y)) .n (SA n f (forcedS f i x y s n) i (k + 1)) := by
  rw [F54_eq]
  have hE : EnvOK PP T (specsΓ [(109, spQ n f s i k x y)]) := envL (specsL_cons (ok_Q hs hx hy hn) spAt_fp o109 (fun p hp => absurd hp (by simp)))
  have key := exec_rf (nt := x54.nt) (kp := 0) hE (f := .t 29) (ps := [30]) (asg := a54) (body := b54) (S := SP n f s i k (Int.ofNat x) (Int.ofNat y)) (fid := 109) (caps := [6, 5]) (sp := spQ n f s i k x y) (e := eQ n f s i k x y) (sl2 := .al slR) (ps2 := [30]) (asg2 := a54) (body2 := b54) (st := .ready) (ex := .n)
    (by kernel_rfl) (by kernel_rfl) (by kernel_rfl) (by kernel_rfl) rfl (atB_t rfl rfl rfl) (by kernel_rfl) (by kernel_rfl) (by kernel_rfl) rfl
  have hsp : spine (rfS (SP n f s i k (Int.ofNat x) (Int.ofNat y)) [30] a54 b54 (eQ n f s i k x y)).hp = some (dT k) := by kernel_rfl
  refine key.post (weak_D (ids := [0, 1, 2, 3, 4, 10]) (fun z => if z = k then 8 else dN z) (by kernel_rfl) (by simp) (fun p hp => ?_) (fun j h hj => ?_) (fun z ho hz => ?_) (fun z z' _ _ _ _ h => ?_) (fun j h hj => ?_) ⟨k :: (List.range k).reverse, ?_, ?_, fun z hz => ?_⟩)
  · simp only [List.mem_cons, List.not_mem_nil, or_false] at hp
    rcases hp with rfl | rfl | rfl | rfl <;> kernel_rfl
  · match j, hj with
    | 0, hj => cases hj; exact ⟨fun _ => by kernel_rfl, fun h => by cases h⟩
    | 1, hj => cases hj; exact ⟨fun _ => by kernel_rfl, fun h => by cases h⟩
    | 2, hj => cases hj; exact ⟨fun _ => by kernel_rfl, fun h => by cases h⟩
    | 3, hj => cases hj; exact ⟨fun _ => by kernel_rfl, fun h => by cases h⟩
    | 4, hj => cases hj; exact ⟨fun _ => by kernel_rfl, fun h => by cases h⟩
    | 5, hj => cases hj; exact ⟨fun _ => by kernel_rfl, fun h => by cases h⟩
    | j + 6, hj => simp at hj
  · rw [dT_get] at hz
    split at hz
    case isFalse => cases hz
    rename_i hzk
    cases hz
    by_cases e : z = k
    · subst e
      refine ⟨rfl, ?_, fun j h hj _ => ?_⟩
      · rw [if_pos rfl]; kernel_rfl
      · rw [if_pos rfl]
        match j, hj with
        | 0, _ => decide
        | 1, _ => decide
        | 2, _ => decide
        | 3, _ => decide
        | 4, _ => decide
        | 5, _ => decide
        | j + 6, hj => simp at hj
    · rw [if_neg e]
      refine ⟨rfl, ?_, fun j h hj _ => ?_⟩
      · rw [spine_get hsp, dT_get, if_pos (by omega)]
      · match j, hj with
        | 0, _ => unfold dN; simp; omega
        | 1, _ => unfold dN; simp; omega
        | 2, _ => unfold dN; simp; omega
        | 3, _ => unfold dN; simp; omega
        | 4, _ => unfold dN; simp; omega
        | 5, _ => unfold dN; simp; omega
        | j + 6, hj => simp at hj
  · have h : (if z = k then 8 else dN z) = (if z' = k then 8 else dN z') := h
    by_cases e : z = k <;> by_cases e' : z' = k
    · omega
    · rw [if_pos e, if_neg e'] at h; unfold dN at h; omega
    · rw [if_neg e, if_pos e'] at h; unfold dN at h; omega
    · rw [if_neg e, if_neg e'] at h; unfold dN at h; omega
  · match j, hj with
    | 0, hj => cases hj; rfl
    | 1, hj => cases hj; rfl
    | 2, hj => cases hj; rfl
    | 3, hj => cases hj; rfl
    | 4, hj => cases hj; rfl
    | 5, hj => cases hj; rfl
    | j + 6, hj => simp at hj
  · rw [dL_succ]; rfl
  · show 8 :: dL k = _
    rw [List.map_cons, if_pos rfl]
    congr 1
    unfold dL
    refine List.map_congr_left fun z hz => ?_
    have hzk : z < k := by simpa using hz
    rw [if_neg (by omega)]
  · rw [dT_get, if_pos]
    · rfl
    · rcases List.mem_cons.1 hz with rfl | h
      · omega
      · have : z < k := by simpa using h
        omega
end Go.Proofs.Yteekkjfjpoaihaa.Eng
namespace Go.Proofs.Yteekkjfjpoaihaa.Eng
open Go Go.Proofs
def keyN (p : Nat × Nat) : CV := .is [Int.ofNat p.1, Int.ofNat p.2]
def flatN (l : List (Nat × Nat)) : List Int := l.flatMap fun p => [Int.ofNat p.1, Int.ofNat p.2]
theorem flatN_len (l : List (Nat × Nat)) : (flatN l).length = l.length * 2 := by
  unfold flatN
  induction l with
  | nil => rfl
  | cons a l ih => rw [List.flatMap_cons, List.length_append, ih]; simp; omega
theorem flatN_get : ∀ {l : List (Nat × Nat)} {i : Nat} {p : Nat × Nat}, l[i]? = some p → (flatN l).getD (i * 2) 0 = Int.ofNat p.1 ∧ (flatN l).getD (i * 2 + 1) 0 = Int.ofNat p.2
  | a :: l, 0, p, h => by cases h; exact ⟨rfl, rfl⟩
  | a :: l, i + 1, p, h => by
    have h : l[i]? = some p := by simpa using h
    have := flatN_get h
    have e : flatN (a :: l) = Int.ofNat a.1 :: Int.ofNat a.2 :: flatN l := rfl
    rw [e, show (i + 1) * 2 = i * 2 + 1 + 1 by omega]
    simpa using this
structure Inv (s : Sig) (l : List (Nat × Nat)) : Prop where
  q : s.2.1 = flatN l
  m : s.2.2 = l.length
  keys : s.1.map (·.1) = l.map keyN
  nd : l.Nodup
  rng : ∀ p ∈ l, p.1 < 7 ∧ p.2 < 7
def pushL (l : List (Nat × Nat)) (p : Nat × Nat) : List (Nat × Nat) := bif l.contains p then l else l ++ [p]
theorem find_keys : ∀ (E : List (CV × CV)) (l : List (Nat × Nat)) (p : Nat × Nat), E.map (·.1) = l.map keyN → (findC (.ints 2) (keyN p) E).isSome = l.contains p
  | [], [], p, _ => rfl
  | [], _ :: _, _, h => by simp at h
  | _ :: _, [], _, h => by simp at h
  | (k, v) :: E, a :: l, p, h => by
    simp only [List.map_cons, List.cons.injEq] at h
    obtain ⟨rfl, h⟩ := h
    have e : eqC (.ints 2) (keyN p) (keyN a) = (p == a) := by
      show ([Int.ofNat p.1, Int.ofNat p.2] == [Int.ofNat a.1, Int.ofNat a.2]) = _
      rw [beq_two]
      rw [Bool.eq_iff_iff]
      obtain ⟨p1, p2⟩ := p
      obtain ⟨a1, a2⟩ := a
      simp
      omega
    unfold findC
    rw [e, List.contains_cons]
    cases p == a with
    | true => rfl
    | false => rw [cond_false, Bool.false_or]; exact find_keys E l p h
theorem upd_keys : ∀ (E : List (CV × CV)) (l : List (Nat × Nat)) (p : Nat × Nat) (v : CV), E.map (·.1) = l.map keyN → l.contains p = false → (updC (.ints 2) (keyN p) v E).map (·.1) = (l ++ [p]).map keyN
  | [], [], p, v, _, _ => rfl
  | [], _ :: _, _, _, h, _ => by simp at h
  | _ :: _, [], _, _, h, _ => by simp at h
  | (k, u) :: E, a :: l, p, v, h, hc => by
    simp only [List.map_cons, List.cons.injEq] at h
    obtain ⟨rfl, h⟩ := h
    rw [List.contains_cons, Bool.or_eq_false_iff] at hc
    have e : eqC (.ints 2) (keyN p) (keyN a) = (p == a) := by
      show ([Int.ofNat p.1, Int.ofNat p.2] == [Int.ofNat a.1, Int.ofNat a.2]) = _
      rw [beq_two]
      rw [Bool.eq_iff_iff]
      obtain ⟨p1, p2⟩ := p
      obtain ⟨a1, a2⟩ := a
      simp
      omega
    unfold updC
    rw [e, hc.1, cond_false, List.map_cons, upd_keys E l p v h hc.2]
    rfl
theorem Inv.push {s : Sig} {l : List (Nat × Nat)} (h : Inv s l) (i u v : Nat) (hu : u < 7) (hv : v < 7) : Inv (push1 i s (Int.ofNat u) (Int.ofNat v)) (pushL l (u, v)) := by
  have hh : hasC s.1 (Int.ofNat u) (Int.ofNat v) = l.contains (u, v) := find_keys s.1 l (u, v) h.keys
  unfold push1 pushL
  unfold pushE pushQ pushM
  rw [hh]
  cases hc : l.contains (u, v) with
  | true => exact ⟨h.q, h.m, h.keys, h.nd, h.rng⟩
  | false =>
    simp only [cond_false]
    have hn : (u, v) ∉ l := fun hm => by rw [List.contains_iff_mem.2 hm] at hc; cases hc
    refine ⟨?_, by simp [h.m], upd_keys _ _ _ _ h.keys hc, ?_, ?_⟩
    · simp only
      rw [h.q, h.m, ← flatN_len, List.take_length]
      simp [flatN, List.flatMap_append]
    · rw [List.nodup_append]
      refine ⟨h.nd, by simp, fun a ha b hb => ?_⟩
      simp at hb
      subst hb
      exact fun e => hn (e ▸ ha)
    · intro p hp
      rcases List.mem_append.1 hp with hp | hp
      · exact h.rng p hp
      · simp at hp; subst hp; exact ⟨hu, hv⟩
def stepL (f : Nat → Bool) (a b c : Nat) (l : List (Nat × Nat)) : List (Nat × Nat) :=
  let l1 := bif cnd1 f a b c then pushL l (a, c) else l
  bif cnd2 f a b c then pushL l1 (c, b) else l1
def forcedL (f : Nat → Bool) (a b : Nat) (l : List (Nat × Nat)) : Nat → List (Nat × Nat)
  | 0 => pushL l (a, b)
  | c + 1 => stepL f a b c (forcedL f a b l c)
theorem Inv.step {s : Sig} {l : List (Nat × Nat)} (h : Inv s l) {f : Nat → Bool} {i a b c : Nat} (ha : a < 7) (hb : b < 7) (hc : c < 7) : Inv (stepC f i a b c s) (stepL f a b c l) := by
  unfold stepC stepL
  cases cnd1 f a b c <;> cases cnd2 f a b c
  · exact h
  · exact h.push i c b hc hb
  · exact h.push i a c ha hc
  · exact (h.push i a c ha hc).push i c b hc hb
theorem Inv.forced {s : Sig} {l : List (Nat × Nat)} (h : Inv s l) {f : Nat → Bool} {i a b : Nat} (ha : a < 7) (hb : b < 7) : ∀ n, n ≤ 7 → Inv (forcedS f i a b s n) (forcedL f a b l n)
  | 0, _ => h.push i a b ha hb
  | c + 1, hn => (Inv.forced h ha hb c (by omega)).step ha hb (by omega)
/-- a list of different pairs of small numbers is short -/
theorem nodup_short : ∀ (k : Nat) (l : List Nat), l.Nodup → (∀ x ∈ l, x < k) → l.length ≤ k
  | 0, l, _, h => by
    cases l with
    | nil => simp
    | cons a l => exact absurd (h a (by simp)) (by omega)
  | k + 1, l, hn, h => by
    have h1 := nodup_short k (l.filter fun x => !(Nat.beq x k)) (hn.sublist List.filter_sublist) fun x hx => by
      have hx' := List.mem_filter.1 hx
      have := h x hx'.1
      have hne : ¬ x = k := fun e => by
        have := hx'.2
        rw [beqT e] at this
        cases this
      omega
    have h2 : (l.filter fun x => Nat.beq x k).length ≤ 1 := by
      have hnd : (l.filter fun x => Nat.beq x k).Nodup := hn.sublist List.filter_sublist
      have hall : ∀ x ∈ l.filter (fun x => Nat.beq x k), x = k := fun x hx => Nat.eq_of_beq_eq_true (List.mem_filter.1 hx).2
      match hl : l.filter (fun x => Nat.beq x k), hnd, hall with
      | [], _, _ => simp
      | [_], _, _ => simp
      | a :: b :: r, hnd, hall =>
        have := hall a (by simp)
        have := hall b (by simp)
        simp at hnd
        omega
    have h3 : ∀ l : List Nat, (l.filter fun x => Nat.beq x k).length + (l.filter fun x => !(Nat.beq x k)).length = l.length := by
      intro l
      induction l with
      | nil => rfl
      | cons a l ih => cases hb : Nat.beq a k <;> simp [List.filter_cons, hb] <;> omega
    have := h3 l
    omega
theorem Inv.short {s : Sig} {l : List (Nat × Nat)} (h : Inv s l) : s.2.2 ≤ 49 := by
  rw [h.m]
  have hnd : (l.map fun p : Nat × Nat => p.1 * 7 + p.2).Nodup := by
    have key : ∀ l : List (Nat × Nat), l.Nodup → (∀ p ∈ l, p.1 < 7 ∧ p.2 < 7) → (l.map fun p : Nat × Nat => p.1 * 7 + p.2).Nodup := by
      intro l
      induction l with
      | nil => intro _ _; simp
      | cons a l ih =>
        intro hn hr
        obtain ⟨h1, h2⟩ := List.nodup_cons.1 hn
        rw [List.map_cons, List.nodup_cons]
        refine ⟨fun hm => ?_, ih h2 fun p hp => hr p (by simp [hp])⟩
        obtain ⟨p, hp, e⟩ := List.mem_map.1 hm
        have r1 := hr a (by simp)
        have r2 := hr p (by simp [hp])
        have : p = a := by
          obtain ⟨p1, p2⟩ := p
          obtain ⟨a1, a2⟩ := a
          simp only at e r1 r2
          rw [Prod.mk.injEq]
          omega
        exact h1 (this ▸ hp)
    exact key l h.nd h.rng
  have := nodup_short 49 _ hnd fun x hx => by
    obtain ⟨p, hp, rfl⟩ := List.mem_map.1 hx
    have := h.rng p hp
    omega
  simpa using this
def sig0 (a b : Nat) : Sig := ([(keyN (a, b), keyN (a, b))], [Int.ofNat a, Int.ofNat b], 1)
theorem inv0 {a b : Nat} (ha : a < 7) (hb : b < 7) : Inv (sig0 a b) [(a, b)] := ⟨rfl, rfl, rfl, by simp, by simp; omega⟩
/-- the run, one arrow of the queue after the other -/
def sigI (n : Nat) (f : Nat → Bool) (a b : Nat) : Nat → Sig
  | 0 => sig0 a b
  | i + 1 => forcedS f i ((sigI n f a b i).2.1.getD (0 + (0 + i) * 2 + 0) 0).toNat ((sigI n f a b i).2.1.getD (0 + (0 + i) * 2 + 0 + 1) 0).toNat (sigI n f a b i) n
def lstI (n : Nat) (f : Nat → Bool) (a b : Nat) : Nat → List (Nat × Nat)
  | 0 => [(a, b)]
  | i + 1 => forcedL f ((lstI n f a b i).getD i (0, 0)).1 ((lstI n f a b i).getD i (0, 0)).2 (lstI n f a b i) n
theorem inv_get {s : Sig} {l : List (Nat × Nat)} (h : Inv s l) {i : Nat} (hi : i < s.2.2) : (s.2.1.getD (0 + (0 + i) * 2 + 0) 0 = Int.ofNat (l.getD i (0, 0)).1 ∧ s.2.1.getD (0 + (0 + i) * 2 + 0 + 1) 0 = Int.ofNat (l.getD i (0, 0)).2) ∧ (l.getD i (0, 0)).1 < 7 ∧ (l.getD i (0, 0)).2 < 7 := by
  rw [h.m] at hi
  have hp : l[i]? = some (l.getD i (0, 0)) := by simp [hi]
  have := flatN_get hp
  rw [h.q, show 0 + (0 + i) * 2 + 0 = i * 2 by omega]
  exact ⟨this, h.rng _ (List.mem_of_getElem? hp)⟩
/-- as long as the queue lasts -/
theorem invI {n : Nat} {f : Nat → Bool} {a b : Nat} (ha : a < 7) (hb : b < 7) (hn : n ≤ 7) : ∀ i, (∀ j, j < i → j < (sigI n f a b j).2.2) → Inv (sigI n f a b i) (lstI n f a b i)
  | 0, _ => inv0 ha hb
  | i + 1, h => by
    have ih := invI ha hb hn i fun j hj => h j (by omega)
    obtain ⟨⟨e1, e2⟩, r1, r2⟩ := inv_get ih (h i (by omega))
    show Inv (forcedS f i _ _ _ n) (forcedL f _ _ _ n)
    rw [e1, e2]
    exact ih.forced r1 r2 n hn
theorem s54 {n : Nat} {f : Nat → Bool} {s : Sig} {l : List (Nat × Nat)} {i k : Nat} (hs : Inv s l) (hi : i < s.2.2) (hn : n ≤ 7) : Exec PP T none x54.nt 0 L54 (SA n f s i k) .n (SA n f (forcedS f i (s.2.1.getD (0 + (0 + i) * 2 + 0) 0).toNat (s.2.1.getD (0 + (0 + i) * 2 + 0 + 1) 0).toNat s n) (i + 1) (k + 1)) := by
  have hk := hs.short
  have hok : okSig s i 900 := ⟨by rw [hs.q, hs.m, flatN_len], hi, by omega⟩
  obtain ⟨⟨e1, e2⟩, r1, r2⟩ := inv_get hs hi
  refine exec_seq (x := L54.a) (y := L54.b) (e54a hi) (exec_seq (x := L54.b.a) (y := L54.b.b) (exec_block (id := 1) (x := L54.b.a.i) (e := .n) (exec_seq (x := L54.b.a.i.a) (y := L54.b.a.i.b) (e54b hok) (exec_block (id := 2) (x := F54) (e := .n) ?_))) (e54d (by omega)))
  rw [e1, e2]
  exact e54r hok r1 r2 hn
/-- where the queue ends -/
def stopR (n : Nat) (f : Nat → Bool) (a b : Nat) : Nat := ((List.range 50).find? fun i => !(decide (i < (sigI n f a b i).2.2))).getD 50
theorem stopR_spec {n : Nat} {f : Nat → Bool} {a b : Nat} (ha : a < 7) (hb : b < 7) (hn : n ≤ 7) : ¬ stopR n f a b < (sigI n f a b (stopR n f a b)).2.2 ∧ ∀ j, j < stopR n f a b → j < (sigI n f a b j).2.2 := by
  unfold stopR
  cases hf : (List.range 50).find? fun i => !(decide (i < (sigI n f a b i).2.2)) with
  | none =>
    have h := List.find?_range_eq_none.1 hf
    have hall : ∀ j, j < 50 → j < (sigI n f a b j).2.2 := fun j hj => by simpa using h j hj
    have := (invI (n := n) (f := f) ha hb hn 49 fun j hj => hall j (by omega)).short
    have := hall 49 (by omega)
    omega
  | some i =>
    obtain ⟨h1, h2, h3⟩ := List.find?_range_eq_some.1 hf
    exact ⟨by simpa using h1, fun j hj => by simpa using h3 j hj⟩
theorem a54a {n : Nat} {f : Nat → Bool} {a b : Nat} : Exec PP T none x54.nt 0 x54.body.a (startSt [.s (.ptr 0 0 0), arV (Int.ofNat a) (Int.ofNat b)] [RG n f]) .n (mkSt [(0, g1S 0), (3, g1S 1)] [RG n f, ⟨false, .row 77 [.int .i64 (Int.ofNat a), .int .i64 (Int.ofNat b)] 0 ff⟩] 2 []) := by
  refine exec_orun env0 false 60 [] [0, 1] (fun _ => rfl) (by kernel_rfl) (by kernel_rfl) (by kernel_rfl) (by kernel_rfl)
theorem a54b {n : Nat} {f : Nat → Bool} {a b : Nat} : Exec PP T none x54.nt 0 x54.body.b.a (mkSt [(0, g1S 0), (3, g1S 1)] [RG n f, ⟨false, .row 77 [.int .i64 (Int.ofNat a), .int .i64 (Int.ofNat b)] 0 ff⟩] 2 []) .n (mkSt [(0, g1S 0), (3, g1S 1), (6, g1S 2)] [RG n f, ⟨false, .row 77 [.int .i64 (Int.ofNat a), .int .i64 (Int.ofNat b)] 0 ff⟩, ⟨false, .row 78 [.mp 3] 0 ff⟩, ⟨false, .map (.ints 2) (.ints 2) [(keyN (a, b), keyN (a, b))]⟩] 4 []) := by
  refine exec_orun env0 false 60 [] [0, 1, 3, 2] (fun _ => rfl) (by kernel_rfl) (by kernel_rfl) (by kernel_rfl) (by kernel_rfl)
theorem a54c {n : Nat} {f : Nat → Bool} {a b : Nat} : Exec PP T none x54.nt 0 x54.body.b.b.a (mkSt [(0, g1S 0), (3, g1S 1), (6, g1S 2)] [RG n f, ⟨false, .row 77 [.int .i64 (Int.ofNat a), .int .i64 (Int.ofNat b)] 0 ff⟩, ⟨false, .row 78 [.mp 3] 0 ff⟩, ⟨false, .map (.ints 2) (.ints 2) [(keyN (a, b), keyN (a, b))]⟩] 4 []) .n (mkSt [(0, g1S 0), (6, g1S 1), (7, g1S 3)] [RG n f, ⟨false, .row 78 [.mp 2] 0 ff⟩, ⟨false, .map (.ints 2) (.ints 2) [(keyN (a, b), keyN (a, b))]⟩, ⟨false, .row 74 [.sl 4 0 2 1] 0 ff⟩, ⟨false, .ivec 77 .i64 2 [Int.ofNat a, Int.ofNat b]⟩] 5 []) := by
  refine exec_orun env0 false 60 [] [0, 2, 3, 5, 4] (fun _ => rfl) (by kernel_rfl) (by kernel_rfl) (by kernel_rfl) (by kernel_rfl)
theorem a54d {n : Nat} {f : Nat → Bool} {a b : Nat} : Exec PP T none x54.nt 0 x54.body.b.b.b.a.a (mkSt [(0, g1S 0), (6, g1S 1), (7, g1S 3)] [RG n f, ⟨false, .row 78 [.mp 2] 0 ff⟩, ⟨false, .map (.ints 2) (.ints 2) [(keyN (a, b), keyN (a, b))]⟩, ⟨false, .row 74 [.sl 4 0 2 1] 0 ff⟩, ⟨false, .ivec 77 .i64 2 [Int.ofNat a, Int.ofNat b]⟩] 5 []) .n (SA n f (sig0 a b) 0 0) := by
  have key : Exec PP T none x54.nt 0 x54.body.b.b.b.a.a (mkSt [(0, g1S 0), (6, g1S 1), (7, g1S 3)] [RG n f, ⟨false, .row 78 [.mp 2] 0 ff⟩, ⟨false, .map (.ints 2) (.ints 2) [(keyN (a, b), keyN (a, b))]⟩, ⟨false, .row 74 [.sl 4 0 2 1] 0 ff⟩, ⟨false, .ivec 77 .i64 2 [Int.ofNat a, Int.ofNat b]⟩] 5 []) .n (mkSt slA (HA n f (sig0 a b) 0) 6 []) := by
    refine exec_orun env0 false 60 [] [0, 1, 2, 3, 5, 4] (fun _ => rfl) (by kernel_rfl) (by kernel_rfl) (by kernel_rfl) (by kernel_rfl)
  refine key.post (weak_D (ids := [0, 1, 2, 3, 4, 5]) dN (by kernel_rfl) (by simp) (fun p hp => ?_) (fun j h hj => ?_) (fun z ho hz => by rw [dT_get] at hz; simp at hz) (fun z z' ho ho' hz => by rw [dT_get] at hz; simp at hz) (fun j h hj => ?_) ⟨[], rfl, rfl, fun z hz => by cases hz⟩)
  · simp only [List.mem_cons, List.not_mem_nil, or_false] at hp
    rcases hp with rfl | rfl | rfl | rfl <;> kernel_rfl
  · match j, hj with
    | 0, hj => cases hj; exact ⟨fun _ => by kernel_rfl, fun h => by cases h⟩
    | 1, hj => cases hj; exact ⟨fun _ => by kernel_rfl, fun h => by cases h⟩
    | 2, hj => cases hj; exact ⟨fun _ => by kernel_rfl, fun h => by cases h⟩
    | 3, hj => cases hj; exact ⟨fun _ => by kernel_rfl, fun h => by cases h⟩
    | 4, hj => cases hj; exact ⟨fun _ => by kernel_rfl, fun h => by cases h⟩
    | 5, hj => cases hj; exact ⟨fun _ => by kernel_rfl, fun h => by cases h⟩
    | j + 6, hj => simp at hj
  · match j, hj with
    | 0, hj => cases hj; rfl
    | 1, hj => cases hj; rfl
    | 2, hj => cases hj; rfl
    | 3, hj => cases hj; rfl
    | 4, hj => cases hj; rfl
    | 5, hj => cases hj; rfl
    | j + 6, hj => simp at hj
noncomputable abbrev SZ (s : Sig) (k : Nat) : St := stD [(4, lsS 0 s.2.2), (5, ⟨true, .av (.s (.mp 1))⟩)] [⟨false, .ivec 77 .i64 2 s.2.1⟩, ⟨false, .map (.ints 2) (.ints 2) s.1⟩] 2 (dT k) (dL k)
theorem d54 {n : Nat} {f : Nat → Bool} {s : Sig} {i k : Nat} : Exec PP T none x54.nt 0 x54.body.b.b.b.b (SA n f s i k) .r (SZ s k) := by
  refine exec_orunD env0 false 60 [] [5, 2] (fun _ => rfl) (by kernel_rfl) (by kernel_rfl) (by kernel_rfl) (by kernel_rfl) (by kernel_rfl) (by kernel_rfl)
theorem body54 {n : Nat} {f : Nat → Bool} {a b : Nat} (ha : a < 7) (hb : b < 7) (hn : n ≤ 7) : Exec PP T none x54.nt 0 x54.body (startSt [.s (.ptr 0 0 0), arV (Int.ofNat a) (Int.ofNat b)] [RG n f]) .r (SZ (sigI n f a b (stopR n f a b)) (stopR n f a b)) := by
  obtain ⟨h1, h2⟩ := stopR_spec (n := n) (f := f) ha hb hn
  refine exec_seq (x := x54.body.a) (y := x54.body.b) a54a (exec_seq (x := x54.body.b.a) (y := x54.body.b.b) a54b (exec_seq (x := x54.body.b.b.a) (y := x54.body.b.b.b) a54c (exec_seq (x := x54.body.b.b.b.a) (y := x54.body.b.b.b.b) (exec_seq (x := x54.body.b.b.b.a.a) (y := .block 0 (.loop L54)) a54d (exec_block (e := .x 0) ?_)) (d54 (n := n) (f := f) (i := stopR n f a b)))))
  exact exec_loop_up (fun i => SA n f (sigI n f a b i) i i) (stopR n f a b) (fun i hi => s54 (invI ha hb hn i fun j hj => h2 j (by omega)) (h2 i hi) hn) (exec_seq_x (x := L54.a) (y := L54.b) (e54x h1) (by simp)) (by simp) 0 (by omega)
end Go.Proofs.Yteekkjfjpoaihaa.Eng
namespace Go.Proofs.Yteekkjfjpoaihaa.Eng
open Go Go.Proofs
theorem leaveH_other : ∀ (l : List Nat) (h : Nat → Option HO) (id : Nat), id ∉ l → leaveH h l id = h id
  | [], _, _, _ => rfl
  | a :: l, h, id, hid => by
    show leaveH (fun j => if j = a then _ else h j) l id = _
    rw [leaveH_other l _ id fun hm => hid (by simp [hm])]
    rw [if_neg fun e => hid (by simp [e])]
theorem dfOk_all : ∀ (l : List Nat) (h : Nat → Option HO), l.Nodup → (∀ id ∈ l, h id = some ⟨false, .dfr⟩) → dfOk h l = true
  | [], _, _, _ => rfl
  | a :: l, h, hn, hd => by
    obtain ⟨h1, h2⟩ := List.nodup_cons.1 hn
    simp only [dfOk, hd a (by simp), Bool.true_and]
    exact dfOk_all l _ h2 fun id hid => by
      have hne : ¬ id = a := fun e => h1 (by rw [← e]; exact hid)
      rw [if_neg hne]
      exact hd id (by simp [hid])
theorem dL_mem {k id : Nat} : id ∈ dL k ↔ ∃ x, x < k ∧ id = dN x := by
  unfold dL
  simp only [List.mem_map, List.mem_reverse, List.mem_range]
  constructor
  · rintro ⟨x, h1, rfl⟩; exact ⟨x, h1, rfl⟩
  · rintro ⟨x, h1, rfl⟩; exact ⟨x, h1, rfl⟩
theorem dL_nodup (k : Nat) : (dL k).Nodup := by
  induction k with
  | zero => simp [dL]
  | succ k ih =>
    rw [dL_succ, List.nodup_cons]
    refine ⟨fun hm => ?_, ih⟩
    obtain ⟨x, h1, h2⟩ := dL_mem.1 hm
    unfold dN at h2
    omega
/-- a function that hands back new objects, with blocks aside -/
theorem shown_D {P : Program} {T : Tab} {x : XFn} {m0 : MM} {hs : List HO} {args0 : List AV} {vals : List Value} {w : World} {tv : TV} {base : Nat} {ts : List (Nat × Slot)} {news : List HO} {nx k : Nat} {ex : XE} (hview : RoView (compC T) m0 hs w) (hargs : All2 (AR m0) args0 vals) (hlen : Nat.ble args0.length x.nt = true)
    (hrun : Exec P T none x.nt 0 x.body (startSt args0 hs) ex (stD ts news nx (dT k) (dL k))) (hex : ex ≠ .n → ex = .r) (hl : Nat.ble news.length 62 = true) (hres : resV (stD ts news nx (dT k) (dL k)).sl.get (leaveH (stD ts news nx (dT k) (dL k)).hp.get (dL k)) x.res = some (true, tv))
    (hids : tv.ids.all (fun j => Nat.blt j news.length) = true) (ho : news.all (fun ho => !ho.ro && ho.live && !ho.o.isLoop && ho.o.ids.all fun j => Nat.blt j news.length) = true) :
    Shown P T x m0 hs args0 vals w (tv.ren (renN (List.range news.length) base)) (news.map fun ho => ho.ren (renN (List.range news.length) base)) base where
  view := hview
  args := hargs
  len := Nat.le_of_ble_eq_true hlen
  run := ⟨stD ts news nx (dT k) (dL k), ex, tv, List.range news.length, hrun, by by_cases h : ex = .n; exact .inl h; exact .inr (hex h), dfOk_all _ _ (dL_nodup k) (fun id hid => by
      obtain ⟨x, h1, rfl⟩ := dL_mem.1 hid
      rw [stD_in (Nat.le_of_ble_eq_true hl), dT_get, if_pos h1]), hres, nodup_range _,
    fun j hj => List.mem_range.2 (Nat.le_of_ble_eq_true (List.all_eq_true.1 hids j hj)), rfl, by simp, fun j id h => by
      have hk : j < news.length := by
        have := (List.getElem?_eq_some_iff.1 h).1
        simpa using this
      rw [List.getElem?_range hk] at h
      cases h
      have hin := List.all_eq_true.1 ho news[j] (List.getElem_mem _)
      simp only [Bool.and_eq_true, Bool.not_eq_true'] at hin
      have h62 := Nat.le_of_ble_eq_true hl
      refine ⟨news[j], ?_, hin.1.1.1, hin.1.1.2, hin.1.2, fun j hj => List.mem_range.2 (Nat.le_of_ble_eq_true (List.all_eq_true.1 hin.2 j hj)), ?_⟩
      · show leaveH (stD ts news nx (dT k) (dL k)).hp.get (dL k) j = _
        rw [leaveH_other _ _ _ fun hm => by
          obtain ⟨x, _, h2⟩ := dL_mem.1 hm
          unfold dN at h2
          omega, stD_lt hk]
        simp [hk]
      · simp [hk]⟩
/-- what reach hands back -/
def rchS (n : Nat) (f : Nat → Bool) (a b : Nat) : Sig := sigI n f a b (stopR n f a b)
def rchL (n : Nat) (f : Nat → Bool) (a b : Nat) : List (Nat × Nat) := lstI n f a b (stopR n f a b)
theorem rch_inv {n : Nat} {f : Nat → Bool} {a b : Nat} (ha : a < 7) (hb : b < 7) (hn : n ≤ 7) : Inv (rchS n f a b) (rchL n f a b) :=
  invI ha hb hn _ (stopR_spec ha hb hn).2
def spRch : Spec where
  run := fun args h base => match args with
    | [.s (.ptr g 0 0), .pb [.int .i64 a, .int .i64 b] 0 _] => match h g with
      | some ⟨_, .row 115 [.int .i64 n] 49 f⟩ => some ⟨decide (0 ≤ a) && (decide (a < 7) && (decide (0 ≤ b) && (decide (b < 7) && (decide (0 ≤ n) && decide (n ≤ 7))))),
          .tup [.s (.sl (base + 0) 0 2 (rchL n.toNat f a.toNat b.toNat).length), .s (.mp (base + 1))], [], [⟨false, .ivec 77 .i64 2 (flatN (rchL n.toNat f a.toNat b.toNat))⟩, ⟨false, .map (.ints 2) (.ints 2) (rchS n.toNat f a.toNat b.toNat).1⟩], some [g]⟩
      | _ => none
    | _ => none
theorem spRch_fp : SpecFp spRch := by
  intro args h h' base e hr hf
  simp only [spRch] at hr ⊢
  split at hr
  case h_2 => cases hr
  split at hr
  case h_2 => cases hr
  rename_i hg
  cases hr
  simp only [hf _ (List.mem_singleton.2 rfl), hg]
theorem ok54 : SpecOK PP (compC T) 54 spRch := by
  refine spec_gen tokP o54 fun ctx m h w args vals base e hH hargs hr hvc => ?_
  simp only [spRch] at hr
  split at hr
  case h_2 => cases hr
  rename_i g a b f'
  split at hr
  case h_2 => cases hr
  rename_i ro n f hg
  cases hr
  simp only [Bool.and_eq_true, decide_eq_true_eq] at hvc
  obtain ⟨h0, h1, h2, h3, h4, h5⟩ := hvc
  obtain ⟨a, rfl⟩ : ∃ k : Nat, a = Int.ofNat k := ⟨a.toNat, by simp; omega⟩
  obtain ⟨b, rfl⟩ : ∃ k : Nat, b = Int.ofNat k := ⟨b.toNat, by simp; omega⟩
  obtain ⟨n, rfl⟩ : ∃ k : Nat, n = Int.ofNat k := ⟨n.toNat, by simp; omega⟩
  have ha : a < 7 := by simp at h1; omega
  have hb : b < 7 := by simp at h3; omega
  have hn : n ≤ 7 := by simp at h5; omega
  have hI := rch_inv (n := n) (f := f) ha hb hn
  match vals, hargs with
  | [v1, v2], ⟨ha1, ha2, _⟩ =>
    obtain ⟨mb, k1, k2, k3⟩ := view_row hH ha1 hg (eqB_refl 49 f)
    have hall : All2 (AR (mm1 mb)) [.s (.ptr 0 0 0), arV (Int.ofNat a) (Int.ofNat b)] [v1, v2] := ⟨k3 (mm1 mb) 0 rfl, pb2_any ha2, trivial⟩
    refine ⟨rfl, mm1 mb, [RG n f], [.s (.ptr 0 0 0), arV (Int.ofNat a) (Int.ofNat b)], ?_⟩
    have := shown_D (tv := .tup [.s (.sl 0 0 2 (rchS n f a b).2.2), .s (.mp 1)]) (base := base) (ro1 k1 k2) hall (by kernel_rfl) (body54 ha hb hn) (fun _ => rfl) (by kernel_rfl) (by kernel_rfl) (by kernel_rfl) (by kernel_rfl)
    have e1 : (rchS n f a b).2.2 = (rchL n f a b).length := hI.m
    have e2 : (rchS n f a b).2.1 = flatN (rchL n f a b) := hI.q
    have e3 : sigI n f a b (stopR n f a b) = rchS n f a b := rfl
    rw [e3, e1, e2] at this
    exact this
end Go.Proofs.Yteekkjfjpoaihaa.Eng
namespace Go.Proofs.Yteekkjfjpoaihaa.Eng
open Go Go.Proofs
def L61 : XC := x61.body.b.b.a.b.i.i
def M61 : XC := L61.b.b.a.i.b.b.i.i
abbrev G61 (f o : Nat → Bool) : List HO := [⟨false, .row 70 [] 49 f⟩, ⟨false, .row 70 [] 49 ff⟩, ⟨false, .row 70 [] 49 o⟩]
abbrev sl61 : List (Nat × Slot) := [(1, g1S 0), (2, g1S 1), (3, g1S 2)]
abbrev S61 (f o : Nat → Bool) (a : Nat) : St := mkSt (sl61 ++ [(6, ⟨true, I a⟩)]) (G61 f o) 3 []
abbrev P61 (f o : Nat → Bool) (a : Nat) : St := mkSt (sl61 ++ [(6, ⟨true, I a⟩), (7, ⟨true, B (decide (Int.ofNat a < 7))⟩)]) (G61 f o) 3 []
abbrev U61 (f o : Nat → Bool) (a b : Nat) : St := mkSt (sl61 ++ [(4, ⟨true, I a⟩), (6, ⟨true, I a⟩), (9, ⟨true, I b⟩)]) (G61 f o) 3 []
abbrev Q61 (f o : Nat → Bool) (a b : Nat) : St := mkSt (sl61 ++ [(4, ⟨true, I a⟩), (6, ⟨true, I a⟩), (9, ⟨true, I b⟩), (10, ⟨true, B (decide (Int.ofNat b < 7))⟩)]) (G61 f o) 3 []
def tS (f o : Nat → Bool) (a b : Nat) : Nat → Bool := fun j => bif j.beq (0 - ([] : List SV).length + (0 + b * 7 + a * 1)) then f (0 - ([] : List SV).length + (0 + a * 7 + b * 1)) else o j
def trow (f : Nat → Bool) (a : Nat) (o : Nat → Bool) : Nat → Nat → Bool
  | 0 => o
  | b + 1 => tS f (trow f a o b) a b
def tall (f : Nat → Bool) : Nat → Nat → Bool
  | 0 => ff
  | a + 1 => trow f a (tall f a) 7
def turnR (f : Nat → Bool) : Nat → Bool := tall f 7
theorem a61 {f : Nat → Bool} : Exec PP T none x61.nt 0 x61.body.a (startSt [.pb [] 49 f] []) .n (mkSt [(1, g1S 0), (2, g1S 1)] [⟨false, .row 70 [] 49 f⟩, ⟨false, .row 70 [] 49 ff⟩] 2 []) := by
  refine exec_orun env0 false 60 [] [0, 1] (fun _ => rfl) (by kernel_rfl) (by kernel_rfl) (by kernel_rfl) (by kernel_rfl)
theorem a61' {f : Nat → Bool} : Exec PP T none x61.nt 0 x61.body.b.a (mkSt [(1, g1S 0), (2, g1S 1)] [⟨false, .row 70 [] 49 f⟩, ⟨false, .row 70 [] 49 ff⟩] 2 []) .n (mkSt sl61 (G61 f ff) 3 []) := by
  refine exec_orun env0 false 60 [] [0, 1, 2] (fun _ => rfl) (by kernel_rfl) (by kernel_rfl) (by kernel_rfl) (by kernel_rfl)
theorem b61 {f : Nat → Bool} : Exec PP T none x61.nt 0 x61.body.b.b.a.a (mkSt sl61 (G61 f ff) 3 []) .n (S61 f ff 0) := by
  refine exec_orun env0 false 60 [] [0, 1, 2] (fun _ => rfl) (by kernel_rfl) (by kernel_rfl) (by kernel_rfl) (by kernel_rfl)
theorem l61a {f o : Nat → Bool} {a : Nat} : Exec PP T none x61.nt 0 L61.a (S61 f o a) .n (P61 f o a) := by
  refine exec_orun env0 false 60 [] [0, 1, 2] (fun _ => rfl) (by kernel_rfl) (by kernel_rfl) (by kernel_rfl) (by kernel_rfl)
theorem l61b {f o : Nat → Bool} {a : Nat} (h : a < 7) : Exec PP T none x61.nt 0 L61.b.a (P61 f o a) .n (S61 f o a) := by
  refine exec_orun env0 false 60 [true] [0, 1, 2] (fun _ => rfl) (by kernel_rfl) (by kernel_rfl) (by kernel_rfl) ?_
  rw [(show obOf (orun g0 false 60 L61.b.a (P61 f o a) [true]) = (decide (Int.ofNat a < 7) && true) from by kernel_rfl)]
  simp
  omega
theorem l61x {f o : Nat → Bool} : Exec PP T none x61.nt 0 L61.b.a (P61 f o 7) (.x 0) (S61 f o 7) := by
  refine exec_orun env0 false 60 [false] [0, 1, 2] (fun _ => rfl) (by kernel_rfl) (by kernel_rfl) (by kernel_rfl) (by kernel_rfl)
theorem l61c {f o : Nat → Bool} {a : Nat} : Exec PP T none x61.nt 0 L61.b.b.a.i.a (S61 f o a) .n (mkSt (sl61 ++ [(4, ⟨true, I a⟩), (6, ⟨true, I a⟩)]) (G61 f o) 3 []) := by
  refine exec_orun env0 false 60 [] [0, 1, 2] (fun _ => rfl) (by kernel_rfl) (by kernel_rfl) (by kernel_rfl) (by kernel_rfl)
theorem l61d {f o : Nat → Bool} {a : Nat} : Exec PP T none x61.nt 0 L61.b.b.a.i.b.a (mkSt (sl61 ++ [(4, ⟨true, I a⟩), (6, ⟨true, I a⟩)]) (G61 f o) 3 []) .n (U61 f o a 0) := by
  refine exec_orun env0 false 60 [] [0, 1, 2] (fun _ => rfl) (by kernel_rfl) (by kernel_rfl) (by kernel_rfl) (by kernel_rfl)
theorem l61e {f o : Nat → Bool} {a b : Nat} (h : a < 7) : Exec PP T none x61.nt 0 L61.b.b.b (U61 f o a b) .n (S61 f o (a + 1)) := by
  refine exec_orun env0 false 60 [] [0, 1, 2] (fun _ => rfl) (by kernel_rfl) (by kernel_rfl) (by kernel_rfl) ?_
  rw [(show obOf (orun g0 false 60 L61.b.b.b (U61 f o a b) []) = (rng64 (Int.ofNat a.succ) && true) from by kernel_rfl)]
  simp [rng64]
  omega
theorem m61a {f o : Nat → Bool} {a b : Nat} : Exec PP T none x61.nt 0 M61.a (U61 f o a b) .n (Q61 f o a b) := by
  refine exec_orun env0 false 60 [] [0, 1, 2] (fun _ => rfl) (by kernel_rfl) (by kernel_rfl) (by kernel_rfl) (by kernel_rfl)
theorem m61b {f o : Nat → Bool} {a b : Nat} (h : b < 7) : Exec PP T none x61.nt 0 M61.b.a (Q61 f o a b) .n (U61 f o a b) := by
  refine exec_orun env0 false 60 [true] [0, 1, 2] (fun _ => rfl) (by kernel_rfl) (by kernel_rfl) (by kernel_rfl) ?_
  rw [(show obOf (orun g0 false 60 M61.b.a (Q61 f o a b) [true]) = (decide (Int.ofNat b < 7) && true) from by kernel_rfl)]
  simp
  omega
theorem m61x {f o : Nat → Bool} {a : Nat} : Exec PP T none x61.nt 0 M61.b.a (Q61 f o a 7) (.x 2) (U61 f o a 7) := by
  refine exec_orun env0 false 60 [false] [0, 1, 2] (fun _ => rfl) (by kernel_rfl) (by kernel_rfl) (by kernel_rfl) (by kernel_rfl)
theorem m61y {f o : Nat → Bool} {a b : Nat} (ha : a < 7) (hb : b < 7) : Exec PP T none x61.nt 0 M61.b.b.a.i (U61 f o a b) .n (U61 f (tS f o a b) a b) := by
  refine exec_orun env0 false 60 [] [0, 1, 2] (fun _ => rfl) (by kernel_rfl) (by kernel_rfl) (by kernel_rfl) ?_
  rw [(show obOf (orun g0 false 60 M61.b.b.a.i (U61 f o a b) []) = (decide (0 ≤ Int.ofNat a) && decide (Int.ofNat a < 7) && (decide (0 ≤ Int.ofNat b) && decide (Int.ofNat b < 7) && (decide (0 + (0 + a * 7 + b * 1) < 49) && (decide (0 ≤ Int.ofNat b) && decide (Int.ofNat b < 7) && (decide (0 ≤ Int.ofNat a) && decide (Int.ofNat a < 7) && (decide (0 + (0 + b * 7 + a * 1) < 49) && true && true && true))))) && true) from by kernel_rfl)]
  simp
  omega
theorem m61e {f o : Nat → Bool} {a b : Nat} (h : b < 7) : Exec PP T none x61.nt 0 M61.b.b.b (U61 f o a b) .n (U61 f o a (b + 1)) := by
  refine exec_orun env0 false 60 [] [0, 1, 2] (fun _ => rfl) (by kernel_rfl) (by kernel_rfl) (by kernel_rfl) ?_
  rw [(show obOf (orun g0 false 60 M61.b.b.b (U61 f o a b) []) = (rng64 (Int.ofNat b.succ) && true) from by kernel_rfl)]
  simp [rng64]
  omega
theorem d61 {f o : Nat → Bool} : Exec PP T none x61.nt 0 x61.body.b.b.b (S61 f o 7) .r (mkSt [(2, g1S 0)] [⟨false, .row 70 [] 49 o⟩] 1 []) := by
  refine exec_orun env0 false 60 [] [1] (fun _ => rfl) (by kernel_rfl) (by kernel_rfl) (by kernel_rfl) (by kernel_rfl)
theorem l61 {f o : Nat → Bool} {a : Nat} (ha : a < 7) : Exec PP T none x61.nt 0 L61 (S61 f o a) .n (S61 f (trow f a o 7) (a + 1)) :=
  exec_seq (x := L61.a) (y := L61.b) l61a (exec_seq (x := L61.b.a) (y := L61.b.b) (l61b ha) (exec_seq (x := L61.b.b.a) (y := L61.b.b.b) (exec_block (id := 1) (x := L61.b.b.a.i) (e := .n) (exec_seq (x := L61.b.b.a.i.a) (y := L61.b.b.a.i.b) l61c (exec_seq (x := L61.b.b.a.i.b.a) (y := .block 2 (.loop M61)) l61d
    (exec_block (e := .x 2) (exec_loop_up (fun b => U61 f (trow f a o b) a b) 7 (fun b hb => exec_seq (x := M61.a) (y := M61.b) m61a (exec_seq (x := M61.b.a) (y := M61.b.b) (m61b hb) (exec_seq (x := M61.b.b.a) (y := M61.b.b.b) (exec_block (id := 3) (x := M61.b.b.a.i) (e := .n) (m61y ha hb)) (m61e hb)))) (exec_seq (x := M61.a) (y := M61.b) m61a (exec_seq_x (x := M61.b.a) (y := M61.b.b) m61x (by simp))) (by simp) 0 (by omega)))))) (l61e (b := 7) ha)))
theorem body61 {f : Nat → Bool} : Exec PP T none x61.nt 0 x61.body (startSt [.pb [] 49 f] []) .r (mkSt [(2, g1S 0)] [⟨false, .row 70 [] 49 (turnR f)⟩] 1 []) := by
  refine exec_seq (x := x61.body.a) (y := x61.body.b) a61 (exec_seq (x := x61.body.b.a) (y := x61.body.b.b) a61' (exec_seq (x := x61.body.b.b.a) (y := x61.body.b.b.b) (exec_seq (x := x61.body.b.b.a.a) (y := .block 0 (.loop L61)) b61 (exec_block (e := .x 0) ?_)) (d61 (f := f))))
  exact exec_loop_up (fun a => S61 f (tall f a) a) 7 (fun a ha => l61 ha) (exec_seq (x := L61.a) (y := L61.b) l61a (exec_seq_x (x := L61.b.a) (y := L61.b.b) l61x (by simp))) (by simp) 0 (by omega)
theorem ok61 : SpecOK PP (compC T) 61 (pureS (gRel fun f => .av (.pb [] 49 (turnR f)))) := by
  refine spec_pure tokP o61 fun ctx m h w args vals v rd base hH hargs hg => ?_
  unfold gRel at hg
  split at hg
  · rename_i fb
    simp only [Option.some.injEq, Prod.mk.injEq] at hg
    obtain ⟨_, rfl, rfl⟩ := hg
    match vals, hargs with
    | [v1], ⟨ha1, _⟩ =>
      exact ⟨emV, [], [.pb [] 49 fb], shown_valH (hs' := [⟨false, .row 70 [] 49 (turnR fb)⟩]) ro0 ⟨pb0_any ha1, trivial⟩ (by kernel_rfl) body61 (fun _ => rfl) (by kernel_rfl) (by kernel_rfl)⟩
  · cases hg
theorem at7_tS {f o : Nat → Bool} {a b x y : Nat} (ha : a < 7) (hb : b < 7) (hx : x < 7) (hy : y < 7) : at7 (tS f o a b) x y = bif Nat.beq x b && Nat.beq y a then at7 f a b else at7 o x y := by
  unfold at7 tS
  simp only [List.length_nil]
  by_cases h : x = b ∧ y = a
  · obtain ⟨rfl, rfl⟩ := h
    rw [beqT (by simp), beqT rfl, beqT rfl]
    simp
  · rw [beqF (by omega)]
    have : (Nat.beq x b && Nat.beq y a) = false := by
      cases hh : (Nat.beq x b && Nat.beq y a) with
      | false => rfl
      | true =>
        rw [Bool.and_eq_true] at hh
        exact absurd ⟨Nat.eq_of_beq_eq_true hh.1, Nat.eq_of_beq_eq_true hh.2⟩ h
    rw [this]
    rfl
theorem at7_trow {f o : Nat → Bool} {a : Nat} (ha : a < 7) : ∀ b, b ≤ 7 → ∀ {x y : Nat}, x < 7 → y < 7 → at7 (trow f a o b) x y = bif decide (x < b) && Nat.beq y a then at7 f a x else at7 o x y
  | 0, _, x, y, hx, hy => by simp [trow]
  | b + 1, hb, x, y, hx, hy => by
    show at7 (tS f (trow f a o b) a b) x y = _
    rw [at7_tS ha (by omega) hx hy, at7_trow ha b (by omega) hx hy]
    by_cases h : y = a
    · subst h
      rw [beqT rfl]
      by_cases h2 : x = b
      · subst h2; rw [beqT rfl]; simp
      · rw [beqF h2]
        by_cases h3 : x < b
        · have : x < b + 1 := by omega
          simp [h3, this]
        · have : ¬ x < b + 1 := by omega
          simp [h3, this]
    · rw [beqF h]; simp
theorem at7_tall {f : Nat → Bool} : ∀ a, a ≤ 7 → ∀ {x y : Nat}, x < 7 → y < 7 → at7 (tall f a) x y = (decide (y < a) && at7 f y x)
  | 0, _, x, y, hx, hy => by simp [tall, at7, ff]
  | a + 1, ha, x, y, hx, hy => by
    show at7 (trow f a (tall f a) 7) x y = _
    rw [at7_trow (by omega) 7 (by omega) hx hy, at7_tall a (by omega) hx hy, decide_eq_true hx]
    by_cases h : y = a
    · subst h; rw [beqT rfl]; simp
    · rw [beqF h]
      by_cases h2 : y < a
      · have : y < a + 1 := by omega
        simp [h2, this]
      · have : ¬ y < a + 1 := by omega
        simp [h2, this]
theorem at7_turnR {f : Nat → Bool} {x y : Nat} (hx : x < 7) (hy : y < 7) : at7 (turnR f) x y = at7 f y x := by
  unfold turnR
  rw [at7_tall 7 (by omega) hx hy, decide_eq_true hy, Bool.true_and]
end Go.Proofs.Yteekkjfjpoaihaa.Eng
namespace Go.Proofs.Yteekkjfjpoaihaa.Eng
open Go Go.Proofs
def L14 : XC := x14.body.b.b.a.b.i.i
abbrev H2 (q q' : List Int) : List HO := [⟨true, .xvec .i64 2 q⟩, ⟨true, .xvec .i64 2 q'⟩]
abbrev sl14 (m m' : Nat) : List (Nat × Slot) := [(0, sl0 m), (1, lsS 1 m')]
abbrev S14 (q q' : List Int) (m m' i : Nat) : St := mkSt (sl14 m m' ++ [(5, ⟨true, I i⟩)]) (H2 q q') 2 []
def diffAt (q q' : List Int) (i : Nat) : Bool := !(pa q i == pa q' i && pb q i == pb q' i)
theorem a14 {q q' : List Int} {m m' : Nat} : Exec PP T none x14.nt 0 x14.body.a (startSt [.s (.sl 0 0 2 m), .s (.sl 1 0 2 m')] (H2 q q')) .n (mkSt (sl14 m m') (H2 q q') 2 []) := by
  refine exec_orun env0 false 60 [] [0, 1] (fun _ => rfl) (by kernel_rfl) (by kernel_rfl) (by kernel_rfl) (by kernel_rfl)
theorem b14r {q q' : List Int} {m m' : Nat} (h : ¬ m = m') : Exec PP T none x14.nt 0 x14.body.b.a (mkSt (sl14 m m') (H2 q q') 2 []) .r (RB 4 false) := by
  refine exec_orun env0 false 60 [true] [] (fun _ => rfl) (by kernel_rfl) (by kernel_rfl) (by kernel_rfl) ?_
  rw [(show obOf (orun g0 false 60 x14.body.b.a (mkSt (sl14 m m') (H2 q q') 2 []) [true]) = (Int.ofNat m != Int.ofNat m' && true) from by kernel_rfl)]
  simp
  omega
theorem b14 {q q' : List Int} {m m' : Nat} (h : m = m') : Exec PP T none x14.nt 0 x14.body.b.a (mkSt (sl14 m m') (H2 q q') 2 []) .n (mkSt (sl14 m m') (H2 q q') 2 []) := by
  refine exec_orun env0 false 60 [false] [0, 1] (fun _ => rfl) (by kernel_rfl) (by kernel_rfl) (by kernel_rfl) ?_
  rw [(show obOf (orun g0 false 60 x14.body.b.a (mkSt (sl14 m m') (H2 q q') 2 []) [false]) = (!Int.ofNat m != Int.ofNat m' && true) from by kernel_rfl)]
  simp
  omega
theorem cc14 {q q' : List Int} {m m' : Nat} : Exec PP T none x14.nt 0 x14.body.b.b.a.a (mkSt (sl14 m m') (H2 q q') 2 []) .n (S14 q q' m m' 0) := by
  refine exec_orun env0 false 60 [] [0, 1] (fun _ => rfl) (by kernel_rfl) (by kernel_rfl) (by kernel_rfl) (by kernel_rfl)
theorem l14a {q q' : List Int} {m m' i : Nat} (h : i < m) : Exec PP T none x14.nt 0 L14.a (S14 q q' m m' i) .n (S14 q q' m m' i) := by
  refine exec_orun env0 false 60 [true] [0, 1] (fun _ => rfl) (by kernel_rfl) (by kernel_rfl) (by kernel_rfl) ?_
  rw [(show obOf (orun g0 false 60 L14.a (S14 q q' m m' i) [true]) = (decide (Int.ofNat i < Int.ofNat m) && true) from by kernel_rfl)]
  simp
  omega
theorem l14x {q q' : List Int} {m m' : Nat} : Exec PP T none x14.nt 0 L14.a (S14 q q' m m' m) (.x 0) (S14 q q' m m' m) := by
  refine exec_orun env0 false 60 [false] [0, 1] (fun _ => rfl) (by kernel_rfl) (by kernel_rfl) (by kernel_rfl) ?_
  rw [(show obOf (orun g0 false 60 L14.a (S14 q q' m m' m) [false]) = (!decide (Int.ofNat m < Int.ofNat m) && true) from by kernel_rfl)]
  simp
theorem l14b {q q' : List Int} {m m' i : Nat} (hq : q.length = m * 2) (hq' : q'.length = m' * 2) (h : i < m) (h' : i < m') (hd : diffAt q q' i = false) : Exec PP T none x14.nt 0 L14.b.a.i (S14 q q' m m' i) .n (S14 q q' m m' i) := by
  refine exec_orun env0 false 60 [false] [0, 1] (fun _ => rfl) (by kernel_rfl) (by kernel_rfl) (by kernel_rfl) ?_
  rw [(show obOf (orun g0 false 60 L14.b.a.i (S14 q q' m m' i) [false]) = (decide (0 ≤ Int.ofNat i) && decide (Int.ofNat i < Int.ofNat m) && (decide (((0 + (0 + i) * 2).add 0).succ.succ ≤ q.length) && (decide (0 ≤ Int.ofNat i) && decide (Int.ofNat i < Int.ofNat m') && (decide (((0 + (0 + i) * 2).add 0).succ.succ ≤ q'.length) && true))) && true && (!true != ([q.getD (0 + (0 + i) * 2 + 0) 0, q.getD ((0 + (0 + i) * 2).add 0).succ 0] == [q'.getD (0 + (0 + i) * 2 + 0) 0, q'.getD ((0 + (0 + i) * 2).add 0).succ 0] && true) && true)) from by kernel_rfl)]
  have e1 : (0 + (0 + i) * 2 + 0) = 2 * i := by omega
  have e2 : ((0 + (0 + i) * 2).add 0).succ = 2 * i + 1 := by simp; omega
  unfold diffAt pa pb at hd
  simp only [e1, e2, beq_two]
  simp at hd
  simp [hd]
  omega
theorem l14r {q q' : List Int} {m m' i : Nat} (hq : q.length = m * 2) (hq' : q'.length = m' * 2) (h : i < m) (h' : i < m') (hd : diffAt q q' i = true) : Exec PP T none x14.nt 0 L14.b.a.i (S14 q q' m m' i) .r (RB 4 false) := by
  refine exec_orun env0 false 60 [true] [] (fun _ => rfl) (by kernel_rfl) (by kernel_rfl) (by kernel_rfl) ?_
  rw [(show obOf (orun g0 false 60 L14.b.a.i (S14 q q' m m' i) [true]) = (decide (0 ≤ Int.ofNat i) && decide (Int.ofNat i < Int.ofNat m) && (decide (((0 + (0 + i) * 2).add 0).succ.succ ≤ q.length) && (decide (0 ≤ Int.ofNat i) && decide (Int.ofNat i < Int.ofNat m') && (decide (((0 + (0 + i) * 2).add 0).succ.succ ≤ q'.length) && true))) && true && (true != ([q.getD (0 + (0 + i) * 2 + 0) 0, q.getD ((0 + (0 + i) * 2).add 0).succ 0] == [q'.getD (0 + (0 + i) * 2 + 0) 0, q'.getD ((0 + (0 + i) * 2).add 0).succ 0] && true) && true)) from by kernel_rfl)]
  have e1 : (0 + (0 + i) * 2 + 0) = 2 * i := by omega
  have e2 : ((0 + (0 + i) * 2).add 0).succ = 2 * i + 1 := by simp; omega
  unfold diffAt pa pb at hd
  simp only [e1, e2, beq_two]
  simp at hd
  simp
  exact ⟨by omega, hd⟩
theorem l14e {q q' : List Int} {m m' i : Nat} (h : i < m) (hm : m ≤ 1000000000) : Exec PP T none x14.nt 0 L14.b.b (S14 q q' m m' i) .n (S14 q q' m m' (i + 1)) := by
  refine exec_orun env0 false 60 [] [0, 1] (fun _ => rfl) (by kernel_rfl) (by kernel_rfl) (by kernel_rfl) ?_
  rw [(show obOf (orun g0 false 60 L14.b.b (S14 q q' m m' i) []) = (rng64 (Int.ofNat i.succ) && true) from by kernel_rfl)]
  simp [rng64]
  omega
theorem d14 {q q' : List Int} {m m' : Nat} : Exec PP T none x14.nt 0 x14.body.b.b.b (S14 q q' m m' m) .r (RB 4 true) := by
  refine exec_orun env0 false 60 [] [] (fun _ => rfl) (by kernel_rfl) (by kernel_rfl) (by kernel_rfl) (by kernel_rfl)
def sameP (q : List Int) (m : Nat) (q' : List Int) (m' : Nat) : Bool := decide (m = m') && !((List.range m).any (diffAt q q'))
theorem body14 {q q' : List Int} {m m' : Nat} (hq : q.length = m * 2) (hq' : q'.length = m' * 2) (hm : m ≤ 1000000000) : Exec PP T none x14.nt 0 x14.body (startSt [.s (.sl 0 0 2 m), .s (.sl 1 0 2 m')] (H2 q q')) .r (RB 4 (sameP q m q' m')) := by
  unfold sameP
  refine exec_seq (x := x14.body.a) (y := x14.body.b) a14 ?_
  by_cases h : m = m'
  · subst h
    rw [decide_eq_true rfl, Bool.true_and]
    refine exec_seq (x := x14.body.b.a) (y := x14.body.b.b) (b14 rfl) ?_
    cases hh : (List.range m).any (diffAt q q') with
    | true =>
      obtain ⟨p, h1, h2, h3⟩ := any_first _ _ hh
      refine exec_seq_x (x := x14.body.b.b.a) (y := x14.body.b.b.b) (exec_seq (x := x14.body.b.b.a.a) (y := .block 0 (.loop L14)) cc14 (exec_block (e := .r) ?_)) (by simp)
      exact exec_loop_up (S14 q q' m m) p (fun i hi => exec_seq (x := L14.a) (y := L14.b) (l14a (by omega)) (exec_seq (x := L14.b.a) (y := L14.b.b) (exec_block (id := 1) (x := L14.b.a.i) (e := .n) (l14b hq hq' (by omega) (by omega) (h3 i hi))) (l14e (by omega) hm))) (exec_seq (x := L14.a) (y := L14.b) (l14a h1) (exec_seq_x (x := L14.b.a) (y := L14.b.b) (exec_block (id := 1) (x := L14.b.a.i) (e := .r) (l14r hq hq' h1 h1 h2)) (by simp [XE.unblock]))) (by simp [XE.unblock]) 0 (by omega)
    | false =>
      have h3 := any_none _ _ hh
      refine exec_seq (x := x14.body.b.b.a) (y := x14.body.b.b.b) (exec_seq (x := x14.body.b.b.a.a) (y := .block 0 (.loop L14)) cc14 (exec_block (e := .x 0) ?_)) (d14 (q := q) (q' := q') (m := m) (m' := m))
      exact exec_loop_up (S14 q q' m m) m (fun i hi => exec_seq (x := L14.a) (y := L14.b) (l14a (by omega)) (exec_seq (x := L14.b.a) (y := L14.b.b) (exec_block (id := 1) (x := L14.b.a.i) (e := .n) (l14b hq hq' (by omega) (by omega) (h3 i hi))) (l14e (by omega) hm))) (exec_seq_x (x := L14.a) (y := L14.b) l14x (by simp)) (by simp) 0 (by omega)
  · rw [decide_eq_false h, Bool.false_and]
    exact exec_seq_x (x := x14.body.b.a) (y := x14.body.b.b) (b14r h) (by simp)
def gSame (args : List AV) (h : Nat → Option HO) : Option (Bool × TV × List Nat) := match args with
  | [s, t] => match srcOf (.av s) h .i64 2, srcOf (.av t) h .i64 2 with
    | some (vc, q, m, rd), some (vc', q', m', rd') => some (vc && (vc' && bndL m), B (sameP q m q' m'), rd ++ rd')
    | _, _ => none
  | _ => none
theorem ok14 : SpecOK PP (compC T) 14 (pureS gSame) := by
  refine spec_pure tokP o14 fun ctx m h w args vals u rd base hH hargs hg => ?_
  unfold gSame at hg
  split at hg
  · rename_i s t
    split at hg
    · rename_i vc q m' rd' vc' q' m2 rd2 hs ht
      simp only [Option.some.injEq, Prod.mk.injEq, Bool.and_eq_true] at hg
      obtain ⟨⟨rfl, rfl, hm⟩, rfl, rfl⟩ := hg
      match vals, hargs with
      | [v1, v2], ⟨ha1, ha2, _⟩ =>
        obtain ⟨mb, k1, k2, k3, k4⟩ := view_slice hH ha1 hs
        obtain ⟨mb', r1, r2, r3, r4⟩ := view_slice hH ha2 ht
        exact ⟨mm2 mb mb', H2 q q', [.s (.sl 0 0 2 m'), .s (.sl 1 0 2 m2)], shown_val (ts := [(4, ⟨true, B (sameP q m' q' m2)⟩)]) (ro2 k1 k2 r1 r2) ⟨k3 (mm2 mb mb') 0 rfl, r3 (mm2 mb mb') 1 rfl, trivial⟩ (by kernel_rfl) (body14 k4 r4 (by simpa [bndL] using hm)) (fun _ => rfl) (by kernel_rfl) (by kernel_rfl)⟩
    · cases hg
  · cases hg
def L52 : XC := x52.body.b.a.b.i.i
abbrev G52 (n : Nat) (f r : Nat → Bool) : List HO := [RG n f, ⟨false, .row 70 [] 49 r⟩]
abbrev sl52 (n a b : Nat) : List (Nat × Slot) := [(0, g1S 0), (2, ⟨true, I a⟩), (3, ⟨true, I b⟩), (5, g1S 1), (13, ⟨true, I n⟩)]
abbrev S52 (n : Nat) (f r : Nat → Bool) (a b c : Nat) : St := mkSt (sl52 n a b ++ [(14, ⟨true, I c⟩)]) (G52 n f r) 2 []
abbrev P52 (n : Nat) (f r : Nat → Bool) (a b c : Nat) : St := mkSt (sl52 n a b ++ [(14, ⟨true, I c⟩), (15, ⟨true, B (decide (Int.ofNat c < Int.ofNat n))⟩)]) (G52 n f r) 2 []
theorem a52 {n : Nat} {f r : Nat → Bool} {a b : Nat} : Exec PP T none x52.nt 0 x52.body.a (startSt [.s (.ptr 0 0 0), .pb [] 49 r, .s (.int .i64 (Int.ofNat a)), .s (.int .i64 (Int.ofNat b))] [RG n f]) .n (mkSt [(0, g1S 0), (2, ⟨true, I a⟩), (3, ⟨true, I b⟩), (5, g1S 1)] (G52 n f r) 2 []) := by
  refine exec_orun env0 false 60 [] [0, 1] (fun _ => rfl) (by kernel_rfl) (by kernel_rfl) (by kernel_rfl) (by kernel_rfl)
theorem b52 {n : Nat} {f r : Nat → Bool} {a b : Nat} : Exec PP T none x52.nt 0 x52.body.b.a.a (mkSt [(0, g1S 0), (2, ⟨true, I a⟩), (3, ⟨true, I b⟩), (5, g1S 1)] (G52 n f r) 2 []) .n (S52 n f r a b 0) := by
  refine exec_orun env0 false 60 [] [0, 1] (fun _ => rfl) (by kernel_rfl) (by kernel_rfl) (by kernel_rfl) (by kernel_rfl)
theorem l52a {n : Nat} {f r : Nat → Bool} {a b c : Nat} : Exec PP T none x52.nt 0 L52.a (S52 n f r a b c) .n (P52 n f r a b c) := by
  refine exec_orun env0 false 60 [] [0, 1] (fun _ => rfl) (by kernel_rfl) (by kernel_rfl) (by kernel_rfl) (by kernel_rfl)
theorem l52b {n : Nat} {f r : Nat → Bool} {a b c : Nat} (h : c < n) : Exec PP T none x52.nt 0 L52.b.a (P52 n f r a b c) .n (S52 n f r a b c) := by
  refine exec_orun env0 false 60 [true] [0, 1] (fun _ => rfl) (by kernel_rfl) (by kernel_rfl) (by kernel_rfl) ?_
  rw [(show obOf (orun g0 false 60 L52.b.a (P52 n f r a b c) [true]) = (decide (Int.ofNat c < Int.ofNat n) && true) from by kernel_rfl)]
  simp
  omega
theorem l52x {n : Nat} {f r : Nat → Bool} {a b : Nat} : Exec PP T none x52.nt 0 L52.b.a (P52 n f r a b n) (.x 0) (S52 n f r a b n) := by
  refine exec_orun env0 false 60 [false] [0, 1] (fun _ => rfl) (by kernel_rfl) (by kernel_rfl) (by kernel_rfl) ?_
  rw [(show obOf (orun g0 false 60 L52.b.a (P52 n f r a b n) [false]) = (!decide (Int.ofNat n < Int.ofNat n) && true) from by kernel_rfl)]
  simp
theorem l52e {n : Nat} {f r : Nat → Bool} {a b c : Nat} (h : c < 8) : Exec PP T none x52.nt 0 L52.b.b.b (S52 n f r a b c) .n (S52 n f r a b (c + 1)) := by
  refine exec_orun env0 false 60 [] [0, 1] (fun _ => rfl) (by kernel_rfl) (by kernel_rfl) (by kernel_rfl) ?_
  rw [(show obOf (orun g0 false 60 L52.b.b.b (S52 n f r a b c) []) = (rng64 (Int.ofNat c.succ) && true) from by kernel_rfl)]
  simp [rng64]
  omega
/-- whether a third node spoils a new arrow -/
def splC (f r : Nat → Bool) (a b c : Nat) : Bool := at7 r b c && (!(at7 f a c) || at7 r c a) || at7 r c a && (!(at7 f c b) || at7 r b c)
theorem l52n {n : Nat} {f r : Nat → Bool} {a b c : Nat} (ha : a < 7) (hb : b < 7) (hc : c < 7) (h : splC f r a b c = false) : Exec PP T none x52.nt 0 L52.b.b.a.i (S52 n f r a b c) .n (S52 n f r a b c) := by
  refine exec_orun env0 false 60 [false] [0, 1] (fun _ => rfl) (by kernel_rfl) (by kernel_rfl) (by kernel_rfl) ?_
  rw [(show obOf (orun g0 false 60 L52.b.b.a.i (S52 n f r a b c) [false]) = (decide (0 ≤ Int.ofNat b) && decide (Int.ofNat b < 7) && (decide (0 ≤ Int.ofNat c) && decide (Int.ofNat c < 7) && (decide (0 + (0 + b * 7 + c * 1) < 49) && ((!r (0 + (0 + b * 7 + c * 1)) == true || true) && ((!r (0 + (0 + b * 7 + c * 1)) == true || true) && ((!r (0 + (0 + b * 7 + c * 1)) == true || true) && ((!r (0 + (0 + b * 7 + c * 1)) == true || r (0 + (0 + b * 7 + c * 1)) == true && true && true) && ((!r (0 + (0 + b * 7 + c * 1)) == true || r (0 + (0 + b * 7 + c * 1)) == true && true && true) && ((!r (0 + (0 + b * 7 + c * 1)) == true || r (0 + (0 + b * 7 + c * 1)) == true && (r (0 + (0 + b * 7 + c * 1)) == true && true) && (decide (0 ≤ Int.ofNat a) && decide (Int.ofNat a < 7))) && ((!r (0 + (0 + b * 7 + c * 1)) == true || r (0 + (0 + b * 7 + c * 1)) == true && (r (0 + (0 + b * 7 + c * 1)) == true && true) && (decide (0 ≤ Int.ofNat c) && decide (Int.ofNat c < 7))) && ((!r (0 + (0 + b * 7 + c * 1)) == true || r (0 + (0 + b * 7 + c * 1)) == true && true && decide (0 + (0 + a * 7 + c * 1) < 49)) && ((!r (0 + (0 + b * 7 + c * 1)) == true || r (0 + (0 + b * 7 + c * 1)) == true && true && true) && ((!r (0 + (0 + b * 7 + c * 1)) == true || r (0 + (0 + b * 7 + c * 1)) == true && true && true) && ((!(r (0 + (0 + b * 7 + c * 1)) == true && (!f (0 + (0 + a * 7 + c * 1))) == false) || true) && ((!(r (0 + (0 + b * 7 + c * 1)) == true && (!f (0 + (0 + a * 7 + c * 1))) == false) || true) && ((!(r (0 + (0 + b * 7 + c * 1)) == true && (!f (0 + (0 + a * 7 + c * 1))) == false) || r (0 + (0 + b * 7 + c * 1)) == true && (!f (0 + (0 + a * 7 + c * 1))) == false && true && (decide (0 ≤ Int.ofNat c) && decide (Int.ofNat c < 7))) && ((!(r (0 + (0 + b * 7 + c * 1)) == true && (!f (0 + (0 + a * 7 + c * 1))) == false) || r (0 + (0 + b * 7 + c * 1)) == true && (!f (0 + (0 + a * 7 + c * 1))) == false && (r (0 + (0 + b * 7 + c * 1)) == true && (!f (0 + (0 + a * 7 + c * 1))) == false && true) && (decide (0 ≤ Int.ofNat a) && decide (Int.ofNat a < 7))) && ((!(r (0 + (0 + b * 7 + c * 1)) == true && (!f (0 + (0 + a * 7 + c * 1))) == false) || r (0 + (0 + b * 7 + c * 1)) == true && (!f (0 + (0 + a * 7 + c * 1))) == false && true && decide (0 + (0 + c * 7 + a * 1) < 49)) && ((!r (0 + (0 + b * 7 + c * 1)) == true || (r (0 + (0 + b * 7 + c * 1)) == true && bif !f (0 + (0 + a * 7 + c * 1)) then true else r (0 + (0 + b * 7 + c * 1)) == true && (!f (0 + (0 + a * 7 + c * 1))) == false) && true) && ((bif r (0 + (0 + b * 7 + c * 1)) then r (0 + (0 + b * 7 + c * 1)) == true else true) && true && ((!(bif r (0 + (0 + b * 7 + c * 1)) then bif !f (0 + (0 + a * 7 + c * 1)) then true else r (0 + (0 + c * 7 + a * 1)) else false) == false || true) && ((!(bif r (0 + (0 + b * 7 + c * 1)) then bif !f (0 + (0 + a * 7 + c * 1)) then true else r (0 + (0 + c * 7 + a * 1)) else false) == false || true) && ((!(bif r (0 + (0 + b * 7 + c * 1)) then bif !f (0 + (0 + a * 7 + c * 1)) then true else r (0 + (0 + c * 7 + a * 1)) else false) == false || (bif r (0 + (0 + b * 7 + c * 1)) then bif !f (0 + (0 + a * 7 + c * 1)) then true else r (0 + (0 + c * 7 + a * 1)) else false) == false && true && (decide (0 ≤ Int.ofNat c) && decide (Int.ofNat c < 7))) && ((!(bif r (0 + (0 + b * 7 + c * 1)) then bif !f (0 + (0 + a * 7 + c * 1)) then true else r (0 + (0 + c * 7 + a * 1)) else false) == false || (bif r (0 + (0 + b * 7 + c * 1)) then bif !f (0 + (0 + a * 7 + c * 1)) then true else r (0 + (0 + c * 7 + a * 1)) else false) == false && ((bif r (0 + (0 + b * 7 + c * 1)) then bif !f (0 + (0 + a * 7 + c * 1)) then true else r (0 + (0 + c * 7 + a * 1)) else false) == false && true) && (decide (0 ≤ Int.ofNat a) && decide (Int.ofNat a < 7))) && ((!(bif r (0 + (0 + b * 7 + c * 1)) then bif !f (0 + (0 + a * 7 + c * 1)) then true else r (0 + (0 + c * 7 + a * 1)) else false) == false || (bif r (0 + (0 + b * 7 + c * 1)) then bif !f (0 + (0 + a * 7 + c * 1)) then true else r (0 + (0 + c * 7 + a * 1)) else false) == false && true && decide (0 + (0 + c * 7 + a * 1) < 49)) && ((!(bif r (0 + (0 + b * 7 + c * 1)) then bif !f (0 + (0 + a * 7 + c * 1)) then true else r (0 + (0 + c * 7 + a * 1)) else false) == false || (bif r (0 + (0 + b * 7 + c * 1)) then bif !f (0 + (0 + a * 7 + c * 1)) then true else r (0 + (0 + c * 7 + a * 1)) else false) == false && true && true) && ((!((bif r (0 + (0 + b * 7 + c * 1)) then bif !f (0 + (0 + a * 7 + c * 1)) then true else r (0 + (0 + c * 7 + a * 1)) else false) == false && r (0 + (0 + c * 7 + a * 1)) == true) || true) && ((!((bif r (0 + (0 + b * 7 + c * 1)) then bif !f (0 + (0 + a * 7 + c * 1)) then true else r (0 + (0 + c * 7 + a * 1)) else false) == false && r (0 + (0 + c * 7 + a * 1)) == true) || true) && ((!((bif r (0 + (0 + b * 7 + c * 1)) then bif !f (0 + (0 + a * 7 + c * 1)) then true else r (0 + (0 + c * 7 + a * 1)) else false) == false && r (0 + (0 + c * 7 + a * 1)) == true) || true) && ((!((bif r (0 + (0 + b * 7 + c * 1)) then bif !f (0 + (0 + a * 7 + c * 1)) then true else r (0 + (0 + c * 7 + a * 1)) else false) == false && r (0 + (0 + c * 7 + a * 1)) == true) || (bif r (0 + (0 + b * 7 + c * 1)) then bif !f (0 + (0 + a * 7 + c * 1)) then true else r (0 + (0 + c * 7 + a * 1)) else false) == false && r (0 + (0 + c * 7 + a * 1)) == true && true && true) && ((!((bif r (0 + (0 + b * 7 + c * 1)) then bif !f (0 + (0 + a * 7 + c * 1)) then true else r (0 + (0 + c * 7 + a * 1)) else false) == false && r (0 + (0 + c * 7 + a * 1)) == true) || (bif r (0 + (0 + b * 7 + c * 1)) then bif !f (0 + (0 + a * 7 + c * 1)) then true else r (0 + (0 + c * 7 + a * 1)) else false) == false && r (0 + (0 + c * 7 + a * 1)) == true && true && true) && ((!((bif r (0 + (0 + b * 7 + c * 1)) then bif !f (0 + (0 + a * 7 + c * 1)) then true else r (0 + (0 + c * 7 + a * 1)) else false) == false && r (0 + (0 + c * 7 + a * 1)) == true) || (bif r (0 + (0 + b * 7 + c * 1)) then bif !f (0 + (0 + a * 7 + c * 1)) then true else r (0 + (0 + c * 7 + a * 1)) else false) == false && r (0 + (0 + c * 7 + a * 1)) == true && ((bif r (0 + (0 + b * 7 + c * 1)) then bif !f (0 + (0 + a * 7 + c * 1)) then true else r (0 + (0 + c * 7 + a * 1)) else false) == false && r (0 + (0 + c * 7 + a * 1)) == true && true) && (decide (0 ≤ Int.ofNat c) && decide (Int.ofNat c < 7))) && ((!((bif r (0 + (0 + b * 7 + c * 1)) then bif !f (0 + (0 + a * 7 + c * 1)) then true else r (0 + (0 + c * 7 + a * 1)) else false) == false && r (0 + (0 + c * 7 + a * 1)) == true) || (bif r (0 + (0 + b * 7 + c * 1)) then bif !f (0 + (0 + a * 7 + c * 1)) then true else r (0 + (0 + c * 7 + a * 1)) else false) == false && r (0 + (0 + c * 7 + a * 1)) == true && ((bif r (0 + (0 + b * 7 + c * 1)) then bif !f (0 + (0 + a * 7 + c * 1)) then true else r (0 + (0 + c * 7 + a * 1)) else false) == false && r (0 + (0 + c * 7 + a * 1)) == true && true) && (decide (0 ≤ Int.ofNat b) && decide (Int.ofNat b < 7))) && ((!((bif r (0 + (0 + b * 7 + c * 1)) then bif !f (0 + (0 + a * 7 + c * 1)) then true else r (0 + (0 + c * 7 + a * 1)) else false) == false && r (0 + (0 + c * 7 + a * 1)) == true) || (bif r (0 + (0 + b * 7 + c * 1)) then bif !f (0 + (0 + a * 7 + c * 1)) then true else r (0 + (0 + c * 7 + a * 1)) else false) == false && r (0 + (0 + c * 7 + a * 1)) == true && true && decide (0 + (0 + c * 7 + b * 1) < 49)) && ((!((bif r (0 + (0 + b * 7 + c * 1)) then bif !f (0 + (0 + a * 7 + c * 1)) then true else r (0 + (0 + c * 7 + a * 1)) else false) == false && r (0 + (0 + c * 7 + a * 1)) == true) || (bif r (0 + (0 + b * 7 + c * 1)) then bif !f (0 + (0 + a * 7 + c * 1)) then true else r (0 + (0 + c * 7 + a * 1)) else false) == false && r (0 + (0 + c * 7 + a * 1)) == true && true && true) && ((!((bif r (0 + (0 + b * 7 + c * 1)) then bif !f (0 + (0 + a * 7 + c * 1)) then true else r (0 + (0 + c * 7 + a * 1)) else false) == false && r (0 + (0 + c * 7 + a * 1)) == true) || (bif r (0 + (0 + b * 7 + c * 1)) then bif !f (0 + (0 + a * 7 + c * 1)) then true else r (0 + (0 + c * 7 + a * 1)) else false) == false && r (0 + (0 + c * 7 + a * 1)) == true && true && true) && ((!((bif r (0 + (0 + b * 7 + c * 1)) then bif !f (0 + (0 + a * 7 + c * 1)) then true else r (0 + (0 + c * 7 + a * 1)) else false) == false && r (0 + (0 + c * 7 + a * 1)) == true && (!f (0 + (0 + c * 7 + b * 1))) == false) || true) && ((!((bif r (0 + (0 + b * 7 + c * 1)) then bif !f (0 + (0 + a * 7 + c * 1)) then true else r (0 + (0 + c * 7 + a * 1)) else false) == false && r (0 + (0 + c * 7 + a * 1)) == true && (!f (0 + (0 + c * 7 + b * 1))) == false) || true) && ((!((bif r (0 + (0 + b * 7 + c * 1)) then bif !f (0 + (0 + a * 7 + c * 1)) then true else r (0 + (0 + c * 7 + a * 1)) else false) == false && r (0 + (0 + c * 7 + a * 1)) == true && (!f (0 + (0 + c * 7 + b * 1))) == false) || (bif r (0 + (0 + b * 7 + c * 1)) then bif !f (0 + (0 + a * 7 + c * 1)) then true else r (0 + (0 + c * 7 + a * 1)) else false) == false && r (0 + (0 + c * 7 + a * 1)) == true && (!f (0 + (0 + c * 7 + b * 1))) == false && true && (decide (0 ≤ Int.ofNat b) && decide (Int.ofNat b < 7))) && ((!((bif r (0 + (0 + b * 7 + c * 1)) then bif !f (0 + (0 + a * 7 + c * 1)) then true else r (0 + (0 + c * 7 + a * 1)) else false) == false && r (0 + (0 + c * 7 + a * 1)) == true && (!f (0 + (0 + c * 7 + b * 1))) == false) || (bif r (0 + (0 + b * 7 + c * 1)) then bif !f (0 + (0 + a * 7 + c * 1)) then true else r (0 + (0 + c * 7 + a * 1)) else false) == false && r (0 + (0 + c * 7 + a * 1)) == true && (!f (0 + (0 + c * 7 + b * 1))) == false && ((bif r (0 + (0 + b * 7 + c * 1)) then bif !f (0 + (0 + a * 7 + c * 1)) then true else r (0 + (0 + c * 7 + a * 1)) else false) == false && r (0 + (0 + c * 7 + a * 1)) == true && (!f (0 + (0 + c * 7 + b * 1))) == false && true) && (decide (0 ≤ Int.ofNat c) && decide (Int.ofNat c < 7))) && ((!((bif r (0 + (0 + b * 7 + c * 1)) then bif !f (0 + (0 + a * 7 + c * 1)) then true else r (0 + (0 + c * 7 + a * 1)) else false) == false && r (0 + (0 + c * 7 + a * 1)) == true && (!f (0 + (0 + c * 7 + b * 1))) == false) || (bif r (0 + (0 + b * 7 + c * 1)) then bif !f (0 + (0 + a * 7 + c * 1)) then true else r (0 + (0 + c * 7 + a * 1)) else false) == false && r (0 + (0 + c * 7 + a * 1)) == true && (!f (0 + (0 + c * 7 + b * 1))) == false && true && decide (0 + (0 + b * 7 + c * 1) < 49)) && ((!((bif r (0 + (0 + b * 7 + c * 1)) then bif !f (0 + (0 + a * 7 + c * 1)) then true else r (0 + (0 + c * 7 + a * 1)) else false) == false && r (0 + (0 + c * 7 + a * 1)) == true) || ((bif r (0 + (0 + b * 7 + c * 1)) then bif !f (0 + (0 + a * 7 + c * 1)) then true else r (0 + (0 + c * 7 + a * 1)) else false) == false && r (0 + (0 + c * 7 + a * 1)) == true && bif !f (0 + (0 + c * 7 + b * 1)) then true else (bif r (0 + (0 + b * 7 + c * 1)) then bif !f (0 + (0 + a * 7 + c * 1)) then true else r (0 + (0 + c * 7 + a * 1)) else false) == false && r (0 + (0 + c * 7 + a * 1)) == true && (!f (0 + (0 + c * 7 + b * 1))) == false) && true) && ((!(bif r (0 + (0 + b * 7 + c * 1)) then bif !f (0 + (0 + a * 7 + c * 1)) then true else r (0 + (0 + c * 7 + a * 1)) else false) == false || ((bif r (0 + (0 + b * 7 + c * 1)) then bif !f (0 + (0 + a * 7 + c * 1)) then true else r (0 + (0 + c * 7 + a * 1)) else false) == false && bif r (0 + (0 + c * 7 + a * 1)) then (bif r (0 + (0 + b * 7 + c * 1)) then bif !f (0 + (0 + a * 7 + c * 1)) then true else r (0 + (0 + c * 7 + a * 1)) else false) == false && r (0 + (0 + c * 7 + a * 1)) == true else true) && true) && ((bif bif r (0 + (0 + b * 7 + c * 1)) then bif !f (0 + (0 + a * 7 + c * 1)) then true else r (0 + (0 + c * 7 + a * 1)) else false then true else (bif r (0 + (0 + b * 7 + c * 1)) then bif !f (0 + (0 + a * 7 + c * 1)) then true else r (0 + (0 + c * 7 + a * 1)) else false) == false) && true && true))))))))))))))))))))))))))))))))))))))))))) && ((!bif bif r (0 + (0 + b * 7 + c * 1)) then bif !f (0 + (0 + a * 7 + c * 1)) then true else r (0 + (0 + c * 7 + a * 1)) else false then true else bif r (0 + (0 + c * 7 + a * 1)) then bif !f (0 + (0 + c * 7 + b * 1)) then true else r (0 + (0 + b * 7 + c * 1)) else false) && true)) from by kernel_rfl)]
  simp only [at7_raw, dI0, dI7 ha, dI7 hb, dI7 hc, dI49 ha hc, dI49 hb hc, dI49 hc hb, dI49 hc ha]
  unfold splC at h
  revert h
  cases at7 r b c <;> cases at7 f a c <;> cases at7 r c a <;> cases at7 f c b <;> simp
theorem l52r {n : Nat} {f r : Nat → Bool} {a b c : Nat} (ha : a < 7) (hb : b < 7) (hc : c < 7) (h : splC f r a b c = true) : Exec PP T none x52.nt 0 L52.b.b.a.i (S52 n f r a b c) .r (RB 8 true) := by
  refine exec_orun env0 false 60 [true] [] (fun _ => rfl) (by kernel_rfl) (by kernel_rfl) (by kernel_rfl) ?_
  rw [(show obOf (orun g0 false 60 L52.b.b.a.i (S52 n f r a b c) [true]) = (decide (0 ≤ Int.ofNat b) && decide (Int.ofNat b < 7) && (decide (0 ≤ Int.ofNat c) && decide (Int.ofNat c < 7) && (decide (0 + (0 + b * 7 + c * 1) < 49) && ((!r (0 + (0 + b * 7 + c * 1)) == true || true) && ((!r (0 + (0 + b * 7 + c * 1)) == true || true) && ((!r (0 + (0 + b * 7 + c * 1)) == true || true) && ((!r (0 + (0 + b * 7 + c * 1)) == true || r (0 + (0 + b * 7 + c * 1)) == true && true && true) && ((!r (0 + (0 + b * 7 + c * 1)) == true || r (0 + (0 + b * 7 + c * 1)) == true && true && true) && ((!r (0 + (0 + b * 7 + c * 1)) == true || r (0 + (0 + b * 7 + c * 1)) == true && (r (0 + (0 + b * 7 + c * 1)) == true && true) && (decide (0 ≤ Int.ofNat a) && decide (Int.ofNat a < 7))) && ((!r (0 + (0 + b * 7 + c * 1)) == true || r (0 + (0 + b * 7 + c * 1)) == true && (r (0 + (0 + b * 7 + c * 1)) == true && true) && (decide (0 ≤ Int.ofNat c) && decide (Int.ofNat c < 7))) && ((!r (0 + (0 + b * 7 + c * 1)) == true || r (0 + (0 + b * 7 + c * 1)) == true && true && decide (0 + (0 + a * 7 + c * 1) < 49)) && ((!r (0 + (0 + b * 7 + c * 1)) == true || r (0 + (0 + b * 7 + c * 1)) == true && true && true) && ((!r (0 + (0 + b * 7 + c * 1)) == true || r (0 + (0 + b * 7 + c * 1)) == true && true && true) && ((!(r (0 + (0 + b * 7 + c * 1)) == true && (!f (0 + (0 + a * 7 + c * 1))) == false) || true) && ((!(r (0 + (0 + b * 7 + c * 1)) == true && (!f (0 + (0 + a * 7 + c * 1))) == false) || true) && ((!(r (0 + (0 + b * 7 + c * 1)) == true && (!f (0 + (0 + a * 7 + c * 1))) == false) || r (0 + (0 + b * 7 + c * 1)) == true && (!f (0 + (0 + a * 7 + c * 1))) == false && true && (decide (0 ≤ Int.ofNat c) && decide (Int.ofNat c < 7))) && ((!(r (0 + (0 + b * 7 + c * 1)) == true && (!f (0 + (0 + a * 7 + c * 1))) == false) || r (0 + (0 + b * 7 + c * 1)) == true && (!f (0 + (0 + a * 7 + c * 1))) == false && (r (0 + (0 + b * 7 + c * 1)) == true && (!f (0 + (0 + a * 7 + c * 1))) == false && true) && (decide (0 ≤ Int.ofNat a) && decide (Int.ofNat a < 7))) && ((!(r (0 + (0 + b * 7 + c * 1)) == true && (!f (0 + (0 + a * 7 + c * 1))) == false) || r (0 + (0 + b * 7 + c * 1)) == true && (!f (0 + (0 + a * 7 + c * 1))) == false && true && decide (0 + (0 + c * 7 + a * 1) < 49)) && ((!r (0 + (0 + b * 7 + c * 1)) == true || (r (0 + (0 + b * 7 + c * 1)) == true && bif !f (0 + (0 + a * 7 + c * 1)) then true else r (0 + (0 + b * 7 + c * 1)) == true && (!f (0 + (0 + a * 7 + c * 1))) == false) && true) && ((bif r (0 + (0 + b * 7 + c * 1)) then r (0 + (0 + b * 7 + c * 1)) == true else true) && true && ((!(bif r (0 + (0 + b * 7 + c * 1)) then bif !f (0 + (0 + a * 7 + c * 1)) then true else r (0 + (0 + c * 7 + a * 1)) else false) == false || true) && ((!(bif r (0 + (0 + b * 7 + c * 1)) then bif !f (0 + (0 + a * 7 + c * 1)) then true else r (0 + (0 + c * 7 + a * 1)) else false) == false || true) && ((!(bif r (0 + (0 + b * 7 + c * 1)) then bif !f (0 + (0 + a * 7 + c * 1)) then true else r (0 + (0 + c * 7 + a * 1)) else false) == false || (bif r (0 + (0 + b * 7 + c * 1)) then bif !f (0 + (0 + a * 7 + c * 1)) then true else r (0 + (0 + c * 7 + a * 1)) else false) == false && true && (decide (0 ≤ Int.ofNat c) && decide (Int.ofNat c < 7))) && ((!(bif r (0 + (0 + b * 7 + c * 1)) then bif !f (0 + (0 + a * 7 + c * 1)) then true else r (0 + (0 + c * 7 + a * 1)) else false) == false || (bif r (0 + (0 + b * 7 + c * 1)) then bif !f (0 + (0 + a * 7 + c * 1)) then true else r (0 + (0 + c * 7 + a * 1)) else false) == false && ((bif r (0 + (0 + b * 7 + c * 1)) then bif !f (0 + (0 + a * 7 + c * 1)) then true else r (0 + (0 + c * 7 + a * 1)) else false) == false && true) && (decide (0 ≤ Int.ofNat a) && decide (Int.ofNat a < 7))) && ((!(bif r (0 + (0 + b * 7 + c * 1)) then bif !f (0 + (0 + a * 7 + c * 1)) then true else r (0 + (0 + c * 7 + a * 1)) else false) == false || (bif r (0 + (0 + b * 7 + c * 1)) then bif !f (0 + (0 + a * 7 + c * 1)) then true else r (0 + (0 + c * 7 + a * 1)) else false) == false && true && decide (0 + (0 + c * 7 + a * 1) < 49)) && ((!(bif r (0 + (0 + b * 7 + c * 1)) then bif !f (0 + (0 + a * 7 + c * 1)) then true else r (0 + (0 + c * 7 + a * 1)) else false) == false || (bif r (0 + (0 + b * 7 + c * 1)) then bif !f (0 + (0 + a * 7 + c * 1)) then true else r (0 + (0 + c * 7 + a * 1)) else false) == false && true && true) && ((!((bif r (0 + (0 + b * 7 + c * 1)) then bif !f (0 + (0 + a * 7 + c * 1)) then true else r (0 + (0 + c * 7 + a * 1)) else false) == false && r (0 + (0 + c * 7 + a * 1)) == true) || true) && ((!((bif r (0 + (0 + b * 7 + c * 1)) then bif !f (0 + (0 + a * 7 + c * 1)) then true else r (0 + (0 + c * 7 + a * 1)) else false) == false && r (0 + (0 + c * 7 + a * 1)) == true) || true) && ((!((bif r (0 + (0 + b * 7 + c * 1)) then bif !f (0 + (0 + a * 7 + c * 1)) then true else r (0 + (0 + c * 7 + a * 1)) else false) == false && r (0 + (0 + c * 7 + a * 1)) == true) || true) && ((!((bif r (0 + (0 + b * 7 + c * 1)) then bif !f (0 + (0 + a * 7 + c * 1)) then true else r (0 + (0 + c * 7 + a * 1)) else false) == false && r (0 + (0 + c * 7 + a * 1)) == true) || (bif r (0 + (0 + b * 7 + c * 1)) then bif !f (0 + (0 + a * 7 + c * 1)) then true else r (0 + (0 + c * 7 + a * 1)) else false) == false && r (0 + (0 + c * 7 + a * 1)) == true && true && true) && ((!((bif r (0 + (0 + b * 7 + c * 1)) then bif !f (0 + (0 + a * 7 + c * 1)) then true else r (0 + (0 + c * 7 + a * 1)) else false) == false && r (0 + (0 + c * 7 + a * 1)) == true) || (bif r (0 + (0 + b * 7 + c * 1)) then bif !f (0 + (0 + a * 7 + c * 1)) then true else r (0 + (0 + c * 7 + a * 1)) else false) == false && r (0 + (0 + c * 7 + a * 1)) == true && true && true) && ((!((bif r (0 + (0 + b * 7 + c * 1)) then bif !f (0 + (0 + a * 7 + c * 1)) then true else r (0 + (0 + c * 7 + a * 1)) else false) == false && r (0 + (0 + c * 7 + a * 1)) == true) || (bif r (0 + (0 + b * 7 + c * 1)) then bif !f (0 + (0 + a * 7 + c * 1)) then true else r (0 + (0 + c * 7 + a * 1)) else false) == false && r (0 + (0 + c * 7 + a * 1)) == true && ((bif r (0 + (0 + b * 7 + c * 1)) then bif !f (0 + (0 + a * 7 + c * 1)) then true else r (0 + (0 + c * 7 + a * 1)) else false) == false && r (0 + (0 + c * 7 + a * 1)) == true && true) && (decide (0 ≤ Int.ofNat c) && decide (Int.ofNat c < 7))) && ((!((bif r (0 + (0 + b * 7 + c * 1)) then bif !f (0 + (0 + a * 7 + c * 1)) then true else r (0 + (0 + c * 7 + a * 1)) else false) == false && r (0 + (0 + c * 7 + a * 1)) == true) || (bif r (0 + (0 + b * 7 + c * 1)) then bif !f (0 + (0 + a * 7 + c * 1)) then true else r (0 + (0 + c * 7 + a * 1)) else false) == false && r (0 + (0 + c * 7 + a * 1)) == true && ((bif r (0 + (0 + b * 7 + c * 1)) then bif !f (0 + (0 + a * 7 + c * 1)) then true else r (0 + (0 + c * 7 + a * 1)) else false) == false && r (0 + (0 + c * 7 + a * 1)) == true && true) && (decide (0 ≤ Int.ofNat b) && decide (Int.ofNat b < 7))) && ((!((bif r (0 + (0 + b * 7 + c * 1)) then bif !f (0 + (0 + a * 7 + c * 1)) then true else r (0 + (0 + c * 7 + a * 1)) else false) == false && r (0 + (0 + c * 7 + a * 1)) == true) || (bif r (0 + (0 + b * 7 + c * 1)) then bif !f (0 + (0 + a * 7 + c * 1)) then true else r (0 + (0 + c * 7 + a * 1)) else false) == false && r (0 + (0 + c * 7 + a * 1)) == true && true && decide (0 + (0 + c * 7 + b * 1) < 49)) && ((!((bif r (0 + (0 + b * 7 + c * 1)) then bif !f (0 + (0 + a * 7 + c * 1)) then true else r (0 + (0 + c * 7 + a * 1)) else false) == false && r (0 + (0 + c * 7 + a * 1)) == true) || (bif r (0 + (0 + b * 7 + c * 1)) then bif !f (0 + (0 + a * 7 + c * 1)) then true else r (0 + (0 + c * 7 + a * 1)) else false) == false && r (0 + (0 + c * 7 + a * 1)) == true && true && true) && ((!((bif r (0 + (0 + b * 7 + c * 1)) then bif !f (0 + (0 + a * 7 + c * 1)) then true else r (0 + (0 + c * 7 + a * 1)) else false) == false && r (0 + (0 + c * 7 + a * 1)) == true) || (bif r (0 + (0 + b * 7 + c * 1)) then bif !f (0 + (0 + a * 7 + c * 1)) then true else r (0 + (0 + c * 7 + a * 1)) else false) == false && r (0 + (0 + c * 7 + a * 1)) == true && true && true) && ((!((bif r (0 + (0 + b * 7 + c * 1)) then bif !f (0 + (0 + a * 7 + c * 1)) then true else r (0 + (0 + c * 7 + a * 1)) else false) == false && r (0 + (0 + c * 7 + a * 1)) == true && (!f (0 + (0 + c * 7 + b * 1))) == false) || true) && ((!((bif r (0 + (0 + b * 7 + c * 1)) then bif !f (0 + (0 + a * 7 + c * 1)) then true else r (0 + (0 + c * 7 + a * 1)) else false) == false && r (0 + (0 + c * 7 + a * 1)) == true && (!f (0 + (0 + c * 7 + b * 1))) == false) || true) && ((!((bif r (0 + (0 + b * 7 + c * 1)) then bif !f (0 + (0 + a * 7 + c * 1)) then true else r (0 + (0 + c * 7 + a * 1)) else false) == false && r (0 + (0 + c * 7 + a * 1)) == true && (!f (0 + (0 + c * 7 + b * 1))) == false) || (bif r (0 + (0 + b * 7 + c * 1)) then bif !f (0 + (0 + a * 7 + c * 1)) then true else r (0 + (0 + c * 7 + a * 1)) else false) == false && r (0 + (0 + c * 7 + a * 1)) == true && (!f (0 + (0 + c * 7 + b * 1))) == false && true && (decide (0 ≤ Int.ofNat b) && decide (Int.ofNat b < 7))) && ((!((bif r (0 + (0 + b * 7 + c * 1)) then bif !f (0 + (0 + a * 7 + c * 1)) then true else r (0 + (0 + c * 7 + a * 1)) else false) == false && r (0 + (0 + c * 7 + a * 1)) == true && (!f (0 + (0 + c * 7 + b * 1))) == false) || (bif r (0 + (0 + b * 7 + c * 1)) then bif !f (0 + (0 + a * 7 + c * 1)) then true else r (0 + (0 + c * 7 + a * 1)) else false) == false && r (0 + (0 + c * 7 + a * 1)) == true && (!f (0 + (0 + c * 7 + b * 1))) == false && ((bif r (0 + (0 + b * 7 + c * 1)) then bif !f (0 + (0 + a * 7 + c * 1)) then true else r (0 + (0 + c * 7 + a * 1)) else false) == false && r (0 + (0 + c * 7 + a * 1)) == true && (!f (0 + (0 + c * 7 + b * 1))) == false && true) && (decide (0 ≤ Int.ofNat c) && decide (Int.ofNat c < 7))) && ((!((bif r (0 + (0 + b * 7 + c * 1)) then bif !f (0 + (0 + a * 7 + c * 1)) then true else r (0 + (0 + c * 7 + a * 1)) else false) == false && r (0 + (0 + c * 7 + a * 1)) == true && (!f (0 + (0 + c * 7 + b * 1))) == false) || (bif r (0 + (0 + b * 7 + c * 1)) then bif !f (0 + (0 + a * 7 + c * 1)) then true else r (0 + (0 + c * 7 + a * 1)) else false) == false && r (0 + (0 + c * 7 + a * 1)) == true && (!f (0 + (0 + c * 7 + b * 1))) == false && true && decide (0 + (0 + b * 7 + c * 1) < 49)) && ((!((bif r (0 + (0 + b * 7 + c * 1)) then bif !f (0 + (0 + a * 7 + c * 1)) then true else r (0 + (0 + c * 7 + a * 1)) else false) == false && r (0 + (0 + c * 7 + a * 1)) == true) || ((bif r (0 + (0 + b * 7 + c * 1)) then bif !f (0 + (0 + a * 7 + c * 1)) then true else r (0 + (0 + c * 7 + a * 1)) else false) == false && r (0 + (0 + c * 7 + a * 1)) == true && bif !f (0 + (0 + c * 7 + b * 1)) then true else (bif r (0 + (0 + b * 7 + c * 1)) then bif !f (0 + (0 + a * 7 + c * 1)) then true else r (0 + (0 + c * 7 + a * 1)) else false) == false && r (0 + (0 + c * 7 + a * 1)) == true && (!f (0 + (0 + c * 7 + b * 1))) == false) && true) && ((!(bif r (0 + (0 + b * 7 + c * 1)) then bif !f (0 + (0 + a * 7 + c * 1)) then true else r (0 + (0 + c * 7 + a * 1)) else false) == false || ((bif r (0 + (0 + b * 7 + c * 1)) then bif !f (0 + (0 + a * 7 + c * 1)) then true else r (0 + (0 + c * 7 + a * 1)) else false) == false && bif r (0 + (0 + c * 7 + a * 1)) then (bif r (0 + (0 + b * 7 + c * 1)) then bif !f (0 + (0 + a * 7 + c * 1)) then true else r (0 + (0 + c * 7 + a * 1)) else false) == false && r (0 + (0 + c * 7 + a * 1)) == true else true) && true) && ((bif bif r (0 + (0 + b * 7 + c * 1)) then bif !f (0 + (0 + a * 7 + c * 1)) then true else r (0 + (0 + c * 7 + a * 1)) else false then true else (bif r (0 + (0 + b * 7 + c * 1)) then bif !f (0 + (0 + a * 7 + c * 1)) then true else r (0 + (0 + c * 7 + a * 1)) else false) == false) && true && true))))))))))))))))))))))))))))))))))))))))))) && ((bif bif r (0 + (0 + b * 7 + c * 1)) then bif !f (0 + (0 + a * 7 + c * 1)) then true else r (0 + (0 + c * 7 + a * 1)) else false then true else bif r (0 + (0 + c * 7 + a * 1)) then bif !f (0 + (0 + c * 7 + b * 1)) then true else r (0 + (0 + b * 7 + c * 1)) else false) && true)) from by kernel_rfl)]
  simp only [at7_raw, dI0, dI7 ha, dI7 hb, dI7 hc, dI49 ha hc, dI49 hb hc, dI49 hc hb, dI49 hc ha]
  unfold splC at h
  revert h
  cases at7 r b c <;> cases at7 f a c <;> cases at7 r c a <;> cases at7 f c b <;> simp
theorem d52 {n : Nat} {f r : Nat → Bool} {a b : Nat} : Exec PP T none x52.nt 0 x52.body.b.b (S52 n f r a b n) .r (RB 8 false) := by
  refine exec_orun env0 false 60 [] [] (fun _ => rfl) (by kernel_rfl) (by kernel_rfl) (by kernel_rfl) (by kernel_rfl)
def splB (n : Nat) (f r : Nat → Bool) (a b : Nat) : Bool := (List.range n).any (splC f r a b)
theorem body52 {n : Nat} {f r : Nat → Bool} {a b : Nat} (hn : n ≤ 7) (ha : a < 7) (hb : b < 7) : Exec PP T none x52.nt 0 x52.body (startSt [.s (.ptr 0 0 0), .pb [] 49 r, .s (.int .i64 (Int.ofNat a)), .s (.int .i64 (Int.ofNat b))] [RG n f]) .r (RB 8 (splB n f r a b)) := by
  unfold splB
  refine exec_seq (x := x52.body.a) (y := x52.body.b) a52 ?_
  have stp : ∀ i, i < n → splC f r a b i = false → Exec PP T none x52.nt 0 L52 (S52 n f r a b i) .n (S52 n f r a b (i + 1)) := fun i hi h =>
    exec_seq (x := L52.a) (y := L52.b) l52a (exec_seq (x := L52.b.a) (y := L52.b.b) (l52b hi) (exec_seq (x := L52.b.b.a) (y := L52.b.b.b) (exec_block (id := 1) (x := L52.b.b.a.i) (e := .n) (l52n ha hb (by omega) h)) (l52e (by omega))))
  cases hh : (List.range n).any (splC f r a b) with
  | true =>
    obtain ⟨p, h1, h2, h3⟩ := any_first _ _ hh
    refine exec_seq_x (x := x52.body.b.a) (y := x52.body.b.b) (exec_seq (x := x52.body.b.a.a) (y := .block 0 (.loop L52)) b52 (exec_block (e := .r) ?_)) (by simp)
    exact exec_loop_up (S52 n f r a b) p (fun i hi => stp i (by omega) (h3 i hi)) (exec_seq (x := L52.a) (y := L52.b) l52a (exec_seq (x := L52.b.a) (y := L52.b.b) (l52b h1) (exec_seq_x (x := L52.b.b.a) (y := L52.b.b.b) (exec_block (id := 1) (x := L52.b.b.a.i) (e := .r) (l52r ha hb (by omega) h2)) (by simp [XE.unblock])))) (by simp [XE.unblock]) 0 (by omega)
  | false =>
    have h3 := any_none _ _ hh
    refine exec_seq (x := x52.body.b.a) (y := x52.body.b.b) (exec_seq (x := x52.body.b.a.a) (y := .block 0 (.loop L52)) b52 (exec_block (e := .x 0) ?_)) (d52 (n := n) (f := f) (r := r) (a := a) (b := b))
    exact exec_loop_up (S52 n f r a b) n (fun i hi => stp i hi (h3 i hi)) (exec_seq (x := L52.a) (y := L52.b) l52a (exec_seq_x (x := L52.b.a) (y := L52.b.b) l52x (by simp))) (by simp) 0 (by omega)
def gSpoilt (args : List AV) (h : Nat → Option HO) : Option (Bool × TV × List Nat) := match args with
  | [.s (.ptr g 0 0), .pb [] 49 r, .s (.int .i64 a), .s (.int .i64 b)] => match h g with
    | some ⟨_, .row 115 [.int .i64 n] 49 f⟩ => some (decide (0 ≤ a) && (decide (a < 7) && (decide (0 ≤ b) && (decide (b < 7) && (decide (0 ≤ n) && decide (n ≤ 7))))), B (splB n.toNat f r a.toNat b.toNat), [g])
    | _ => none
  | _ => none
theorem gSpoilt_fp : PureFp gSpoilt := by
  intro args h h' q hg hf
  unfold gSpoilt at hg ⊢
  split at hg
  case h_2 => cases hg
  split at hg
  case h_2 => cases hg
  rename_i hgg
  cases hg
  simp only [hf _ (List.mem_singleton.2 rfl), hgg]
theorem ok52 : SpecOK PP (compC T) 52 (pureS gSpoilt) := by
  refine spec_pure tokP o52 fun ctx m h w args vals u rd base hH hargs hg => ?_
  unfold gSpoilt at hg
  split at hg
  case h_2 => cases hg
  rename_i g r a b
  split at hg
  case h_2 => cases hg
  rename_i ro n f hgg
  simp only [Option.some.injEq, Prod.mk.injEq, Bool.and_eq_true, decide_eq_true_eq] at hg
  obtain ⟨⟨h0, h1, h2, h3, h4, h5⟩, rfl, rfl⟩ := hg
  obtain ⟨a, rfl⟩ : ∃ k : Nat, a = Int.ofNat k := ⟨a.toNat, by simp; omega⟩
  obtain ⟨b, rfl⟩ : ∃ k : Nat, b = Int.ofNat k := ⟨b.toNat, by simp; omega⟩
  obtain ⟨n, rfl⟩ : ∃ k : Nat, n = Int.ofNat k := ⟨n.toNat, by simp; omega⟩
  match vals, hargs with
  | [v1, v2, v3, v4], ⟨ha1, ha2, ha3, ha4, _⟩ =>
    obtain ⟨mb, k1, k2, k3⟩ := view_row hH ha1 hgg (eqB_refl 49 f)
    exact ⟨mm1 mb, [RG n f], [.s (.ptr 0 0 0), .pb [] 49 r, .s (.int .i64 (Int.ofNat a)), .s (.int .i64 (Int.ofNat b))], shown_val (ts := [(8, ⟨true, B (splB n f r a b)⟩)]) (ro1 k1 k2) ⟨k3 (mm1 mb) 0 rfl, pb0_any ha2, ha3, ha4, trivial⟩ (by kernel_rfl) (body52 (by simp at h5; omega) (by simp at h1; omega) (by simp at h3; omega)) (fun _ => rfl) (by kernel_rfl) (by kernel_rfl)⟩
end Go.Proofs.Yteekkjfjpoaihaa.Eng

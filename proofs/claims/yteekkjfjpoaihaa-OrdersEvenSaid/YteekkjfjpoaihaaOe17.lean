/- A part of the proof of ordersEven_holds. -/
import Derived.Test.YteekkjfjpoaihaaOe07
set_option linter.all false
namespace Go.Proofs.Yteekkjfjpoaihaa.Eng
open Go Go.Proofs
section
variable {P : Program} {T : Tab} {r : Option Nat} {Γ : Cal → Option Spec} {nt kp : Nat}
def liveAt (hs : List HO) (j : Nat) : Bool := match hs[j]? with | some h => h.live | none => false
/-- the conditions of another view that may drop objects and keeps loops where they are -/
def mkOkG (ts : List (Nat × Slot)) (hs : List HO) (ids : List Nat) (kp : Nat) : Bool :=
  ts.all (fun p => p.2.v.idsLt hs.length) && hs.all (fun h => h.o.idsLt hs.length && (!h.o.isLoop || h.o.ids.all fun j => Nat.beq (ids.getD j 0) j)) && ((List.range hs.length).all fun i => (List.range hs.length).all fun j => Nat.beq i j || (!(liveAt hs i) || (!(liveAt hs j) || !(Nat.beq (ids.getD i 0) (ids.getD j 0))))) && Nat.beq ids.length hs.length && keepsK kp ids 0
theorem live_gone {h : HO} (hl : h.live = false) : h.o = .gone := by
  unfold HO.live at hl
  cases ho : h.o <;> rw [ho] at hl <;> first | rfl | cases hl
theorem HO.live_ren (ρ : Nat → Nat) (ho : HO) : (ho.ren ρ).live = ho.live := by
  unfold HO.live HO.ren
  cases ho.o <;> rfl
theorem weak_mkG {S : St} {ts : List (Nat × Slot)} {hs : List HO} {nx : Nat} {df : List Nat} {ids : List Nat} (hok : mkOkG ts hs ids kp = true)
    (hts : ∀ p ∈ ts, S.sl.get p.1 = some ⟨p.2.c, p.2.v.ren fun j => ids.getD j 0⟩) (hhs : ∀ j h, hs[j]? = some h → (h.live = true → S.hp.get (ids.getD j 0) = some (h.ren fun j => ids.getD j 0)) ∧ (h.live = false → (S.hp.get (ids.getD j 0)).isSome = true)) (hdf : S.df = df.map fun j => ids.getD j 0) (hdl : ∀ j ∈ df, j < hs.length) :
    Weak T kp S (mkSt ts hs nx df) := by
  intro ctx nt m a w hR
  simp only [mkOkG, Bool.and_eq_true] at hok
  obtain ⟨⟨⟨⟨h1, h2⟩, h3⟩, h4⟩, h5⟩ := hok
  have hlen := Nat.eq_of_beq_eq_true h4
  let m2 : MM := fun j => if j < hs.length then m (ids.getD j 0) else none
  have hm2 : ∀ j, j < hs.length → m2 j = m (ids.getD j 0) := fun j hj => by simp only [m2, if_pos hj]
  have hdist : ∀ i j hi hj, hs[i]? = some hi → hs[j]? = some hj → hi.live = true → hj.live = true → i ≠ j → ids.getD i 0 ≠ ids.getD j 0 := by
    intro i j hi hj e1 e2 l1 l2 hne he
    have g1 := (List.getElem?_eq_some_iff.1 e1).1
    have g2 := (List.getElem?_eq_some_iff.1 e2).1
    have := List.all_eq_true.1 (List.all_eq_true.1 h3 i (List.mem_range.2 g1)) j (List.mem_range.2 g2)
    simp only [liveAt, e1, e2, l1, l2, Bool.not_true, Bool.false_or, Bool.or_eq_true, Bool.not_eq_true'] at this
    rcases this with h | h
    · exact hne (Nat.eq_of_beq_eq_true h)
    · rw [beqT he] at h; cases h
  refine ⟨m2, fun id mb hid hmb => ?_, fun t s hts' => ?_, hR.size, ?_, ?_⟩
  · have := keepsK_spec h5 id hid
    have hl : id < ids.length := (List.getElem?_eq_some_iff.1 this).1
    rw [hm2 id (by omega)]
    have e : ids.getD id 0 = id := by rw [List.getD_eq_getElem?_getD, this]; simp
    rw [e]
    exact hmb
  · have hm := alGet_mem hts'
    have := hts _ hm
    have hs1 := hR.slot t _ this
    refine ⟨fun c => TR.unren (hs1.1 c) fun j hj => hm2 j ?_, hs1.2⟩
    have := List.all_eq_true.1 (List.all_eq_true.1 h1 _ hm) j hj
    exact Nat.le_of_ble_eq_true this
  · refine ⟨fun id ho hid => ?_, fun id id' ho ho' mb mb' b hne hid hid' hro hl hl' hm hm' hb => ?_, fun id hid => ?_, hR.heap.os, hR.heap.tape, hR.heap.output, hR.heap.size, hR.heap.same0⟩
    · rw [mkSt_hp] at hid
      have hlt := (List.getElem?_eq_some_iff.1 hid).1
      have hin := List.all_eq_true.1 h2 ho (List.mem_of_getElem? hid)
      simp only [Bool.and_eq_true, Bool.or_eq_true, Bool.not_eq_true'] at hin
      cases hlv : ho.live with
      | true =>
        obtain ⟨mb, g1, g2, g3, g4⟩ := hR.heap.obj _ _ ((hhs id ho hid).1 hlv)
        refine ⟨mb, by rw [hm2 id hlt]; exact g1, ?_, fun _ => g3 (by rw [HO.live_ren]; exact hlv), fun hro _ => g4 hro (by rw [HO.live_ren]; exact hlv)⟩
        rcases hin.2 with hl | hl
        · exact OR.unren g2 (fun j hj => hm2 j (Nat.le_of_ble_eq_true (List.all_eq_true.1 hin.1 j hj))) hl
        · have hfix : ∀ j ∈ ho.o.ids, m2 j = m j := fun j hj => by
            rw [hm2 j (Nat.le_of_ble_eq_true (List.all_eq_true.1 hin.1 j hj)), Nat.eq_of_beq_eq_true (List.all_eq_true.1 hl j hj)]
          cases hlo : ho.o.isLoop with
          | false => exact OR.unren g2 (fun j hj => hm2 j (Nat.le_of_ble_eq_true (List.all_eq_true.1 hin.1 j hj))) hlo
          | true =>
            have e : (ho.ren fun j => ids.getD j 0).o = ho.o := by
              unfold HO.ren
              cases ho' : ho.o <;> rw [ho'] at hlo <;> first | rfl | cases hlo
            rw [e] at g2
            exact g2.sub hfix
      | false =>
        obtain ⟨h', hh'⟩ := Option.isSome_iff_exists.1 ((hhs id ho hid).2 hlv)
        obtain ⟨mb, g1, _⟩ := hR.heap.obj _ _ hh'
        refine ⟨mb, by rw [hm2 id hlt]; exact g1, ?_, fun h => by simp at h, fun _ h => by simp at h⟩
        rw [live_gone hlv]
        trivial
    · rw [mkSt_hp] at hid hid'
      have hlt := (List.getElem?_eq_some_iff.1 hid).1
      have hlt' := (List.getElem?_eq_some_iff.1 hid').1
      rw [hm2 id hlt] at hm
      rw [hm2 id' hlt'] at hm'
      exact hR.heap.dist _ _ _ _ mb mb' b (hdist id id' ho ho' hid hid' hl hl' hne) ((hhs id ho hid).1 hl) ((hhs id' ho' hid').1 hl') hro (by rw [HO.live_ren]; exact hl) (by rw [HO.live_ren]; exact hl') hm hm' hb
    · rw [mkSt_hp, List.getElem?_eq_none_iff] at hid
      simp only [m2, if_neg (by omega : ¬ id < hs.length)]
  · show All2 _ df a.defers
    have := hR.df
    rw [hdf] at this
    revert this hdl
    generalize a.defers = ds
    clear hdf
    induction df generalizing ds with
    | nil => intro _ h; cases ds with
      | nil => trivial
      | cons _ _ => exact h.elim
    | cons x df ih =>
      intro hd h
      cases ds with
      | nil => exact h.elim
      | cons d ds =>
        obtain ⟨⟨mb, b, e1, e2⟩, h2⟩ := h
        exact ⟨⟨mb, b, by rw [hm2 x (hd x (by simp))]; exact e1, e2⟩, ih ds (fun j hj => hd j (by simp [hj])) h2⟩
/-- what is looked at: the slots, the live objects -/
def lookH (h : HO) (x : Option HO) : Option HO := bif h.live then x else x.map fun _ => goneH
noncomputable def viewG (ts ids : List Nat) (hs : List HO) (S : St) : List (Option Slot) × List (Option HO) × List Nat :=
  (ts.map S.sl.get, (ids.zip hs).map fun p => lookH p.2 (S.hp.get p.1), S.df)
theorem weak_viewG {S : St} {ts : List (Nat × Slot)} {hs : List HO} {nx : Nat} {df ids : List Nat}
    (hv : viewG (ts.map (·.1)) ids hs S = (ts.map (fun p => some ⟨p.2.c, p.2.v.ren fun j => ids.getD j 0⟩), hs.map (fun h => some (bif h.live then h.ren fun j => ids.getD j 0 else goneH)), df.map fun j => ids.getD j 0))
    (hok : mkOkG ts hs ids kp = true) (hdl : df.all (fun j => Nat.blt j hs.length) = true) : Weak T kp S (mkSt ts hs nx df) := by
  simp only [viewG, Prod.mk.injEq] at hv
  obtain ⟨h3, h4, h5⟩ := hv
  refine weak_mkG (ids := ids) hok (fun p hp => ?_) (fun j h hj => ?_) h5 fun j hj => Nat.le_of_ble_eq_true (List.all_eq_true.1 hdl j hj)
  · rw [List.map_map] at h3
    exact List.map_inj_left.1 h3 p hp
  · have hok' := hok
    simp only [mkOkG, Bool.and_eq_true] at hok'
    have hlen := Nat.eq_of_beq_eq_true hok'.1.2
    have hlt : j < hs.length := (List.getElem?_eq_some_iff.1 hj).1
    have e : ids[j]? = some (ids.getD j 0) := by
      have : j < ids.length := by omega
      simp [this]
    have hz : (ids.zip hs)[j]? = some (ids.getD j 0, h) := by
      rw [List.getElem?_zip_eq_some]
      exact ⟨e, hj⟩
    have := congrArg (fun l => l[j]?) h4
    simp only [List.getElem?_map, hz, hj, Option.map_some, Option.some.injEq] at this
    unfold lookH at this
    refine ⟨fun hl => ?_, fun hl => ?_⟩
    · rw [hl, cond_true, cond_true] at this
      exact this
    · rw [hl, cond_false] at this
      cases hg : S.hp.get (ids.getD j 0) with
      | none => rw [hg] at this; cases this
      | some x => rfl
noncomputable def vwG (ts ids : List Nat) (hs : List HO) (q : Option (Bool × XE × St × List Bool)) : Option (XE × List (Option Slot) × List (Option HO) × List Nat) :=
  q.map fun q => (q.2.1, viewG ts ids hs q.2.2.1)
theorem exec_orunG (hE : EnvOK P T Γ) (inr : Bool) (k : Nat) (os : List Bool) (ids : List Nat) (hr : inr = false → r = none) {c : XC} {S : St} {e : XE} {ts : List (Nat × Slot)} {hs : List HO} {nx : Nat} {df : List Nat}
    (hv : vwG (ts.map (·.1)) ids hs (orun Γ inr k c S os) = some (e, ts.map (fun p => some ⟨p.2.c, p.2.v.ren fun j => ids.getD j 0⟩), hs.map (fun h => some (bif h.live then h.ren fun j => ids.getD j 0 else goneH)), df.map fun j => ids.getD j 0))
    (hok : mkOkG ts hs ids kp = true) (hdl : df.all (fun j => Nat.blt j hs.length) = true) (hob : obOf (orun Γ inr k c S os) = true) : Exec P T r nt kp c S e (mkSt ts hs nx df) := by
  unfold vwG at hv
  cases ho : orun Γ inr k c S os with
  | none => rw [ho] at hv; cases hv
  | some q =>
    obtain ⟨v, e1, S1, os1⟩ := q
    rw [ho] at hv hob
    simp only [Option.map_some, Option.some.injEq, Prod.mk.injEq] at hv
    obtain ⟨rfl, hv⟩ := hv
    exact (orun_snd hE hr k c S S1 os os1 e1 v ho hob).1.post (weak_viewG hv hok hdl)
end
open Classical in
noncomputable def atB (A A' : List AV) (H H' : Nat → Option HO) (B B' : Nat) : Bool := decide (A' = A ∧ H' = H ∧ B' = B)
theorem atB_t {A A' : List AV} {H H' : Nat → Option HO} {B B' : Nat} (h1 : A' = A) (h2 : H' = H) (h3 : B' = B) : atB A A' H H' B B' = true := by
  unfold atB
  simp [h1, h2, h3]
theorem atB_of {A A' : List AV} {H H' : Nat → Option HO} {B B' : Nat} (h : atB A A' H H' B B' = true) : A' = A ∧ H' = H ∧ B' = B := by
  unfold atB at h
  simpa using h
noncomputable def spAt (A : List AV) (H : Nat → Option HO) (B : Nat) (val : TV) (upd : List (Nat × HO)) (news : List HO) : Spec where
  run := fun args h base => some ⟨atB A args H h B base, val, upd, news, none⟩
theorem spAt_fp {A : List AV} {H : Nat → Option HO} {B : Nat} {val : TV} {upd : List (Nat × HO)} {news : List HO} : SpecFp (spAt A H B val upd news) := by
  intro args h h' base e hr hf
  simp only [spAt, Option.some.injEq] at hr
  subst hr
  have hf : h' = h := hf
  subst hf
  rfl
section
variable {P : Program} {T : Tab}
/-- the renaming of what is new -/
def renK (K B : Nat) : Nat → Nat := fun j => if K ≤ j then B + (j - K) else j
/-- the end of a contract at one place: the first K ids stay, the others are new -/
theorem stp_at {cmp : Cmp} {ctx : Ctx} {m m1 : MM} {h : Nat → Option HO} {w w1 : World} {B K : Nat} {upd : List (Nat × HO)} {news hs1 : List HO} (hH : HRel cmp ctx m h w) (hfr : ∀ k, k < news.length → h (B + k) = none)
    (hH1 : HRel cmp ⟨w, wbOf m upd⟩ m1 (fun j => hs1[j]?) w1) (hk : ∀ id, id < K → m1 id = m id) (hlen : hs1.length = K + news.length)
    (hnew : (List.range news.length).all (fun k => match hs1[K + k]? with | some o => !o.ro && o.live && !o.o.isLoop | none => false) = true) (hnews : news = (hs1.drop K).map (HO.ren (renK K B)))
    (hupd : ∀ u ∈ upd, (u.2.live = false ∧ ∃ mb, m u.1 = some mb) ∨ (u.1 < K ∧ ∃ o, hs1[u.1]? = some o ∧ o.live = true ∧ u.2.o = o.o.ren (renK K B) ∧ (o.o.isLoop = true → ∀ j ∈ o.o.ids, j < K)))
    (hids : ∀ (j : Nat) (o : HO), hs1[j]? = some o → ∀ i ∈ o.o.ids, i < hs1.length) :
    Stp cmp m (subM m m1 (fun k => K + k) B news.length) w w1 upd B news := by
  have hren : ∀ j, j < hs1.length → subM m m1 (fun k => K + k) B news.length (renK K B j) = m1 j := by
    intro j hj
    unfold renK
    by_cases hK : K ≤ j
    · rw [if_pos hK]
      unfold subM
      rw [if_pos (by omega)]
      show m1 (K + (B + (j - K) - B)) = _
      rw [show K + (B + (j - K) - B) = j by omega]
    · rw [if_neg hK]
      unfold subM
      rw [hk j (by omega)]
      by_cases hB : B ≤ j ∧ j < B + news.length
      · rw [if_pos hB]
        have e1 := hH.dom j (by have := hfr (j - B) (by omega); rwa [show B + (j - B) = j by omega] at this)
        obtain ⟨mb, g1, _⟩ := hH1.obj j hs1[j] (by simp [hj])
        rw [hk j (by omega), e1] at g1
        cases g1
      · rw [if_neg hB]
  have hget : ∀ k, k < news.length → ∃ o, hs1[K + k]? = some o ∧ o.ro = false ∧ o.live = true ∧ o.o.isLoop = false := by
    intro k hkl
    have := List.all_eq_true.1 hnew k (List.mem_range.2 hkl)
    split at this
    · rename_i o ho
      simp only [Bool.and_eq_true, Bool.not_eq_true'] at this
      exact ⟨o, ho, this.1.1, this.1.2, this.2⟩
    · cases this
  refine sub_stp hH hfr hH1 (fun i j _ _ h => by omega) (fun k hkl => ?_) (fun u hu hl => ?_) (fun u hu => ?_) fun k ho hko => ?_
  · obtain ⟨o, h1, h2, h3, _⟩ := hget k hkl
    exact ⟨o, h1, h2, h3⟩
  · rcases hupd u hu with ⟨h1, _⟩ | ⟨h1, o, h2, h3, _⟩
    · rw [h1] at hl; cases hl
    · exact ⟨u.1, o, h2, h3, hk _ h1, fun k _ => by omega⟩
  · rcases hupd u hu with ⟨h1, mb, h2⟩ | ⟨h1, o, h2, h3, h4, h5⟩
    · refine ⟨mb, h2, ?_⟩
      rw [live_gone h1]
      trivial
    · obtain ⟨mb, g1, g2, _⟩ := hH1.obj _ _ h2
      refine ⟨mb, by rw [← hk _ h1]; exact g1, ?_⟩
      rw [h4]
      exact g2.ren (fun j hj => hren j (hids _ _ h2 j hj)) fun hl j hj => by unfold renK; rw [if_neg (by have := h5 hl j hj; omega)]
  · have hkl : k < news.length := (List.getElem?_eq_some_iff.1 hko).1
    obtain ⟨o, h1, h2, h3, h4⟩ := hget k hkl
    obtain ⟨mb, g1, g2, _⟩ := hH1.obj _ _ h1
    refine ⟨mb, g1, ?_⟩
    have e : ho = o.ren (renK K B) := by
      rw [hnews] at hko
      rw [List.getElem?_map, List.getElem?_drop, h1] at hko
      simpa using hko.symm
    rw [e]
    exact g2.ren (fun j hj => hren j (hids _ _ h1 j hj)) fun hl => by rw [h4] at hl; cases hl
/-- the heap at its start, as far as it may be turned -/
theorem hrel_at {cmp : Cmp} {ctx : Ctx} {m : MM} {H : Nat → Option HO} {w : World} {S : Sto HO} {upd : List (Nat × HO)} (hH : HRel cmp ctx m H w) (hd : ∀ j, S.get j = none → H j = none)
    (hS : ∀ (j : Nat) (o : HO), S.get j = some o → ∃ o' : HO, H j = some o' ∧ o'.o = o.o ∧ (o.ro = false → o'.ro = false ∧ (o.live = true → ∃ u ∈ upd, u.1 = j))) : HRel cmp ⟨w, wbOf m upd⟩ m S.get w where
  obj := fun id ho hid => by
    obtain ⟨o', h1, h2, h3⟩ := hS id ho hid
    obtain ⟨mb, g1, g2, g3, g4⟩ := hH.obj id o' h1
    have hl : o'.live = ho.live := by unfold HO.live; rw [h2]
    refine ⟨mb, g1, by rw [← h2]; exact g2, fun hlv => g3 (by rw [hl]; exact hlv), fun hro hlv b hb => ?_⟩
    obtain ⟨u, hu, e⟩ := (h3 hro).2 hlv
    exact .inr ⟨u, hu, mb, by rw [e]; exact g1, hb⟩
  dist := fun id id' ho ho' mb mb' b hne hid hid' hro hl hl' hm hm' hb => by
    obtain ⟨o1, h1, h2, h3⟩ := hS id ho hid
    obtain ⟨o2, k1, k2, _⟩ := hS id' ho' hid'
    exact hH.dist id id' o1 o2 mb mb' b hne h1 k1 (h3 hro).1 (by unfold HO.live at hl ⊢; rw [h2]; exact hl) (by unfold HO.live at hl' ⊢; rw [k2]; exact hl') hm hm' hb
  dom := fun id hid => hH.dom id (hd id hid)
  os := rfl
  tape := rfl
  output := rfl
  size := Nat.le_refl _
  same0 := fun _ _ _ => rfl
end
end Go.Proofs.Yteekkjfjpoaihaa.Eng
namespace Go.Proofs.Yteekkjfjpoaihaa.Eng
open Go Go.Proofs
@[simp] theorem atB_self {A : List AV} {H : Nat → Option HO} {B : Nat} : atB A A H H B B = true := atB_t rfl rfl rfl
/-- what must hold of the heap at the start and at the end (all closed but for the contents) -/
structure AtOK (H : Nat → Option HO) (S : Sto HO) (K B : Nat) (upd : List (Nat × HO)) (news hs1 : List HO) : Prop where
  start : ∀ (j : Nat) (o : HO), S.get j = some o → ∃ o' : HO, H j = some o' ∧ o'.o = o.o ∧ (o.ro = false → o'.ro = false ∧ (o.live = true → ∃ u ∈ upd, u.1 = j))
  keep : ∀ j, j < K → (S.get j).isSome = true
  len : hs1.length = K + news.length
  new : (List.range news.length).all (fun k => match hs1[K + k]? with | some o => !o.ro && o.live && !o.o.isLoop | none => false) = true
  news_eq : news = (hs1.drop K).map (HO.ren (renK K B))
  upd_eq : ∀ u ∈ upd, (u.2.live = false ∧ (S.get u.1).isSome = true) ∨ (u.1 < K ∧ ∃ o, hs1[u.1]? = some o ∧ o.live = true ∧ u.2.o = o.o.ren (renK K B) ∧ (o.o.isLoop = true → ∀ j ∈ o.o.ids, j < K))
  ids : ∀ (j : Nat) (o : HO), hs1[j]? = some o → ∀ i ∈ o.o.ids, i < hs1.length
theorem AtOK.stp {H : Nat → Option HO} {S : Sto HO} {K B : Nat} {upd : List (Nat × HO)} {news hs1 : List HO} (hA : AtOK H S K B upd news hs1) {cmp : Cmp} {ctx : Ctx} {m m1 : MM} {w w1 : World} (hH : HRel cmp ctx m H w) (hfr : ∀ k, k < news.length → H (B + k) = none)
    (hk : MM.leK K m m1) (hH1 : HRel cmp ⟨w, wbOf m upd⟩ m1 (fun j => hs1[j]?) w1) : Stp cmp m (subM m m1 (fun k => K + k) B news.length) w w1 upd B news := by
  have hmem : ∀ j, (S.get j).isSome = true → ∃ mb, m j = some mb := fun j hj => by
    obtain ⟨o, ho⟩ := Option.isSome_iff_exists.1 hj
    obtain ⟨o', h1, _⟩ := hA.start j o ho
    obtain ⟨mb, g, _⟩ := hH.obj j o' h1
    exact ⟨mb, g⟩
  refine stp_at hH hfr hH1 (fun id hid => ?_) hA.len hA.new hA.news_eq (fun u hu => ?_) hA.ids
  · obtain ⟨mb, g⟩ := hmem id (hA.keep id hid)
    rw [g, hk id mb hid g]
  · rcases hA.upd_eq u hu with ⟨h1, h2⟩ | h
    · exact .inl ⟨h1, hmem _ h2⟩
    · exact .inr h
theorem yield_at {id : Nat} {A : List AV} {H : Nat → Option HO} {S : Sto HO} {B K : Nat} {sl slS : Sto Slot} {ps : List Nat} {asg body : XC} {S1 S2 : St} {ex : XE} {upd : List (Nat × HO)} {news hs1 : List HO} {sl1 sl2 : Sto Slot} {ps1 ps2 : List Nat} {asg1 body1 asg2 body2 : XC} {bv : Bool}
    (hA : AtOK H S K B upd news hs1) (hdom : ∀ j, S.get j = none → H j = none) (hK : id < K) (hid0 : S.get id = some ⟨false, .loop sl ps asg body .ready⟩) (hlen : A.length = ps.length) (hsl : ∀ t s, slS.get t = some s → setPs sl.get ps A t = some s)
    (hasg : ∀ l nt, Exec PP T (some l) nt K asg ⟨slS, S, B, []⟩ .n S1) (hid1 : S1.hp.get id = some ⟨false, .loop sl1 ps1 asg1 body1 .ready⟩)
    (hbody : ∀ l nt, Exec PP T (some l) nt K body { S1 with hp := S1.hp.set id ⟨false, .loop sl1 ps1 asg1 body1 .busy⟩ } ex S2) (hid2 : S2.hp.get id = some ⟨false, .loop sl2 ps2 asg2 body2 .busy⟩)
    (hfin : ∀ j, (S2.hp.set id ⟨false, .loop sl2 ps2 asg2 body2 (endLS ex)⟩).get j = hs1[j]?) (hbv : bv = ex.isN) : YieldOK PP (compC T) id (spAt A H B (.av (.s (.bool bv))) upd news) := by
  intro ctx m h w args vals base e l mb hH hm hb hargs hfr hup hr hvc
  simp only [spAt, Option.some.injEq] at hr
  subst hr
  obtain ⟨rfl, rfl, rfl⟩ := atB_of hvc
  subst hbv
  refine round_exec (kp := K) (S := ⟨slS, S, base, []⟩) hK hlen hid0 hsl rfl hasg hid1 hbody hid2 (hrel_at hH hdom hA.start) hm hb hargs fun v w' m1 hk hv hH1 => ?_
  subst hv
  have e1 : (S2.hp.set id ⟨false, .loop sl2 ps2 asg2 body2 (endLS ex)⟩).get = fun j => hs1[j]? := funext hfin
  rw [e1] at hH1
  exact ⟨_, _, rfl, rfl, hA.stp hH hfr hk hH1⟩
/-- .. seen over a part of the heap that is shut under pointing -/
theorem hrel_part {cmp : Cmp} {ctx : Ctx} {m : MM} {H : Nat → Option HO} {w : World} {S : Sto HO} {upd : List (Nat × HO)} (hH : HRel cmp ctx m H w) (hcl : ∀ (j : Nat) (o : HO), S.get j = some o → ∀ i ∈ o.o.ids, (S.get i).isSome = true)
    (hS : ∀ (j : Nat) (o : HO), S.get j = some o → ∃ o' : HO, H j = some o' ∧ o'.o = o.o ∧ (o.ro = false → o'.ro = false ∧ (o.live = true → ∃ u ∈ upd, u.1 = j))) : HRel cmp ⟨w, wbOf m upd⟩ (fun j => if (S.get j).isSome = true then m j else none) S.get w where
  obj := fun id ho hid => by
    obtain ⟨o', h1, h2, h3⟩ := hS id ho hid
    obtain ⟨mb, g1, g2, g3, g4⟩ := hH.obj id o' h1
    have hl : o'.live = ho.live := by unfold HO.live; rw [h2]
    refine ⟨mb, by simp [hid, g1], by rw [← h2]; exact g2.sub fun j hj => if_pos (hcl id ho hid j (by rw [← h2]; exact hj)), fun hlv => g3 (by rw [hl]; exact hlv), fun hro hlv b hb => ?_⟩
    obtain ⟨u, hu, e⟩ := (h3 hro).2 hlv
    exact .inr ⟨u, hu, mb, by rw [e]; exact g1, hb⟩
  dist := fun id id' ho ho' mb mb' b hne hid hid' hro hl hl' hm hm' hb => by
    obtain ⟨o1, h1, h2, h3⟩ := hS id ho hid
    obtain ⟨o2, k1, k2, _⟩ := hS id' ho' hid'
    simp only [hid, hid', Option.isSome_some, if_true] at hm hm'
    exact hH.dist id id' o1 o2 mb mb' b hne h1 k1 (h3 hro).1 (by unfold HO.live at hl ⊢; rw [h2]; exact hl) (by unfold HO.live at hl' ⊢; rw [k2]; exact hl') hm hm' hb
  dom := fun id hid => by simp [hid]
  os := rfl
  tape := rfl
  output := rfl
  size := Nat.le_refl _
  same0 := fun _ _ _ => rfl
theorem spec_at {f : FuncId} {x : XFn} (hx : FunOK PP T f x) {A : List AV} {H : Nat → Option HO} {S : Sto HO} {B K : Nat} {ts : List (Nat × Slot)} {ex : XE} {upd : List (Nat × HO)} {news hs1 : List HO} {nx : Nat}
    (hA : AtOK H S K B upd news hs1) (hcl : ∀ (j : Nat) (o : HO), S.get j = some o → ∀ i ∈ o.o.ids, (S.get i).isSome = true) (hai : ∀ i ∈ A.flatMap AV.ids, (S.get i).isSome = true) (hlen : Nat.ble A.length x.nt = true) (hrun : Exec PP T none x.nt K x.body ⟨.al (slotsOf A), S, B, []⟩ ex (mkSt ts hs1 nx [])) (hex : ex = .n ∨ ex = .r) (hres : x.res = []) : SpecOK PP (compC T) f (spAt A H B (.tup []) upd news) := by
  obtain ⟨_, fn, hf, hxf⟩ := hx
  intro ctx m h w args vals base e hH hargs hfr hup hr hvc
  simp only [spAt, Option.some.injEq] at hr
  subst hr
  obtain ⟨rfl, rfl, rfl⟩ := atB_of hvc
  refine callsIn_exec (kp := K) (S := ⟨.al (slotsOf args), S, base, []⟩) (tv := .tup []) tokP hf hxf (Nat.le_of_ble_eq_true hlen) (fun t s hs => by
    have := (alGet_slots args 0 t s hs).2
    simpa using this) rfl hrun hex rfl (by rw [hres]; rfl) (hrel_part hH hcl hA.start) (All2.sub hargs fun j hj => if_pos (hai j hj)) fun v w' m1 hk hv hH1 => ?_
  have e1 : leaveH (mkSt ts hs1 nx []).hp.get (mkSt ts hs1 nx []).df = fun j => hs1[j]? := by
    funext j
    show (mkSt ts hs1 nx []).hp.get j = _
    rw [mkSt_hp]
  rw [e1] at hH1
  refine ⟨v, _, rfl, ?_, hA.stp hH hfr (fun id mb hid hm => hk id mb hid (by simp [hA.keep id hid, hm])) hH1⟩
  obtain ⟨vs, e, hvs⟩ := hv
  cases vs with
  | nil => exact ⟨[], e, trivial⟩
  | cons _ _ => exact hvs.elim
/-- one yield's contract as an environment -/
def gY (id : Nat) (sp : Spec) : Cal → Option Spec := fun c => match c with
  | .y j => bif Nat.beq j id then some sp else none
  | .f _ => none
theorem envY {id : Nat} {sp : Spec} (h : YieldOK PP (compC T) id sp) (hfp : SpecFp sp) : EnvOK PP T (gY id sp) where
  tok := tokP
  eqok := eqokP
  G := ⟨fun f sp' hf => (by cases hf), fun j sp' hj => by
    simp only [gY] at hj
    cases hb : Nat.beq j id with
    | false => rw [hb] at hj; cases hj
    | true =>
      rw [hb, cond_true] at hj
      cases hj
      rw [Nat.eq_of_beq_eq_true hb]
      exact h⟩
  B := fun f sp' hf => (by cases hf)
  F := fun c sp' hc => by
    cases c with
    | f f => cases hc
    | y j =>
      simp only [gY] at hc
      cases hb : Nat.beq j id with
      | false => rw [hb] at hc; cases hc
      | true =>
        rw [hb, cond_true] at hc
        cases hc
        exact hfp
  mix := mixP
end Go.Proofs.Yteekkjfjpoaihaa.Eng
namespace Go.Proofs.Yteekkjfjpoaihaa.Eng
open Go Go.Proofs
theorem alGet_filter {t u : Nat} (hu : ¬ t = u) {s : Slot} : ∀ {ts : List (Nat × Slot)}, alGet (ts.filter fun p => !(Nat.beq p.1 t)) u = some s → alGet ts u = some s
  | [], h => h
  | p :: ts, h => by
    rw [alGet_cons]
    by_cases hp : p.1 = t
    · rw [beqF (show ¬ p.1 = u by omega), cond_false]
      rw [List.filter_cons_of_neg (by rw [beqT hp]; simp)] at h
      exact alGet_filter hu h
    · rw [List.filter_cons_of_pos (by rw [beqF hp]; rfl), alGet_cons] at h
      by_cases hpu : p.1 = u
      · rw [beqT hpu, cond_true] at h ⊢; exact h
      · rw [beqF hpu, cond_false] at h ⊢; exact alGet_filter hu h
section
variable {P : Program} {T : Tab} {r : Option Nat} {nt kp : Nat}
/-- a nil slice seen as an empty one, with an object of its own -/
theorem weak_nil {ts ts' : List (Nat × Slot)} {hs : List HO} {nx nx' : Nat} {df : List Nat} (t : Nat) (ty : TypeId) (k : IntKind) (sz : Nat) (ht : alGet ts t = some ⟨true, .av (.s .nils)⟩)
    (hts : ts' = (t, ⟨true, .av (.s (.sl hs.length 0 sz 0))⟩) :: ts.filter (fun p => !(Nat.beq p.1 t))) (_hnx : nx' = nx + 1) : Weak T kp (mkSt ts hs nx df) (mkSt ts' (hs ++ [⟨false, .ivec ty k sz []⟩]) nx' df) := by
  intro ctx nt m a w hR
  have h0 : m hs.length = none := hR.heap.dom _ (by rw [mkSt_hp]; simp)
  let m' : MM := fun j => if j = hs.length then some ⟨none, 0, 0⟩ else m j
  have hle : m.le m' := fun id mb hm => by
    show (if id = hs.length then _ else m id) = _
    rw [if_neg (fun e => by rw [e, h0] at hm; cases hm)]
    exact hm
  have hn : m' hs.length = some ⟨none, 0, 0⟩ := if_pos rfl
  have hother : ∀ j, j ≠ hs.length → m' j = m j := fun j hj => if_neg hj
  have hget : ∀ j, (mkSt ts' (hs ++ [⟨false, .ivec ty k sz []⟩]) nx' df).hp.get j = if j = hs.length then some ⟨false, .ivec ty k sz []⟩ else (mkSt ts hs nx df).hp.get j := fun j => by
    rw [mkSt_hp, mkSt_hp]
    by_cases hj : j = hs.length
    · subst hj; simp
    · rw [if_neg hj]
      by_cases hl : j < hs.length
      · rw [List.getElem?_append_left hl]
      · rw [List.getElem?_eq_none (by simp; omega), List.getElem?_eq_none (by omega)]
  refine ⟨m', hle.toK kp, ⟨fun u s hs' => ?_, hR.size, ⟨fun id ho hid => ?_, fun id id' ho ho' mb mb' b hne hid hid' hro hl hl' hm hm' hb => ?_, fun id hid => ?_, hR.heap.os, hR.heap.tape, hR.heap.output, hR.heap.size, hR.heap.same0⟩, ?_⟩⟩
  · have hs' : alGet ts' u = some s := hs'
    rw [hts, alGet_cons] at hs'
    by_cases hu : t = u
    · subst hu
      rw [beqT rfl, cond_true] at hs'
      cases hs'
      obtain ⟨h1, h2⟩ := hR.slot t _ ht
      have h1 : (a.tmps.getD t undef) = .slice none 0 0 := h1 rfl
      exact ⟨fun _ => ⟨_, hn, Nat.le_refl _, .inl ⟨rfl, h1, rfl, rfl, rfl⟩⟩, h2⟩
    · rw [beqF hu, cond_false] at hs'
      have : alGet ts u = some s := alGet_filter hu hs'
      obtain ⟨h1, h2⟩ := hR.slot u s this
      exact ⟨fun c => (h1 c).le hle, h2⟩
  · rw [hget] at hid
    by_cases hj : id = hs.length
    · rw [if_pos hj] at hid
      cases hid
      subst hj
      exact ⟨_, hn, .inl ⟨rfl, rfl, rfl⟩, fun _ b hb => (by cases hb), fun _ _ b hb => (by cases hb)⟩
    · rw [if_neg hj] at hid
      obtain ⟨mb, g1, g2, g3, g4⟩ := hR.heap.obj id ho hid
      exact ⟨mb, hle _ _ g1, g2.le hle, g3, g4⟩
  · rw [hget] at hid hid'
    by_cases hj : id = hs.length
    · subst hj
      rw [hn] at hm
      cases hm
      cases hb
    · by_cases hj' : id' = hs.length
      · subst hj'
        rw [hn] at hm'
        cases hm'
        intro h; cases h
      · rw [if_neg hj] at hid
        rw [if_neg hj'] at hid'
        rw [hother _ hj] at hm
        rw [hother _ hj'] at hm'
        exact hR.heap.dist id id' ho ho' mb mb' b hne hid hid' hro hl hl' hm hm' hb
  · rw [hget] at hid
    by_cases hj : id = hs.length
    · rw [if_pos hj] at hid; cases hid
    · rw [if_neg hj] at hid
      rw [hother _ hj]
      exact hR.heap.dom id hid
  · exact All2.mono (fun id d ⟨mb, b, e1, e2, e3⟩ => ⟨mb, b, hle _ _ e1, e2, e3⟩) hR.df
end
theorem exec_loop_from {P : Program} {T : Tab} {r : Option Nat} {nt kp : Nat} {x : XC} (S : Nat → St) (lo n : Nat) {e : XE} {S' : St} (h : ∀ i, lo ≤ i → i < n → Exec P T r nt kp x (S i) .n (S (i + 1))) (hl : Exec P T r nt kp x (S n) e S') (he : e ≠ .n) (hlo : lo ≤ n) : Exec P T r nt kp (.loop x) (S lo) e S' := by
  have := exec_loop_up (P := P) (T := T) (r := r) (nt := nt) (kp := kp) (x := x) (fun j => S (lo + j)) (n - lo) (fun i hi => h (lo + i) (by omega) (by omega)) (by show Exec _ _ _ _ _ _ (S (lo + (n - lo))) _ _; rw [show lo + (n - lo) = n by omega]; exact hl) he 0 (by omega)
  exact this
def flat (l : List (Int × Int)) : List Int := l.flatMap fun p => [p.1, p.2]
theorem flat_len (l : List (Int × Int)) : (flat l).length = l.length * 2 := by
  unfold flat
  induction l with
  | nil => rfl
  | cons a l ih => rw [List.flatMap_cons, List.length_append, ih]; simp; omega
theorem flat_app (l : List (Int × Int)) (a b : Int) : flat (l ++ [(a, b)]) = flat l ++ [a, b] := by
  simp [flat, List.flatMap_append]
def rowL (g : Nat → Nat → Bool) (a b : Nat) : List (Int × Int) := ((List.range b).filter (g a)).map fun j : Nat => (Int.ofNat a, Int.ofNat j)
def listL (g : Nat → Nat → Bool) (n a : Nat) : List (Int × Int) := (List.range a).flatMap fun x => rowL g x n
theorem rowL_t {g : Nat → Nat → Bool} {a b : Nat} (h : g a b = true) : rowL g a (b + 1) = rowL g a b ++ [(Int.ofNat a, Int.ofNat b)] := by
  simp [rowL, List.range_succ, List.filter_append, h]
theorem rowL_f {g : Nat → Nat → Bool} {a b : Nat} (h : g a b = false) : rowL g a (b + 1) = rowL g a b := by
  simp [rowL, List.range_succ, List.filter_append, h]
theorem listL_succ (g : Nat → Nat → Bool) (n a : Nat) : listL g n (a + 1) = listL g n a ++ rowL g a n := by
  simp [listL, List.range_succ, List.flatMap_append]
theorem rowL_len (g : Nat → Nat → Bool) (a b : Nat) : (rowL g a b).length ≤ b := by
  simp only [rowL, List.length_map]
  have := List.length_filter_le (g a) (List.range b)
  simpa using this
theorem listL_len (g : Nat → Nat → Bool) (n : Nat) : ∀ a, (listL g n a).length ≤ a * n
  | 0 => by simp [listL]
  | a + 1 => by
    rw [listL_succ, List.length_append, Nat.succ_mul]
    have := listL_len g n a
    have := rowL_len g a n
    omega
/-- what has been gathered inside -/
def midL (g : Nat → Nat → Bool) (n a b : Nat) : List (Int × Int) := listL g n a ++ rowL g a b
theorem midL_len {g : Nat → Nat → Bool} {n a b : Nat} (ha : a ≤ 7) (hn : n ≤ 7) (hb : b ≤ 7) : (midL g n a b).length ≤ 100 := by
  unfold midL
  rw [List.length_append]
  have h1 := listL_len g n a
  have h2 := rowL_len g a b
  have : a * n ≤ 7 * 7 := Nat.mul_le_mul ha hn
  omega
theorem midL_f {g : Nat → Nat → Bool} {n a b : Nat} (h : g a b = false) : midL g n a (b + 1) = midL g n a b := by unfold midL; rw [rowL_f h]
theorem midL_tl {g : Nat → Nat → Bool} {n a b : Nat} (h : g a b = true) : (midL g n a (b + 1)).length = (midL g n a b).length + 1 := by unfold midL; rw [rowL_t h]; simp; omega
theorem midL_tf {g : Nat → Nat → Bool} {n a b : Nat} (h : g a b = true) : flat (midL g n a (b + 1)) = List.take ((midL g n a b).length * 2) (flat (midL g n a b)) ++ [Int.ofNat a, Int.ofNat b] := by
  rw [← flat_len, List.take_length]
  unfold midL
  rw [rowL_t h, ← List.append_assoc, flat_app]
theorem midL_0 {g : Nat → Nat → Bool} {n a : Nat} : midL g n a 0 = listL g n a := by simp [midL, rowL]
theorem midL_lo {g : Nat → Nat → Bool} {n a b : Nat} (h : ∀ j, j < b → g a j = false) : midL g n a b = listL g n a := by
  have : rowL g a b = [] := by
    unfold rowL
    rw [List.map_eq_nil_iff, List.filter_eq_nil_iff]
    intro j hj
    rw [h j (List.mem_range.1 hj)]
    simp
  unfold midL
  rw [this, List.append_nil]
theorem midL_end {g : Nat → Nat → Bool} {n a : Nat} : midL g n a n = listL g n (a + 1) := by rw [listL_succ]; rfl
abbrev lsS (k : Nat) (m : Nat) : Slot := ⟨true, .av (.s (.sl k 0 2 m))⟩
def L56 : XC := x56.body.b.b.a.b.i.i
def M56 : XC := L56.b.b.a.i.b.b.i.i
abbrev S56 (f : Nat → Bool) (m : Nat) (q : List Int) (a : Nat) : St := mkSt [(1, g1S 0), (3, lsS 1 m), (6, ⟨true, I a⟩)] [⟨false, .row 70 [] 49 f⟩, ⟨false, .ivec 38 .i64 2 q⟩] 2 []
abbrev P56 (f : Nat → Bool) (m : Nat) (q : List Int) (a : Nat) : St := mkSt [(1, g1S 0), (3, lsS 1 m), (6, ⟨true, I a⟩), (7, ⟨true, B (decide (Int.ofNat a < 7))⟩)] [⟨false, .row 70 [] 49 f⟩, ⟨false, .ivec 38 .i64 2 q⟩] 2 []
abbrev U56 (f : Nat → Bool) (m : Nat) (q : List Int) (a b : Nat) : St := mkSt [(1, g1S 0), (3, lsS 1 m), (4, ⟨true, I a⟩), (6, ⟨true, I a⟩), (9, ⟨true, I b⟩)] [⟨false, .row 70 [] 49 f⟩, ⟨false, .ivec 38 .i64 2 q⟩] 2 []
abbrev K56 (f : Nat → Bool) (m : Nat) (q : List Int) (a : Nat) : St := mkSt [(1, g1S 0), (3, lsS 1 m), (4, ⟨true, I a⟩), (6, ⟨true, I a⟩)] [⟨false, .row 70 [] 49 f⟩, ⟨false, .ivec 38 .i64 2 q⟩] 2 []
abbrev W56 (f : Nat → Bool) (m : Nat) (q : List Int) (a b : Nat) : St := mkSt [(1, g1S 0), (3, lsS 1 m), (4, ⟨true, I a⟩), (6, ⟨true, I a⟩), (9, ⟨true, I b⟩), (5, ⟨true, I b⟩)] [⟨false, .row 70 [] 49 f⟩, ⟨false, .ivec 38 .i64 2 q⟩] 2 []
theorem l56a {f : Nat → Bool} {m : Nat} {q : List Int} {a : Nat} : Exec PP T none x56.nt 0 L56.a (S56 f m q a) .n (P56 f m q a) := by
  refine exec_orun env0 false 60 [] [0, 1] (fun _ => rfl) (by kernel_rfl) (by kernel_rfl) (by kernel_rfl) ?_
  rw [(show obOf (orun g0 false 60 L56.a (S56 f m q a) []) = (true) from by kernel_rfl)]
theorem l56b {f : Nat → Bool} {m : Nat} {q : List Int} {a : Nat} (ha : a < 7) : Exec PP T none x56.nt 0 L56.b.a (P56 f m q a) .n (S56 f m q a) := by
  refine exec_orun env0 false 60 [true] [0, 1] (fun _ => rfl) (by kernel_rfl) (by kernel_rfl) (by kernel_rfl) ?_
  rw [(show obOf (orun g0 false 60 L56.b.a (P56 f m q a) [true]) = (decide (Int.ofNat a < 7) && true) from by kernel_rfl)]
  simp
  omega
theorem l56x {f : Nat → Bool} {m : Nat} {q : List Int} {a : Nat} (ha : ¬ a < 7) : Exec PP T none x56.nt 0 L56.b.a (P56 f m q a) (.x 0) (S56 f m q a) := by
  refine exec_orun env0 false 60 [false] [0, 1] (fun _ => rfl) (by kernel_rfl) (by kernel_rfl) (by kernel_rfl) ?_
  rw [(show obOf (orun g0 false 60 L56.b.a (P56 f m q a) [false]) = (!decide (Int.ofNat a < 7) && true) from by kernel_rfl)]
  simp
  omega
theorem l56c {f : Nat → Bool} {m : Nat} {q : List Int} {a : Nat} : Exec PP T none x56.nt 0 L56.b.b.a.i.a (S56 f m q a) .n (K56 f m q a) := by
  refine exec_orun env0 false 60 [] [0, 1] (fun _ => rfl) (by kernel_rfl) (by kernel_rfl) (by kernel_rfl) ?_
  rw [(show obOf (orun g0 false 60 L56.b.b.a.i.a (S56 f m q a) []) = (true) from by kernel_rfl)]
theorem l56d {f : Nat → Bool} {m : Nat} {q : List Int} {a : Nat} (ha : a < 8) : Exec PP T none x56.nt 0 L56.b.b.a.i.b.a (K56 f m q a) .n (U56 f m q a 0) := by
  refine exec_orun env0 false 60 [] [0, 1] (fun _ => rfl) (by kernel_rfl) (by kernel_rfl) (by kernel_rfl) ?_
  rw [(show obOf (orun g0 false 60 L56.b.b.a.i.b.a (K56 f m q a) []) = (true) from by kernel_rfl)]
  try simp [rng64]
  try omega
theorem l56e {f : Nat → Bool} {m : Nat} {q : List Int} {a : Nat} {b : Nat} (ha : a < 8) : Exec PP T none x56.nt 0 L56.b.b.b (U56 f m q a b) .n (S56 f m q (a + 1)) := by
  refine exec_orun env0 false 60 [] [0, 1] (fun _ => rfl) (by kernel_rfl) (by kernel_rfl) (by kernel_rfl) ?_
  rw [(show obOf (orun g0 false 60 L56.b.b.b (U56 f m q a b) []) = (rng64 (Int.ofNat a.succ) && true) from by kernel_rfl)]
  simp [rng64]
  omega
abbrev Q56 (f : Nat → Bool) (m : Nat) (q : List Int) (a b : Nat) : St := mkSt [(1, g1S 0), (3, lsS 1 m), (4, ⟨true, I a⟩), (6, ⟨true, I a⟩), (9, ⟨true, I b⟩), (10, ⟨true, B (decide (Int.ofNat b < 7))⟩)] [⟨false, .row 70 [] 49 f⟩, ⟨false, .ivec 38 .i64 2 q⟩] 2 []
theorem m56a {f : Nat → Bool} {m : Nat} {q : List Int} {a : Nat} {b : Nat} : Exec PP T none x56.nt 0 M56.a (U56 f m q a b) .n (Q56 f m q a b) := by
  refine exec_orun env0 false 60 [] [0, 1] (fun _ => rfl) (by kernel_rfl) (by kernel_rfl) (by kernel_rfl) ?_
  rw [(show obOf (orun g0 false 60 M56.a (U56 f m q a b) []) = (true) from by kernel_rfl)]
theorem m56b {f : Nat → Bool} {m : Nat} {q : List Int} {a : Nat} {b : Nat} (hb : b < 7) : Exec PP T none x56.nt 0 M56.b.a (Q56 f m q a b) .n (U56 f m q a b) := by
  refine exec_orun env0 false 60 [true] [0, 1] (fun _ => rfl) (by kernel_rfl) (by kernel_rfl) (by kernel_rfl) ?_
  rw [(show obOf (orun g0 false 60 M56.b.a (Q56 f m q a b) [true]) = (decide (Int.ofNat b < 7) && true) from by kernel_rfl)]
  simp
  omega
theorem m56x {f : Nat → Bool} {m : Nat} {q : List Int} {a : Nat} {b : Nat} (hb : ¬ b < 7) : Exec PP T none x56.nt 0 M56.b.a (Q56 f m q a b) (.x 2) (U56 f m q a b) := by
  refine exec_orun env0 false 60 [false] [0, 1] (fun _ => rfl) (by kernel_rfl) (by kernel_rfl) (by kernel_rfl) ?_
  rw [(show obOf (orun g0 false 60 M56.b.a (Q56 f m q a b) [false]) = (!decide (Int.ofNat b < 7) && true) from by kernel_rfl)]
  simp
  omega
theorem m56e {f : Nat → Bool} {m : Nat} {q : List Int} {a : Nat} {b : Nat} (hb : b < 8) : Exec PP T none x56.nt 0 M56.b.b.b (U56 f m q a b) .n (U56 f m q a (b + 1)) := by
  refine exec_orun env0 false 60 [] [0, 1] (fun _ => rfl) (by kernel_rfl) (by kernel_rfl) (by kernel_rfl) ?_
  rw [(show obOf (orun g0 false 60 M56.b.b.b (U56 f m q a b) []) = (rng64 (Int.ofNat b.succ) && true) from by kernel_rfl)]
  simp [rng64]
  omega
theorem y56a {f : Nat → Bool} {m : Nat} {q : List Int} {a : Nat} {b : Nat} : Exec PP T none x56.nt 0 M56.b.b.a.i.a (U56 f m q a b) .n (W56 f m q a b) := by
  refine exec_orun env0 false 60 [] [0, 1] (fun _ => rfl) (by kernel_rfl) (by kernel_rfl) (by kernel_rfl) ?_
  rw [(show obOf (orun g0 false 60 M56.b.b.a.i.a (U56 f m q a b) []) = (true) from by kernel_rfl)]
theorem y56f {f : Nat → Bool} {m : Nat} {q : List Int} {a : Nat} {b : Nat} (ha : a < 7) (hb : b < 7) (h : at7 f a b = false) : Exec PP T none x56.nt 0 M56.b.b.a.i.b (W56 f m q a b) .n (U56 f m q a b) := by
  refine exec_orun env0 false 60 [false] [0, 1] (fun _ => rfl) (by kernel_rfl) (by kernel_rfl) (by kernel_rfl) ?_
  rw [(show obOf (orun g0 false 60 M56.b.b.a.i.b (W56 f m q a b) [false]) = (decide (0 ≤ Int.ofNat a) && decide (Int.ofNat a < 7) && (decide (0 ≤ Int.ofNat b) && decide (Int.ofNat b < 7) && (decide (0 + (0 + a * 7 + b * 1) < 49) && true)) && (!f (0 + (0 + a * 7 + b * 1)) && true)) from by kernel_rfl)]
  unfold at7 at h
  simp [h]
  omega
theorem y56t {f : Nat → Bool} {m : Nat} {q : List Int} {a : Nat} {b : Nat} (hq : q.length = m * 2) (hm : m ≤ 100) (ha : a < 7) (hb : b < 7) (h : at7 f a b = true) : Exec PP T none x56.nt 0 M56.b.b.a.i.b (W56 f m q a b) .n (mkSt [(1, g1S 0), (3, lsS 1 (m + 1)), (4, ⟨true, I a⟩), (6, ⟨true, I a⟩), (9, ⟨true, I b⟩)] [⟨false, .row 70 [] 49 f⟩, ⟨false, .ivec 38 .i64 2 (List.take (m * 2) q ++ [Int.ofNat a, Int.ofNat b])⟩] 2 []) := by
  refine exec_orun env0 false 60 [true] [0, 3] (fun _ => rfl) (by kernel_rfl) (by kernel_rfl) (by kernel_rfl) ?_
  rw [(show obOf (orun g0 false 60 M56.b.b.a.i.b (W56 f m q a b) [true]) = (decide (0 ≤ Int.ofNat a) && decide (Int.ofNat a < 7) && (decide (0 ≤ Int.ofNat b) && decide (Int.ofNat b < 7) && (decide (0 + (0 + a * 7 + b * 1) < 49) && true)) && (f (0 + (0 + a * 7 + b * 1)) && (decide (2 ≤ Nat.succ 1) && decide (m * 2 ≤ q.length) && decide (m.succ ≤ 1000000000) && true && true && true))) from by kernel_rfl)]
  unfold at7 at h
  simp [h, hq]
  omega
abbrev gg56 (f : Nat → Bool) : Nat → Nat → Bool := fun a b => at7 f a b
abbrev sU56 (f : Nat → Bool) (n' a b : Nat) : St := U56 f (midL (gg56 f) n' a b).length (flat (midL (gg56 f) n' a b)) a b
abbrev sS56 (f : Nat → Bool) (n' a : Nat) : St := S56 f (listL (gg56 f) n' a).length (flat (listL (gg56 f) n' a)) a
theorem m56 {f : Nat → Bool} {n' a b : Nat} (ha : a < 7) (hb : b < 7) (hb7 : b < 7) (hn' : n' ≤ 7) : Exec PP T none x56.nt 0 M56 (sU56 f n' a b) .n (sU56 f n' a (b + 1)) := by
  have hl := midL_len (g := (gg56 f)) (n := n') (a := a) (b := b) (by omega) hn' (by omega)
  have hf := flat_len (midL (gg56 f) n' a b)
  show Exec PP T none x56.nt 0 M56 _ .n (U56 f (midL (gg56 f) n' a (b + 1)).length (flat (midL (gg56 f) n' a (b + 1))) a (b + 1))
  cases h : at7 f a b with
  | false =>
    rw [midL_f h]
    exact exec_seq (x := M56.a) (y := M56.b) m56a (exec_seq (x := M56.b.a) (y := M56.b.b) (m56b hb) (exec_seq (x := M56.b.b.a) (y := M56.b.b.b) (exec_block (id := 3) (x := M56.b.b.a.i) (e := .n) (exec_seq (x := M56.b.b.a.i.a) (y := M56.b.b.a.i.b) y56a (y56f ha hb7 h))) (m56e (by omega))))
  | true =>
    rw [midL_tl h, midL_tf h]
    exact exec_seq (x := M56.a) (y := M56.b) m56a (exec_seq (x := M56.b.a) (y := M56.b.b) (m56b hb) (exec_seq (x := M56.b.b.a) (y := M56.b.b.b) (exec_block (id := 3) (x := M56.b.b.a.i) (e := .n) (exec_seq (x := M56.b.b.a.i.a) (y := M56.b.b.a.i.b) y56a (y56t hf hl ha hb7 h))) (m56e (by omega))))
theorem l56 {f : Nat → Bool} {a : Nat} (ha : a < 7) (hn' : 7 ≤ 7) : Exec PP T none x56.nt 0 L56 (sS56 f 7 a) .n (sS56 f 7 (a + 1)) := by
  show Exec PP T none x56.nt 0 L56 _ .n (S56 f (listL (gg56 f) 7 (a + 1)).length (flat (listL (gg56 f) 7 (a + 1))) (a + 1))
  rw [← midL_end]
  refine exec_seq (x := L56.a) (y := L56.b) l56a (exec_seq (x := L56.b.a) (y := L56.b.b) (l56b ha) (exec_seq (x := L56.b.b.a) (y := L56.b.b.b) (exec_block (id := 1) (x := L56.b.b.a.i) (e := .n) (exec_seq (x := L56.b.b.a.i.a) (y := L56.b.b.a.i.b) l56c (exec_seq (x := L56.b.b.a.i.b.a) (y := .block 2 (.loop M56)) (l56d (by omega))
    (exec_block (e := .x 2) ?_)))) (l56e (b := 7) (by omega))))
  have h0 : midL (gg56 f) 7 a 0 = listL (gg56 f) 7 a := midL_0
  rw [← h0]
  exact exec_loop_from (fun b => sU56 f 7 a b) 0 7 (fun b hlo hb => m56 (by omega) hb (by omega) hn') (exec_seq (x := M56.a) (y := M56.b) m56a (exec_seq_x (x := M56.b.a) (y := M56.b.b) (m56x (by omega)) (by simp))) (by simp) (by omega)
theorem a56 {f : Nat → Bool} : Exec PP T none x56.nt 0 x56.body.a (startSt [.pb [] 49 f] []) .n (mkSt [(1, g1S 0)] [⟨false, .row 70 [] 49 f⟩] 1 []) := by
  refine exec_orun env0 false 60 [] [0] (fun _ => rfl) (by kernel_rfl) (by kernel_rfl) (by kernel_rfl) (by kernel_rfl)
theorem a56' {f : Nat → Bool} : Exec PP T none x56.nt 0 x56.body.b.a (mkSt [(1, g1S 0)] [⟨false, .row 70 [] 49 f⟩] 1 []) .n (mkSt [(3, lsS 1 0), (1, g1S 0)] [⟨false, .row 70 [] 49 f⟩, ⟨false, .ivec 38 .i64 2 []⟩] 2 []) := by
  have key : Exec PP T none x56.nt 0 x56.body.b.a (mkSt [(1, g1S 0)] [⟨false, .row 70 [] 49 f⟩] 1 []) .n (mkSt [(1, g1S 0), (3, ⟨true, .av (.s .nils)⟩)] [⟨false, .row 70 [] 49 f⟩] 1 []) := by
    refine exec_orun env0 false 60 [] [0] (fun _ => rfl) (by kernel_rfl) (by kernel_rfl) (by kernel_rfl) (by kernel_rfl)
  exact key.post (weak_nil 3 38 .i64 2 rfl rfl rfl)
theorem b56 {f : Nat → Bool} : Exec PP T none x56.nt 0 x56.body.b.b.a.a (mkSt [(3, lsS 1 0), (1, g1S 0)] [⟨false, .row 70 [] 49 f⟩, ⟨false, .ivec 38 .i64 2 []⟩] 2 []) .n (S56 f 0 [] 0) := by
  refine exec_orun env0 false 60 [] [0, 1] (fun _ => rfl) (by kernel_rfl) (by kernel_rfl) (by kernel_rfl) (by kernel_rfl)
theorem d56 {f : Nat → Bool} {m : Nat} {q : List Int} : Exec PP T none x56.nt 0 x56.body.b.b.b (S56 f m q 7) .r (mkSt [(2, lsS 0 m)] [⟨false, .ivec 38 .i64 2 q⟩] 1 []) := by
  refine exec_orun env0 false 60 [] [1] (fun _ => rfl) (by kernel_rfl) (by kernel_rfl) (by kernel_rfl) (by kernel_rfl)
def toldL (f : Nat → Bool) : List (Int × Int) := listL (fun a b => at7 f a b) 7 7
theorem body56 {f : Nat → Bool} : Exec PP T none x56.nt 0 x56.body (startSt [.pb [] 49 f] []) .r (mkSt [(2, lsS 0 (toldL f).length)] [⟨false, .ivec 38 .i64 2 (flat (toldL f))⟩] 1 []) := by
  refine exec_seq (x := x56.body.a) (y := x56.body.b) a56 (exec_seq (x := x56.body.b.a) (y := x56.body.b.b) a56' (exec_seq (x := x56.body.b.b.a) (y := x56.body.b.b.b) (exec_seq (x := x56.body.b.b.a.a) (y := .block 0 (.loop L56)) b56 (exec_block (e := .x 0) ?_)) (d56 (f := f))))
  exact exec_loop_up (fun a => sS56 f 7 a) 7 (fun a ha => l56 ha (by omega)) (exec_seq (x := L56.a) (y := L56.b) l56a (exec_seq_x (x := L56.b.a) (y := L56.b.b) (l56x (by omega)) (by simp))) (by simp) 0 (by omega)
def spTold : Spec where
  run := fun args h base => match args with
    | [.pb [] 49 f] => some ⟨true, .av (.s (.sl base 0 2 (toldL f).length)), [], [⟨false, .ivec 38 .i64 2 (flat (toldL f))⟩], some []⟩
    | _ => none
theorem spTold_fp : SpecFp spTold := fun args h h' base e hr hf => hr
theorem ok56 : SpecOK PP (compC T) 56 spTold := by
  refine spec_gen tokP o56 fun ctx m h w args vals base e hH hargs hr hvc => ?_
  simp only [spTold] at hr
  split at hr
  case h_2 => cases hr
  rename_i f
  cases hr
  match vals, hargs with
  | [v1], ⟨ha1, _⟩ =>
    exact ⟨rfl, emV, [], [.pb [] 49 f], shown_new (tv := .av (.s (.sl 0 0 2 (toldL f).length))) (o := .ivec 38 .i64 2 (flat (toldL f))) ro0 ⟨pb0_any ha1, trivial⟩ (by kernel_rfl) body56 (fun _ => rfl) (by kernel_rfl) (by kernel_rfl) rfl rfl rfl (fun _ => rfl)⟩
def L53 : XC := x53.body.b.b.a.b.i.i
def M53 : XC := L53.b.b.a.i.b.b.i.i
abbrev S53 (n : Nat) (f : Nat → Bool) (m : Nat) (q : List Int) (a : Nat) : St := mkSt [(0, g1S 0), (3, lsS 1 m), (9, ⟨true, I n⟩), (10, ⟨true, I a⟩)] [⟨true, .row 115 [.int .i64 (Int.ofNat n)] 49 f⟩, ⟨false, .ivec 77 .i64 2 q⟩] 2 []
abbrev P53 (n : Nat) (f : Nat → Bool) (m : Nat) (q : List Int) (a : Nat) : St := mkSt [(0, g1S 0), (3, lsS 1 m), (9, ⟨true, I n⟩), (10, ⟨true, I a⟩), (11, ⟨true, B (decide (Int.ofNat a < Int.ofNat n))⟩)] [⟨true, .row 115 [.int .i64 (Int.ofNat n)] 49 f⟩, ⟨false, .ivec 77 .i64 2 q⟩] 2 []
abbrev U53 (n : Nat) (f : Nat → Bool) (m : Nat) (q : List Int) (a b : Nat) : St := mkSt [(0, g1S 0), (3, lsS 1 m), (4, ⟨true, I a⟩), (9, ⟨true, I n⟩), (10, ⟨true, I a⟩), (16, ⟨true, I n⟩), (17, ⟨true, I b⟩)] [⟨true, .row 115 [.int .i64 (Int.ofNat n)] 49 f⟩, ⟨false, .ivec 77 .i64 2 q⟩] 2 []
abbrev K53 (n : Nat) (f : Nat → Bool) (m : Nat) (q : List Int) (a : Nat) : St := mkSt [(0, g1S 0), (3, lsS 1 m), (4, ⟨true, I a⟩), (9, ⟨true, I n⟩), (10, ⟨true, I a⟩)] [⟨true, .row 115 [.int .i64 (Int.ofNat n)] 49 f⟩, ⟨false, .ivec 77 .i64 2 q⟩] 2 []
abbrev W53 (n : Nat) (f : Nat → Bool) (m : Nat) (q : List Int) (a b : Nat) : St := mkSt [(0, g1S 0), (3, lsS 1 m), (4, ⟨true, I a⟩), (9, ⟨true, I n⟩), (10, ⟨true, I a⟩), (16, ⟨true, I n⟩), (17, ⟨true, I b⟩), (5, ⟨true, I b⟩)] [⟨true, .row 115 [.int .i64 (Int.ofNat n)] 49 f⟩, ⟨false, .ivec 77 .i64 2 q⟩] 2 []
theorem l53a {n : Nat} {f : Nat → Bool} {m : Nat} {q : List Int} {a : Nat} : Exec PP T none x53.nt 0 L53.a (S53 n f m q a) .n (P53 n f m q a) := by
  refine exec_orun env0 false 60 [] [0, 1] (fun _ => rfl) (by kernel_rfl) (by kernel_rfl) (by kernel_rfl) ?_
  rw [(show obOf (orun g0 false 60 L53.a (S53 n f m q a) []) = (true) from by kernel_rfl)]
theorem l53b {n : Nat} {f : Nat → Bool} {m : Nat} {q : List Int} {a : Nat} (ha : a < n) : Exec PP T none x53.nt 0 L53.b.a (P53 n f m q a) .n (S53 n f m q a) := by
  refine exec_orun env0 false 60 [true] [0, 1] (fun _ => rfl) (by kernel_rfl) (by kernel_rfl) (by kernel_rfl) ?_
  rw [(show obOf (orun g0 false 60 L53.b.a (P53 n f m q a) [true]) = (decide (Int.ofNat a < Int.ofNat n) && true) from by kernel_rfl)]
  simp
  omega
theorem l53x {n : Nat} {f : Nat → Bool} {m : Nat} {q : List Int} {a : Nat} (ha : ¬ a < n) : Exec PP T none x53.nt 0 L53.b.a (P53 n f m q a) (.x 0) (S53 n f m q a) := by
  refine exec_orun env0 false 60 [false] [0, 1] (fun _ => rfl) (by kernel_rfl) (by kernel_rfl) (by kernel_rfl) ?_
  rw [(show obOf (orun g0 false 60 L53.b.a (P53 n f m q a) [false]) = (!decide (Int.ofNat a < Int.ofNat n) && true) from by kernel_rfl)]
  simp
  omega
theorem l53c {n : Nat} {f : Nat → Bool} {m : Nat} {q : List Int} {a : Nat} : Exec PP T none x53.nt 0 L53.b.b.a.i.a (S53 n f m q a) .n (K53 n f m q a) := by
  refine exec_orun env0 false 60 [] [0, 1] (fun _ => rfl) (by kernel_rfl) (by kernel_rfl) (by kernel_rfl) ?_
  rw [(show obOf (orun g0 false 60 L53.b.b.a.i.a (S53 n f m q a) []) = (true) from by kernel_rfl)]
theorem l53d {n : Nat} {f : Nat → Bool} {m : Nat} {q : List Int} {a : Nat} (ha : a < 8) : Exec PP T none x53.nt 0 L53.b.b.a.i.b.a (K53 n f m q a) .n (U53 n f m q a 0) := by
  refine exec_orun env0 false 60 [] [0, 1] (fun _ => rfl) (by kernel_rfl) (by kernel_rfl) (by kernel_rfl) ?_
  rw [(show obOf (orun g0 false 60 L53.b.b.a.i.b.a (K53 n f m q a) []) = (true) from by kernel_rfl)]
  try simp [rng64]
  try omega
theorem l53e {n : Nat} {f : Nat → Bool} {m : Nat} {q : List Int} {a : Nat} {b : Nat} (ha : a < 8) : Exec PP T none x53.nt 0 L53.b.b.b (U53 n f m q a b) .n (S53 n f m q (a + 1)) := by
  refine exec_orun env0 false 60 [] [0, 1] (fun _ => rfl) (by kernel_rfl) (by kernel_rfl) (by kernel_rfl) ?_
  rw [(show obOf (orun g0 false 60 L53.b.b.b (U53 n f m q a b) []) = (rng64 (Int.ofNat a.succ) && true) from by kernel_rfl)]
  simp [rng64]
  omega
abbrev Q53 (n : Nat) (f : Nat → Bool) (m : Nat) (q : List Int) (a b : Nat) : St := mkSt [(0, g1S 0), (3, lsS 1 m), (4, ⟨true, I a⟩), (9, ⟨true, I n⟩), (10, ⟨true, I a⟩), (16, ⟨true, I n⟩), (17, ⟨true, I b⟩), (18, ⟨true, B (decide (Int.ofNat b < Int.ofNat n))⟩)] [⟨true, .row 115 [.int .i64 (Int.ofNat n)] 49 f⟩, ⟨false, .ivec 77 .i64 2 q⟩] 2 []
theorem m53a {n : Nat} {f : Nat → Bool} {m : Nat} {q : List Int} {a : Nat} {b : Nat} : Exec PP T none x53.nt 0 M53.a (U53 n f m q a b) .n (Q53 n f m q a b) := by
  refine exec_orun env0 false 60 [] [0, 1] (fun _ => rfl) (by kernel_rfl) (by kernel_rfl) (by kernel_rfl) ?_
  rw [(show obOf (orun g0 false 60 M53.a (U53 n f m q a b) []) = (true) from by kernel_rfl)]
theorem m53b {n : Nat} {f : Nat → Bool} {m : Nat} {q : List Int} {a : Nat} {b : Nat} (hb : b < n) : Exec PP T none x53.nt 0 M53.b.a (Q53 n f m q a b) .n (U53 n f m q a b) := by
  refine exec_orun env0 false 60 [true] [0, 1] (fun _ => rfl) (by kernel_rfl) (by kernel_rfl) (by kernel_rfl) ?_
  rw [(show obOf (orun g0 false 60 M53.b.a (Q53 n f m q a b) [true]) = (decide (Int.ofNat b < Int.ofNat n) && true) from by kernel_rfl)]
  simp
  omega
theorem m53x {n : Nat} {f : Nat → Bool} {m : Nat} {q : List Int} {a : Nat} {b : Nat} (hb : ¬ b < n) : Exec PP T none x53.nt 0 M53.b.a (Q53 n f m q a b) (.x 2) (U53 n f m q a b) := by
  refine exec_orun env0 false 60 [false] [0, 1] (fun _ => rfl) (by kernel_rfl) (by kernel_rfl) (by kernel_rfl) ?_
  rw [(show obOf (orun g0 false 60 M53.b.a (Q53 n f m q a b) [false]) = (!decide (Int.ofNat b < Int.ofNat n) && true) from by kernel_rfl)]
  simp
  omega
theorem m53e {n : Nat} {f : Nat → Bool} {m : Nat} {q : List Int} {a : Nat} {b : Nat} (hb : b < 8) : Exec PP T none x53.nt 0 M53.b.b.b (U53 n f m q a b) .n (U53 n f m q a (b + 1)) := by
  refine exec_orun env0 false 60 [] [0, 1] (fun _ => rfl) (by kernel_rfl) (by kernel_rfl) (by kernel_rfl) ?_
  rw [(show obOf (orun g0 false 60 M53.b.b.b (U53 n f m q a b) []) = (rng64 (Int.ofNat b.succ) && true) from by kernel_rfl)]
  simp [rng64]
  omega
theorem y53a {n : Nat} {f : Nat → Bool} {m : Nat} {q : List Int} {a : Nat} {b : Nat} : Exec PP T none x53.nt 0 M53.b.b.a.i.a (U53 n f m q a b) .n (W53 n f m q a b) := by
  refine exec_orun env0 false 60 [] [0, 1] (fun _ => rfl) (by kernel_rfl) (by kernel_rfl) (by kernel_rfl) ?_
  rw [(show obOf (orun g0 false 60 M53.b.b.a.i.a (U53 n f m q a b) []) = (true) from by kernel_rfl)]
theorem y53f {n : Nat} {f : Nat → Bool} {m : Nat} {q : List Int} {a : Nat} {b : Nat} (ha : a < 7) (hb : b < 7) (h : at7 f a b = false) : Exec PP T none x53.nt 0 M53.b.b.a.i.b (W53 n f m q a b) .n (U53 n f m q a b) := by
  refine exec_orun env0 false 60 [false] [0, 1] (fun _ => rfl) (by kernel_rfl) (by kernel_rfl) (by kernel_rfl) ?_
  rw [(show obOf (orun g0 false 60 M53.b.b.a.i.b (W53 n f m q a b) [false]) = (decide (0 ≤ Int.ofNat a) && decide (Int.ofNat a < 7) && (decide (0 ≤ Int.ofNat b) && decide (Int.ofNat b < 7) && (decide (0 + (0 + a * 7 + b * 1) < 49) && true)) && (!f (0 + (0 + a * 7 + b * 1)) && true)) from by kernel_rfl)]
  unfold at7 at h
  simp [h]
  omega
theorem y53t {n : Nat} {f : Nat → Bool} {m : Nat} {q : List Int} {a : Nat} {b : Nat} (hq : q.length = m * 2) (hm : m ≤ 100) (ha : a < 7) (hb : b < 7) (h : at7 f a b = true) : Exec PP T none x53.nt 0 M53.b.b.a.i.b (W53 n f m q a b) .n (mkSt [(0, g1S 0), (3, lsS 1 (m + 1)), (4, ⟨true, I a⟩), (9, ⟨true, I n⟩), (10, ⟨true, I a⟩), (16, ⟨true, I n⟩), (17, ⟨true, I b⟩)] [⟨true, .row 115 [.int .i64 (Int.ofNat n)] 49 f⟩, ⟨false, .ivec 77 .i64 2 (List.take (m * 2) q ++ [Int.ofNat a, Int.ofNat b])⟩] 2 []) := by
  refine exec_orun env0 false 60 [true] [0, 3] (fun _ => rfl) (by kernel_rfl) (by kernel_rfl) (by kernel_rfl) ?_
  rw [(show obOf (orun g0 false 60 M53.b.b.a.i.b (W53 n f m q a b) [true]) = (decide (0 ≤ Int.ofNat a) && decide (Int.ofNat a < 7) && (decide (0 ≤ Int.ofNat b) && decide (Int.ofNat b < 7) && (decide (0 + (0 + a * 7 + b * 1) < 49) && true)) && (f (0 + (0 + a * 7 + b * 1)) && (decide (2 ≤ Nat.succ 1) && decide (m * 2 ≤ q.length) && decide (m.succ ≤ 1000000000) && true && true && true))) from by kernel_rfl)]
  unfold at7 at h
  simp [h, hq]
  omega
abbrev gg53 (n : Nat) (f : Nat → Bool) : Nat → Nat → Bool := fun a b => at7 f a b
abbrev sU53 (n : Nat) (f : Nat → Bool) (n' a b : Nat) : St := U53 n f (midL (gg53 n f) n' a b).length (flat (midL (gg53 n f) n' a b)) a b
abbrev sS53 (n : Nat) (f : Nat → Bool) (n' a : Nat) : St := S53 n f (listL (gg53 n f) n' a).length (flat (listL (gg53 n f) n' a)) a
theorem m53 {n : Nat} {f : Nat → Bool} {n' a b : Nat} (ha : a < 7) (hb : b < n) (hb7 : b < 7) (hn' : n' ≤ 7) : Exec PP T none x53.nt 0 M53 (sU53 n f n' a b) .n (sU53 n f n' a (b + 1)) := by
  have hl := midL_len (g := (gg53 n f)) (n := n') (a := a) (b := b) (by omega) hn' (by omega)
  have hf := flat_len (midL (gg53 n f) n' a b)
  show Exec PP T none x53.nt 0 M53 _ .n (U53 n f (midL (gg53 n f) n' a (b + 1)).length (flat (midL (gg53 n f) n' a (b + 1))) a (b + 1))
  cases h : at7 f a b with
  | false =>
    rw [midL_f h]
    exact exec_seq (x := M53.a) (y := M53.b) m53a (exec_seq (x := M53.b.a) (y := M53.b.b) (m53b hb) (exec_seq (x := M53.b.b.a) (y := M53.b.b.b) (exec_block (id := 3) (x := M53.b.b.a.i) (e := .n) (exec_seq (x := M53.b.b.a.i.a) (y := M53.b.b.a.i.b) y53a (y53f ha hb7 h))) (m53e (by omega))))
  | true =>
    rw [midL_tl h, midL_tf h]
    exact exec_seq (x := M53.a) (y := M53.b) m53a (exec_seq (x := M53.b.a) (y := M53.b.b) (m53b hb) (exec_seq (x := M53.b.b.a) (y := M53.b.b.b) (exec_block (id := 3) (x := M53.b.b.a.i) (e := .n) (exec_seq (x := M53.b.b.a.i.a) (y := M53.b.b.a.i.b) y53a (y53t hf hl ha hb7 h))) (m53e (by omega))))
theorem l53 {n : Nat} {f : Nat → Bool} {a : Nat} (ha : a < n) (hn' : n ≤ 7) : Exec PP T none x53.nt 0 L53 (sS53 n f n a) .n (sS53 n f n (a + 1)) := by
  show Exec PP T none x53.nt 0 L53 _ .n (S53 n f (listL (gg53 n f) n (a + 1)).length (flat (listL (gg53 n f) n (a + 1))) (a + 1))
  rw [← midL_end]
  refine exec_seq (x := L53.a) (y := L53.b) l53a (exec_seq (x := L53.b.a) (y := L53.b.b) (l53b ha) (exec_seq (x := L53.b.b.a) (y := L53.b.b.b) (exec_block (id := 1) (x := L53.b.b.a.i) (e := .n) (exec_seq (x := L53.b.b.a.i.a) (y := L53.b.b.a.i.b) l53c (exec_seq (x := L53.b.b.a.i.b.a) (y := .block 2 (.loop M53)) (l53d (by omega))
    (exec_block (e := .x 2) ?_)))) (l53e (b := n) (by omega))))
  have h0 : midL (gg53 n f) n a 0 = listL (gg53 n f) n a := midL_0
  rw [← h0]
  exact exec_loop_from (fun b => sU53 n f n a b) 0 n (fun b hlo hb => m53 (by omega) hb (by omega) hn') (exec_seq (x := M53.a) (y := M53.b) m53a (exec_seq_x (x := M53.b.a) (y := M53.b.b) (m53x (by omega)) (by simp))) (by simp) (by omega)
def L49 : XC := x49.body.b.b.a.b.i.i
def M49 : XC := L49.b.b.a.i.b.b.i.i
abbrev S49 (n : Nat) (f : Nat → Bool) (m : Nat) (q : List Int) (a : Nat) : St := mkSt [(0, g1S 0), (3, lsS 1 m), (9, ⟨true, I n⟩), (10, ⟨true, I a⟩)] [⟨true, .row 115 [.int .i64 (Int.ofNat n)] 49 f⟩, ⟨false, .ivec 38 .i64 2 q⟩] 2 []
abbrev P49 (n : Nat) (f : Nat → Bool) (m : Nat) (q : List Int) (a : Nat) : St := mkSt [(0, g1S 0), (3, lsS 1 m), (9, ⟨true, I n⟩), (10, ⟨true, I a⟩), (11, ⟨true, B (decide (Int.ofNat a < Int.ofNat n))⟩)] [⟨true, .row 115 [.int .i64 (Int.ofNat n)] 49 f⟩, ⟨false, .ivec 38 .i64 2 q⟩] 2 []
abbrev U49 (n : Nat) (f : Nat → Bool) (m : Nat) (q : List Int) (a b : Nat) : St := mkSt [(0, g1S 0), (3, lsS 1 m), (4, ⟨true, I a⟩), (9, ⟨true, I n⟩), (10, ⟨true, I a⟩), (5, ⟨true, I b⟩)] [⟨true, .row 115 [.int .i64 (Int.ofNat n)] 49 f⟩, ⟨false, .ivec 38 .i64 2 q⟩] 2 []
abbrev K49 (n : Nat) (f : Nat → Bool) (m : Nat) (q : List Int) (a : Nat) : St := mkSt [(0, g1S 0), (3, lsS 1 m), (4, ⟨true, I a⟩), (9, ⟨true, I n⟩), (10, ⟨true, I a⟩)] [⟨true, .row 115 [.int .i64 (Int.ofNat n)] 49 f⟩, ⟨false, .ivec 38 .i64 2 q⟩] 2 []
theorem l49a {n : Nat} {f : Nat → Bool} {m : Nat} {q : List Int} {a : Nat} : Exec PP T none x49.nt 0 L49.a (S49 n f m q a) .n (P49 n f m q a) := by
  refine exec_orun env0 false 60 [] [0, 1] (fun _ => rfl) (by kernel_rfl) (by kernel_rfl) (by kernel_rfl) ?_
  rw [(show obOf (orun g0 false 60 L49.a (S49 n f m q a) []) = (true) from by kernel_rfl)]
theorem l49b {n : Nat} {f : Nat → Bool} {m : Nat} {q : List Int} {a : Nat} (ha : a < n) : Exec PP T none x49.nt 0 L49.b.a (P49 n f m q a) .n (S49 n f m q a) := by
  refine exec_orun env0 false 60 [true] [0, 1] (fun _ => rfl) (by kernel_rfl) (by kernel_rfl) (by kernel_rfl) ?_
  rw [(show obOf (orun g0 false 60 L49.b.a (P49 n f m q a) [true]) = (decide (Int.ofNat a < Int.ofNat n) && true) from by kernel_rfl)]
  simp
  omega
theorem l49x {n : Nat} {f : Nat → Bool} {m : Nat} {q : List Int} {a : Nat} (ha : ¬ a < n) : Exec PP T none x49.nt 0 L49.b.a (P49 n f m q a) (.x 0) (S49 n f m q a) := by
  refine exec_orun env0 false 60 [false] [0, 1] (fun _ => rfl) (by kernel_rfl) (by kernel_rfl) (by kernel_rfl) ?_
  rw [(show obOf (orun g0 false 60 L49.b.a (P49 n f m q a) [false]) = (!decide (Int.ofNat a < Int.ofNat n) && true) from by kernel_rfl)]
  simp
  omega
theorem l49c {n : Nat} {f : Nat → Bool} {m : Nat} {q : List Int} {a : Nat} : Exec PP T none x49.nt 0 L49.b.b.a.i.a (S49 n f m q a) .n (K49 n f m q a) := by
  refine exec_orun env0 false 60 [] [0, 1] (fun _ => rfl) (by kernel_rfl) (by kernel_rfl) (by kernel_rfl) ?_
  rw [(show obOf (orun g0 false 60 L49.b.b.a.i.a (S49 n f m q a) []) = (true) from by kernel_rfl)]
theorem l49d {n : Nat} {f : Nat → Bool} {m : Nat} {q : List Int} {a : Nat} (ha : a < 8) : Exec PP T none x49.nt 0 L49.b.b.a.i.b.a (K49 n f m q a) .n (U49 n f m q a (a + 1)) := by
  refine exec_orun env0 false 60 [] [0, 1] (fun _ => rfl) (by kernel_rfl) (by kernel_rfl) (by kernel_rfl) ?_
  rw [(show obOf (orun g0 false 60 L49.b.b.a.i.b.a (K49 n f m q a) []) = (rng64 (Int.ofNat a.succ) && true) from by kernel_rfl)]
  try simp [rng64]
  try omega
theorem l49e {n : Nat} {f : Nat → Bool} {m : Nat} {q : List Int} {a : Nat} {b : Nat} (ha : a < 8) : Exec PP T none x49.nt 0 L49.b.b.b (U49 n f m q a b) .n (S49 n f m q (a + 1)) := by
  refine exec_orun env0 false 60 [] [0, 1] (fun _ => rfl) (by kernel_rfl) (by kernel_rfl) (by kernel_rfl) ?_
  rw [(show obOf (orun g0 false 60 L49.b.b.b (U49 n f m q a b) []) = (rng64 (Int.ofNat a.succ) && true) from by kernel_rfl)]
  simp [rng64]
  omega
theorem m49a {n : Nat} {f : Nat → Bool} {m : Nat} {q : List Int} {a : Nat} {b : Nat} (hb : b < n) : Exec PP T none x49.nt 0 M49.a (U49 n f m q a b) .n (U49 n f m q a b) := by
  refine exec_orun env0 false 60 [true] [0, 1] (fun _ => rfl) (by kernel_rfl) (by kernel_rfl) (by kernel_rfl) ?_
  rw [(show obOf (orun g0 false 60 M49.a (U49 n f m q a b) [true]) = (decide (Int.ofNat b < Int.ofNat n) && true) from by kernel_rfl)]
  simp
  omega
theorem m49x {n : Nat} {f : Nat → Bool} {m : Nat} {q : List Int} {a : Nat} {b : Nat} (hb : ¬ b < n) : Exec PP T none x49.nt 0 M49.a (U49 n f m q a b) (.x 2) (U49 n f m q a b) := by
  refine exec_orun env0 false 60 [false] [0, 1] (fun _ => rfl) (by kernel_rfl) (by kernel_rfl) (by kernel_rfl) ?_
  rw [(show obOf (orun g0 false 60 M49.a (U49 n f m q a b) [false]) = (!decide (Int.ofNat b < Int.ofNat n) && true) from by kernel_rfl)]
  simp
  omega
theorem m49e {n : Nat} {f : Nat → Bool} {m : Nat} {q : List Int} {a : Nat} {b : Nat} (hb : b < 8) : Exec PP T none x49.nt 0 M49.b.b (U49 n f m q a b) .n (U49 n f m q a (b + 1)) := by
  refine exec_orun env0 false 60 [] [0, 1] (fun _ => rfl) (by kernel_rfl) (by kernel_rfl) (by kernel_rfl) ?_
  rw [(show obOf (orun g0 false 60 M49.b.b (U49 n f m q a b) []) = (rng64 (Int.ofNat b.succ) && true) from by kernel_rfl)]
  simp [rng64]
  omega
theorem y49f {n : Nat} {f : Nat → Bool} {m : Nat} {q : List Int} {a : Nat} {b : Nat} (ha : a < 7) (hb : b < 7) (h : at7 f a b = false) : Exec PP T none x49.nt 0 M49.b.a.i (U49 n f m q a b) .n (U49 n f m q a b) := by
  refine exec_orun env0 false 60 [false] [0, 1] (fun _ => rfl) (by kernel_rfl) (by kernel_rfl) (by kernel_rfl) ?_
  rw [(show obOf (orun g0 false 60 M49.b.a.i (U49 n f m q a b) [false]) = (decide (0 ≤ Int.ofNat a) && decide (Int.ofNat a < 7) && (decide (0 ≤ Int.ofNat b) && decide (Int.ofNat b < 7) && (decide (0 + (0 + a * 7 + b * 1) < 49) && true)) && (!f (0 + (0 + a * 7 + b * 1)) && true)) from by kernel_rfl)]
  unfold at7 at h
  simp [h]
  omega
theorem y49t {n : Nat} {f : Nat → Bool} {m : Nat} {q : List Int} {a : Nat} {b : Nat} (hq : q.length = m * 2) (hm : m ≤ 100) (ha : a < 7) (hb : b < 7) (h : at7 f a b = true) : Exec PP T none x49.nt 0 M49.b.a.i (U49 n f m q a b) .n (mkSt [(0, g1S 0), (3, lsS 1 (m + 1)), (4, ⟨true, I a⟩), (9, ⟨true, I n⟩), (10, ⟨true, I a⟩), (5, ⟨true, I b⟩)] [⟨true, .row 115 [.int .i64 (Int.ofNat n)] 49 f⟩, ⟨false, .ivec 38 .i64 2 (List.take (m * 2) q ++ [Int.ofNat a, Int.ofNat b])⟩] 2 []) := by
  refine exec_orun env0 false 60 [true] [0, 3] (fun _ => rfl) (by kernel_rfl) (by kernel_rfl) (by kernel_rfl) ?_
  rw [(show obOf (orun g0 false 60 M49.b.a.i (U49 n f m q a b) [true]) = (decide (0 ≤ Int.ofNat a) && decide (Int.ofNat a < 7) && (decide (0 ≤ Int.ofNat b) && decide (Int.ofNat b < 7) && (decide (0 + (0 + a * 7 + b * 1) < 49) && true)) && (f (0 + (0 + a * 7 + b * 1)) && (decide (2 ≤ Nat.succ 1) && decide (m * 2 ≤ q.length) && decide (m.succ ≤ 1000000000) && true && true && true))) from by kernel_rfl)]
  unfold at7 at h
  simp [h, hq]
  omega
abbrev gg49 (n : Nat) (f : Nat → Bool) : Nat → Nat → Bool := fun a b => decide (a < b) && at7 f a b
abbrev sU49 (n : Nat) (f : Nat → Bool) (n' a b : Nat) : St := U49 n f (midL (gg49 n f) n' a b).length (flat (midL (gg49 n f) n' a b)) a b
abbrev sS49 (n : Nat) (f : Nat → Bool) (n' a : Nat) : St := S49 n f (listL (gg49 n f) n' a).length (flat (listL (gg49 n f) n' a)) a
theorem m49 {n : Nat} {f : Nat → Bool} {n' a b : Nat} (ha : a < 7) (hb : b < n) (hb7 : b < 7) (hn' : n' ≤ 7) (hlo : a < b) : Exec PP T none x49.nt 0 M49 (sU49 n f n' a b) .n (sU49 n f n' a (b + 1)) := by
  have hl := midL_len (g := (gg49 n f)) (n := n') (a := a) (b := b) (by omega) hn' (by omega)
  have hf := flat_len (midL (gg49 n f) n' a b)
  show Exec PP T none x49.nt 0 M49 _ .n (U49 n f (midL (gg49 n f) n' a (b + 1)).length (flat (midL (gg49 n f) n' a (b + 1))) a (b + 1))
  cases h : at7 f a b with
  | false =>
    rw [midL_f (show (decide (a < b) && at7 f a b) = _ by rw [h, decide_eq_true hlo]; rfl)]
    exact exec_seq (x := M49.a) (y := M49.b) (m49a hb) (exec_seq (x := M49.b.a) (y := M49.b.b) (exec_block (id := 3) (x := M49.b.a.i) (e := .n) (y49f ha hb7 h)) (m49e (by omega)))
  | true =>
    rw [midL_tl (show (decide (a < b) && at7 f a b) = _ by rw [h, decide_eq_true hlo]; rfl), midL_tf (show (decide (a < b) && at7 f a b) = _ by rw [h, decide_eq_true hlo]; rfl)]
    exact exec_seq (x := M49.a) (y := M49.b) (m49a hb) (exec_seq (x := M49.b.a) (y := M49.b.b) (exec_block (id := 3) (x := M49.b.a.i) (e := .n) (y49t hf hl ha hb7 h)) (m49e (by omega)))
theorem l49 {n : Nat} {f : Nat → Bool} {a : Nat} (ha : a < n) (hn' : n ≤ 7) : Exec PP T none x49.nt 0 L49 (sS49 n f n a) .n (sS49 n f n (a + 1)) := by
  show Exec PP T none x49.nt 0 L49 _ .n (S49 n f (listL (gg49 n f) n (a + 1)).length (flat (listL (gg49 n f) n (a + 1))) (a + 1))
  rw [← midL_end]
  refine exec_seq (x := L49.a) (y := L49.b) l49a (exec_seq (x := L49.b.a) (y := L49.b.b) (l49b ha) (exec_seq (x := L49.b.b.a) (y := L49.b.b.b) (exec_block (id := 1) (x := L49.b.b.a.i) (e := .n) (exec_seq (x := L49.b.b.a.i.a) (y := L49.b.b.a.i.b) l49c (exec_seq (x := L49.b.b.a.i.b.a) (y := .block 2 (.loop M49)) (l49d (by omega))
    (exec_block (e := .x 2) ?_)))) (l49e (b := n) (by omega))))
  have h0 : midL (gg49 n f) n a (a + 1) = listL (gg49 n f) n a := midL_lo fun j hj => (by simp; omega)
  rw [← h0]
  exact exec_loop_from (fun b => sU49 n f n a b) (a + 1) n (fun b hlo hb => m49 (by omega) hb (by omega) hn' (by omega)) (exec_seq_x (x := M49.a) (y := M49.b) (m49x (by omega)) (by simp)) (by simp) (by omega)
theorem a53 {n : Nat} {f : Nat → Bool} : Exec PP T none x53.nt 0 x53.body.a (startSt [.s (.ptr 0 0 0)] [⟨true, .row 115 [.int .i64 (Int.ofNat n)] 49 f⟩]) .n (mkSt [(0, g1S 0)] [⟨true, .row 115 [.int .i64 (Int.ofNat n)] 49 f⟩] 1 []) := by
  refine exec_orun env0 false 60 [] [0] (fun _ => rfl) (by kernel_rfl) (by kernel_rfl) (by kernel_rfl) (by kernel_rfl)
theorem a53' {n : Nat} {f : Nat → Bool} : Exec PP T none x53.nt 0 x53.body.b.a (mkSt [(0, g1S 0)] [⟨true, .row 115 [.int .i64 (Int.ofNat n)] 49 f⟩] 1 []) .n (mkSt [(3, lsS 1 0), (0, g1S 0)] [⟨true, .row 115 [.int .i64 (Int.ofNat n)] 49 f⟩, ⟨false, .ivec 77 .i64 2 []⟩] 2 []) := by
  have key : Exec PP T none x53.nt 0 x53.body.b.a (mkSt [(0, g1S 0)] [⟨true, .row 115 [.int .i64 (Int.ofNat n)] 49 f⟩] 1 []) .n (mkSt [(0, g1S 0), (3, ⟨true, .av (.s .nils)⟩)] [⟨true, .row 115 [.int .i64 (Int.ofNat n)] 49 f⟩] 1 []) := by
    refine exec_orun env0 false 60 [] [0] (fun _ => rfl) (by kernel_rfl) (by kernel_rfl) (by kernel_rfl) (by kernel_rfl)
  exact key.post (weak_nil 3 77 .i64 2 rfl rfl rfl)
theorem b53 {n : Nat} {f : Nat → Bool} : Exec PP T none x53.nt 0 x53.body.b.b.a.a (mkSt [(3, lsS 1 0), (0, g1S 0)] [⟨true, .row 115 [.int .i64 (Int.ofNat n)] 49 f⟩, ⟨false, .ivec 77 .i64 2 []⟩] 2 []) .n (S53 n f 0 [] 0) := by
  refine exec_orun env0 false 60 [] [0, 1] (fun _ => rfl) (by kernel_rfl) (by kernel_rfl) (by kernel_rfl) (by kernel_rfl)
theorem d53 {n : Nat} {f : Nat → Bool} {m : Nat} {q : List Int} : Exec PP T none x53.nt 0 x53.body.b.b.b (S53 n f m q n) .r (mkSt [(2, lsS 0 m)] [⟨false, .ivec 77 .i64 2 q⟩] 1 []) := by
  refine exec_orun env0 false 60 [] [1] (fun _ => rfl) (by kernel_rfl) (by kernel_rfl) (by kernel_rfl) (by kernel_rfl)
def arrowsL (n : Nat) (f : Nat → Bool) : List (Int × Int) := listL (gg53 n f) n n
theorem body53 {n : Nat} {f : Nat → Bool} (hn : n ≤ 7) : Exec PP T none x53.nt 0 x53.body (startSt [.s (.ptr 0 0 0)] [⟨true, .row 115 [.int .i64 (Int.ofNat n)] 49 f⟩]) .r (mkSt [(2, lsS 0 (arrowsL n f).length)] [⟨false, .ivec 77 .i64 2 (flat (arrowsL n f))⟩] 1 []) := by
  refine exec_seq (x := x53.body.a) (y := x53.body.b) a53 (exec_seq (x := x53.body.b.a) (y := x53.body.b.b) a53' (exec_seq (x := x53.body.b.b.a) (y := x53.body.b.b.b) (exec_seq (x := x53.body.b.b.a.a) (y := .block 0 (.loop L53)) b53 (exec_block (e := .x 0) ?_)) (d53 (n := n) (f := f))))
  exact exec_loop_up (fun a => sS53 n f n a) n (fun a ha => l53 ha hn) (exec_seq (x := L53.a) (y := L53.b) l53a (exec_seq_x (x := L53.b.a) (y := L53.b.b) (l53x (by omega)) (by simp))) (by simp) 0 (by omega)
def sparrows : Spec where
  run := fun args h base => match args with
    | [.s (.ptr g 0 0)] => match h g with
      | some ⟨_, .row 115 [.int .i64 n] 49 f⟩ => some ⟨decide (0 ≤ n) && decide (n ≤ 7), .av (.s (.sl base 0 2 (arrowsL n.toNat f).length)), [], [⟨false, .ivec 77 .i64 2 (flat (arrowsL n.toNat f))⟩], some [g]⟩
      | _ => none
    | _ => none
theorem sparrows_fp : SpecFp sparrows := by
  intro args h h' base e hr hf
  simp only [sparrows] at hr ⊢
  split at hr
  case h_2 => cases hr
  split at hr
  case h_2 => cases hr
  rename_i hg
  cases hr
  simp only [hf _ (List.mem_singleton.2 rfl), hg]
theorem eqB_refl : ∀ (k : Nat) (f : Nat → Bool), eqB k f f = true
  | 0, _ => rfl
  | k + 1, f => by simp [eqB, eqB_refl k f]
theorem ok53 : SpecOK PP (compC T) 53 sparrows := by
  refine spec_gen tokP o53 fun ctx m h w args vals base e hH hargs hr hvc => ?_
  simp only [sparrows] at hr
  split at hr
  case h_2 => cases hr
  rename_i g
  split at hr
  case h_2 => cases hr
  rename_i ro n f hg
  cases hr
  simp only [Bool.and_eq_true, decide_eq_true_eq] at hvc
  obtain ⟨k, rfl⟩ : ∃ k : Nat, n = Int.ofNat k := ⟨n.toNat, by simp; omega⟩
  match vals, hargs with
  | [v1], ⟨ha1, _⟩ =>
    obtain ⟨mb, k1, k2, k3⟩ := view_row hH ha1 hg (eqB_refl 49 f)
    exact ⟨rfl, mm1 mb, [⟨true, .row 115 [.int .i64 (Int.ofNat k)] 49 f⟩], [.s (.ptr 0 0 0)], shown_new (tv := .av (.s (.sl 0 0 2 (arrowsL k f).length))) (o := .ivec 77 .i64 2 (flat (arrowsL k f))) (ro1 k1 k2) ⟨k3 (mm1 mb) 0 rfl, trivial⟩ (by kernel_rfl) (body53 (by have := hvc.2; simp at this; omega)) (fun _ => rfl) (by kernel_rfl) (by kernel_rfl) rfl rfl rfl (fun _ => rfl)⟩
theorem a49 {n : Nat} {f : Nat → Bool} : Exec PP T none x49.nt 0 x49.body.a (startSt [.s (.ptr 0 0 0)] [⟨true, .row 115 [.int .i64 (Int.ofNat n)] 49 f⟩]) .n (mkSt [(0, g1S 0)] [⟨true, .row 115 [.int .i64 (Int.ofNat n)] 49 f⟩] 1 []) := by
  refine exec_orun env0 false 60 [] [0] (fun _ => rfl) (by kernel_rfl) (by kernel_rfl) (by kernel_rfl) (by kernel_rfl)
theorem a49' {n : Nat} {f : Nat → Bool} : Exec PP T none x49.nt 0 x49.body.b.a (mkSt [(0, g1S 0)] [⟨true, .row 115 [.int .i64 (Int.ofNat n)] 49 f⟩] 1 []) .n (mkSt [(3, lsS 1 0), (0, g1S 0)] [⟨true, .row 115 [.int .i64 (Int.ofNat n)] 49 f⟩, ⟨false, .ivec 38 .i64 2 []⟩] 2 []) := by
  have key : Exec PP T none x49.nt 0 x49.body.b.a (mkSt [(0, g1S 0)] [⟨true, .row 115 [.int .i64 (Int.ofNat n)] 49 f⟩] 1 []) .n (mkSt [(0, g1S 0), (3, ⟨true, .av (.s .nils)⟩)] [⟨true, .row 115 [.int .i64 (Int.ofNat n)] 49 f⟩] 1 []) := by
    refine exec_orun env0 false 60 [] [0] (fun _ => rfl) (by kernel_rfl) (by kernel_rfl) (by kernel_rfl) (by kernel_rfl)
  exact key.post (weak_nil 3 38 .i64 2 rfl rfl rfl)
theorem b49 {n : Nat} {f : Nat → Bool} : Exec PP T none x49.nt 0 x49.body.b.b.a.a (mkSt [(3, lsS 1 0), (0, g1S 0)] [⟨true, .row 115 [.int .i64 (Int.ofNat n)] 49 f⟩, ⟨false, .ivec 38 .i64 2 []⟩] 2 []) .n (S49 n f 0 [] 0) := by
  refine exec_orun env0 false 60 [] [0, 1] (fun _ => rfl) (by kernel_rfl) (by kernel_rfl) (by kernel_rfl) (by kernel_rfl)
theorem d49 {n : Nat} {f : Nat → Bool} {m : Nat} {q : List Int} : Exec PP T none x49.nt 0 x49.body.b.b.b (S49 n f m q n) .r (mkSt [(2, lsS 0 m)] [⟨false, .ivec 38 .i64 2 q⟩] 1 []) := by
  refine exec_orun env0 false 60 [] [1] (fun _ => rfl) (by kernel_rfl) (by kernel_rfl) (by kernel_rfl) (by kernel_rfl)
def edgesL (n : Nat) (f : Nat → Bool) : List (Int × Int) := listL (gg49 n f) n n
theorem body49 {n : Nat} {f : Nat → Bool} (hn : n ≤ 7) : Exec PP T none x49.nt 0 x49.body (startSt [.s (.ptr 0 0 0)] [⟨true, .row 115 [.int .i64 (Int.ofNat n)] 49 f⟩]) .r (mkSt [(2, lsS 0 (edgesL n f).length)] [⟨false, .ivec 38 .i64 2 (flat (edgesL n f))⟩] 1 []) := by
  refine exec_seq (x := x49.body.a) (y := x49.body.b) a49 (exec_seq (x := x49.body.b.a) (y := x49.body.b.b) a49' (exec_seq (x := x49.body.b.b.a) (y := x49.body.b.b.b) (exec_seq (x := x49.body.b.b.a.a) (y := .block 0 (.loop L49)) b49 (exec_block (e := .x 0) ?_)) (d49 (n := n) (f := f))))
  exact exec_loop_up (fun a => sS49 n f n a) n (fun a ha => l49 ha hn) (exec_seq (x := L49.a) (y := L49.b) l49a (exec_seq_x (x := L49.b.a) (y := L49.b.b) (l49x (by omega)) (by simp))) (by simp) 0 (by omega)
def spedges : Spec where
  run := fun args h base => match args with
    | [.s (.ptr g 0 0)] => match h g with
      | some ⟨_, .row 115 [.int .i64 n] 49 f⟩ => some ⟨decide (0 ≤ n) && decide (n ≤ 7), .av (.s (.sl base 0 2 (edgesL n.toNat f).length)), [], [⟨false, .ivec 38 .i64 2 (flat (edgesL n.toNat f))⟩], some [g]⟩
      | _ => none
    | _ => none
theorem spedges_fp : SpecFp spedges := by
  intro args h h' base e hr hf
  simp only [spedges] at hr ⊢
  split at hr
  case h_2 => cases hr
  split at hr
  case h_2 => cases hr
  rename_i hg
  cases hr
  simp only [hf _ (List.mem_singleton.2 rfl), hg]
theorem ok49 : SpecOK PP (compC T) 49 spedges := by
  refine spec_gen tokP o49 fun ctx m h w args vals base e hH hargs hr hvc => ?_
  simp only [spedges] at hr
  split at hr
  case h_2 => cases hr
  rename_i g
  split at hr
  case h_2 => cases hr
  rename_i ro n f hg
  cases hr
  simp only [Bool.and_eq_true, decide_eq_true_eq] at hvc
  obtain ⟨k, rfl⟩ : ∃ k : Nat, n = Int.ofNat k := ⟨n.toNat, by simp; omega⟩
  match vals, hargs with
  | [v1], ⟨ha1, _⟩ =>
    obtain ⟨mb, k1, k2, k3⟩ := view_row hH ha1 hg (eqB_refl 49 f)
    exact ⟨rfl, mm1 mb, [⟨true, .row 115 [.int .i64 (Int.ofNat k)] 49 f⟩], [.s (.ptr 0 0 0)], shown_new (tv := .av (.s (.sl 0 0 2 (edgesL k f).length))) (o := .ivec 38 .i64 2 (flat (edgesL k f))) (ro1 k1 k2) ⟨k3 (mm1 mb) 0 rfl, trivial⟩ (by kernel_rfl) (body49 (by have := hvc.2; simp at this; omega)) (fun _ => rfl) (by kernel_rfl) (by kernel_rfl) rfl rfl rfl (fun _ => rfl)⟩
end Go.Proofs.Yteekkjfjpoaihaa.Eng
namespace Go.Proofs.Yteekkjfjpoaihaa.Eng
open Go Go.Proofs
def XC.rfA : XC → XC | .rf _ _ a _ => a | c => c
def XC.rfB : XC → XC | .rf _ _ _ b => b | c => c
def L54 : XC := x54.body.b.b.b.a.b.i.i
def F54 : XC := L54.b.a.i.b.i
def a54 : XC := F54.rfA
def b54 : XC := F54.rfB
abbrev slR : List (Nat × Slot) := [(0, g1S 0), (6, g1S 1), (7, g1S 3), (8, g1S 4), (29, ⟨true, .av (.s (.fn 109 [6, 5]))⟩)]
abbrev arV (u v : Int) : AV := .pb [.int .i64 u, .int .i64 v] 0 ff
/-- the same, with what a round does not turn as read only -/
abbrev HYr (n : Int) (f : Nat → Bool) (E : List (CV × CV)) (q : List Int) (m i : Nat) (a b : Int) (st : LS) : List HO := [⟨true, .row 115 [.int .i64 n] 49 f⟩, ⟨true, .row 78 [.mp 2] 0 ff⟩, ⟨false, .map (.ints 2) (.ints 2) E⟩, ⟨false, .row 74 [.sl 10 0 2 m] 0 ff⟩, ⟨true, .row 3 [.int .i64 i] 0 ff⟩, ⟨true, .row 64 [.ptr 0 0 0] 0 ff⟩, ⟨true, .row 77 [.int .i64 a, .int .i64 b] 0 ff⟩, ⟨true, .gone⟩, ⟨true, .dfr⟩, ⟨false, .loop (.al slR) [30] a54 b54 st⟩, ⟨false, .ivec 77 .i64 2 q⟩]
abbrev id11 : List Nat := [0, 1, 2, 3, 4, 5, 6, 7, 8, 9, 10]
theorem rd1 {r : Option Nat} {nt : Nat} {n : Int} {f : Nat → Bool} {E : List (CV × CV)} {q : List Int} {m i : Nat} {a b u v : Int} : Exec PP T r nt 10 a54 (mkSt ((30, ⟨true, .av (arV u v)⟩) :: slR) (HYr n f E q m i a b .ready) 11 []) .n (mkSt ((9, g1S 11) :: slR) (HYr n f E q m i a b .ready ++ [⟨false, .row 77 [.int .i64 u, .int .i64 v] 0 ff⟩]) 12 []) := by
  refine exec_orunG env0 true 60 [] (id11 ++ [11]) (fun h => (by cases h)) (by kernel_rfl) (by kernel_rfl) (by kernel_rfl) (by kernel_rfl)
/-- whether a map has a key -/
def hasC (E : List (CV × CV)) (u v : Int) : Bool := (findC (.ints 2) (.is [u, v]) E).isSome
noncomputable abbrev B54 (n : Int) (f : Nat → Bool) (E : List (CV × CV)) (q : List Int) (m i : Nat) (a b u v : Int) : St := { mkSt ((9, g1S 11) :: slR) (HYr n f E q m i a b .ready ++ [⟨false, .row 77 [.int .i64 u, .int .i64 v] 0 ff⟩]) 12 [] with hp := (mkSt ((9, g1S 11) :: slR) (HYr n f E q m i a b .ready ++ [⟨false, .row 77 [.int .i64 u, .int .i64 v] 0 ff⟩]) 12 []).hp.set 9 ⟨false, .loop (.al slR) [30] a54 b54 .busy⟩ }
theorem rd2 {r : Option Nat} {nt : Nat} {n : Int} {f : Nat → Bool} {E : List (CV × CV)} {q : List Int} {m i : Nat} {a b u v : Int} (h : hasC E u v = true) : Exec PP T r nt 10 b54 (B54 n f E q m i a b u v) .n (mkSt [] (HYr n f E q m i a b .busy) 12 []) := by
  refine exec_orunG env0 true 60 [false] id11 (fun h => (by cases h)) (by kernel_rfl) (by kernel_rfl) (by kernel_rfl) ?_
  rw [(show obOf (orun g0 true 60 b54 (B54 n f E q m i a b u v) [false]) = ((!!match findC (CK.ints 2) (CV.is ((fun x => u :: x) ((fun x => v :: x) []))) E with | some val => true | none => false) && true) from by kernel_rfl)]
  unfold hasC at h
  cases hf : findC (.ints 2) (.is [u, v]) E with
  | none => rw [hf] at h; cases h
  | some c => simp [hf]
theorem rd3 {r : Option Nat} {nt : Nat} {n : Int} {f : Nat → Bool} {E : List (CV × CV)} {q : List Int} {m i : Nat} {a b u v : Int} (hq : q.length = m * 2) (hi : i < m) (hm : m ≤ 1000) (h : hasC E u v = false) : Exec PP T r nt 10 b54 (B54 n f E q m i a b u v) .n (mkSt [] (HYr n f (updC (.ints 2) (.is [u, v]) (.is [q.getD (0 + (0 + i) * 2 + 0) 0, q.getD (0 + (0 + i) * 2 + 0 + 1) 0]) E) (List.take (m * 2) q ++ [u, v]) (m + 1) i a b .busy) 12 []) := by
  refine exec_orunG env0 true 60 [true] ([0, 1, 2, 3, 4, 5, 6, 7, 8, 9, 14]) (fun h => (by cases h)) (by kernel_rfl) (by kernel_rfl) (by kernel_rfl) ?_
  rw [(show obOf (orun g0 true 60 b54 (B54 n f E q m i a b u v) [true]) = ((!match findC (CK.ints 2) (CV.is ((fun x => u :: x) ((fun x => v :: x) []))) E with | some val => true | none => false) && (decide (0 ≤ Int.ofNat i) && decide (Int.ofNat i < Int.ofNat m) && (decide (((0 + (0 + i) * 2).add 0).succ.succ ≤ q.length) && true) && true && (decide (2 ≤ Nat.succ 1) && decide (m * 2 ≤ q.length) && decide (m.succ ≤ 1000000000) && true && true && true))) from by kernel_rfl)]
  unfold hasC at h
  cases hf : findC (.ints 2) (.is [u, v]) E with
  | some c => rw [hf] at h; cases h
  | none =>
    simp [hf, hq]
    omega
/-- what a round leaves of the map and of the queue -/
def pushE (q : List Int) (i : Nat) (E : List (CV × CV)) (u v : Int) : List (CV × CV) := bif hasC E u v then E else updC (.ints 2) (.is [u, v]) (.is [q.getD (0 + (0 + i) * 2 + 0) 0, q.getD (0 + (0 + i) * 2 + 0 + 1) 0]) E
def pushQ (E : List (CV × CV)) (q : List Int) (m : Nat) (u v : Int) : List Int := bif hasC E u v then q else List.take (m * 2) q ++ [u, v]
def pushM (E : List (CV × CV)) (m : Nat) (u v : Int) : Nat := bif hasC E u v then m else m + 1
theorem rdx {r : Option Nat} {nt : Nat} {n : Int} {f : Nat → Bool} {E : List (CV × CV)} {q : List Int} {m i : Nat} {a b u v : Int} (hq : q.length = m * 2) (hi : i < m) (hm : m ≤ 1000) : Exec PP T r nt 10 b54 (B54 n f E q m i a b u v) .n (mkSt [] (HYr n f (pushE q i E u v) (pushQ E q m u v) (pushM E m u v) i a b .busy) 12 []) := by
  unfold pushE pushQ pushM
  cases h : hasC E u v with
  | true => exact rd2 h
  | false => exact rd3 hq hi hm h
theorem mkSt_set {ts : List (Nat × Slot)} {hs : List HO} {nx : Nat} {df : List Nat} {k : Nat} (hk : k < hs.length) (o : HO) (j : Nat) : ((mkSt ts hs nx df).hp.set k o).get j = (hs.set k o)[j]? := by
  rw [Sto.get_set, mkSt_hp, List.getElem?_set]
  by_cases h : j = k
  · subst h; simp [hk]
  · rw [if_neg h, if_neg (fun e => h e.symm)]
/-- the round as a contract at one place -/
abbrev updY (n : Int) (f : Nat → Bool) (E : List (CV × CV)) (m : Nat) : List (Nat × HO) := [(9, ⟨false, .loop (.al slR) [30] a54 b54 .ready⟩), (2, ⟨false, .map (.ints 2) (.ints 2) E⟩), (3, ⟨false, .row 74 [.sl 11 0 2 m] 0 ff⟩), (10, ⟨false, .gone⟩)]
noncomputable abbrev spY (n : Int) (f : Nat → Bool) (E : List (CV × CV)) (q : List Int) (m i : Nat) (a b u v : Int) : Spec := spAt [arV u v] (mkSt [] (HYr n f E q m i a b .ready) 11 []).hp.get 11 (.av (.s (.bool true))) (updY n f (pushE q i E u v) (pushM E m u v)) [⟨false, .ivec 77 .i64 2 (pushQ E q m u v)⟩]
theorem atOK_Y {n : Int} {f : Nat → Bool} {E : List (CV × CV)} {q : List Int} {m i : Nat} {a b u v : Int} : AtOK (mkSt [] (HYr n f E q m i a b .ready) 11 []).hp.get (mkSt ((30, ⟨true, .av (arV u v)⟩) :: slR) (HYr n f E q m i a b .ready) 11 []).hp 10 11 (updY n f (pushE q i E u v) (pushM E m u v)) [⟨false, .ivec 77 .i64 2 (pushQ E q m u v)⟩] (HYr n f (pushE q i E u v) (pushQ E q m u v) (pushM E m u v) i a b .ready) where
  start := fun j o hj => by
    rw [mkSt_hp] at hj
    rw [mkSt_hp]
    match j, hj with
    | 0, hj => cases hj; exact ⟨_, rfl, rfl, fun h => by cases h⟩
    | 1, hj => cases hj; exact ⟨_, rfl, rfl, fun h => by cases h⟩
    | 2, hj => cases hj; exact ⟨_, rfl, rfl, fun _ => ⟨rfl, fun _ => ⟨_, .tail _ (.head _), rfl⟩⟩⟩
    | 3, hj => cases hj; exact ⟨_, rfl, rfl, fun _ => ⟨rfl, fun _ => ⟨_, .tail _ (.tail _ (.head _)), rfl⟩⟩⟩
    | 4, hj => cases hj; exact ⟨_, rfl, rfl, fun h => by cases h⟩
    | 5, hj => cases hj; exact ⟨_, rfl, rfl, fun h => by cases h⟩
    | 6, hj => cases hj; exact ⟨_, rfl, rfl, fun h => by cases h⟩
    | 7, hj => cases hj; exact ⟨_, rfl, rfl, fun h => by cases h⟩
    | 8, hj => cases hj; exact ⟨_, rfl, rfl, fun h => by cases h⟩
    | 9, hj => cases hj; exact ⟨_, rfl, rfl, fun _ => ⟨rfl, fun _ => ⟨_, .head _, rfl⟩⟩⟩
    | 10, hj => cases hj; exact ⟨_, rfl, rfl, fun _ => ⟨rfl, fun _ => ⟨_, .tail _ (.tail _ (.tail _ (.head _))), rfl⟩⟩⟩
    | j + 11, hj => simp at hj
  keep := fun j hj => by
    rw [mkSt_hp]
    simp
    omega
  len := rfl
  new := rfl
  news_eq := rfl
  upd_eq := fun u hu => by
    simp only [List.mem_cons, List.not_mem_nil, or_false] at hu
    rcases hu with rfl | rfl | rfl | rfl
    · exact .inr ⟨(by show 9 < 10; omega), _, rfl, rfl, rfl, fun _ j hj => by
        have : j = 0 ∨ j = 1 ∨ j = 3 ∨ j = 4 ∨ j = 6 ∨ j = 5 := by simpa [AO.ids, Sto.vals, TV.ids, AV.ids, SV.ids] using hj
        omega⟩
    · exact .inr ⟨(by show 2 < 10; omega), _, rfl, rfl, rfl, fun h => by cases h⟩
    · exact .inr ⟨(by show 3 < 10; omega), _, rfl, rfl, rfl, fun h => by cases h⟩
    · exact .inl ⟨rfl, rfl⟩
  ids := fun j o hj i hi => by
    show i < 11
    match j, hj with
    | 0, hj => cases hj; simp [AO.ids, SV.ids] at hi
    | 1, hj => cases hj; simp [AO.ids, SV.ids] at hi; omega
    | 2, hj => cases hj; simp [AO.ids, SV.ids] at hi
    | 3, hj => cases hj; simp [AO.ids, SV.ids] at hi; omega
    | 4, hj => cases hj; simp [AO.ids, SV.ids] at hi
    | 5, hj => cases hj; simp [AO.ids, SV.ids] at hi; omega
    | 6, hj => cases hj; simp [AO.ids, SV.ids] at hi
    | 7, hj => cases hj; simp [AO.ids, SV.ids] at hi
    | 8, hj => cases hj; simp [AO.ids, SV.ids] at hi
    | 9, hj =>
      cases hj
      have : i = 0 ∨ i = 1 ∨ i = 3 ∨ i = 4 ∨ i = 6 ∨ i = 5 := by simpa [AO.ids, Sto.vals, TV.ids, AV.ids, SV.ids] using hi
      omega
    | 10, hj => cases hj; simp [AO.ids, SV.ids] at hi
    | j + 11, hj => simp at hj
theorem ok_Y {n : Int} {f : Nat → Bool} {E : List (CV × CV)} {q : List Int} {m i : Nat} {a b u v : Int} (hq : q.length = m * 2) (hi : i < m) (hm : m ≤ 1000) : YieldOK PP (compC T) 9 (spY n f E q m i a b u v) :=
  yield_at (S := (mkSt ((30, ⟨true, .av (arV u v)⟩) :: slR) (HYr n f E q m i a b .ready) 11 []).hp) (K := 10) (slS := .al ((30, ⟨true, .av (arV u v)⟩) :: slR)) (ex := .n) (bv := true) atOK_Y (fun j hj => hj) (by decide) rfl rfl (fun t s hs => by
    simp only [setPs]
    have hs : alGet ((30, _) :: slR) t = some s := hs
    rw [alGet_cons] at hs
    by_cases h : t = 30
    · subst h
      rw [beqT rfl, cond_true] at hs
      rw [if_pos rfl]; exact hs
    · rw [beqF (fun e => h e.symm), cond_false] at hs
      rw [if_neg h]; exact hs) (fun l nt => rd1) rfl (fun l nt => rdx hq hi hm) rfl (fun j => mkSt_set (by simp) _ j) rfl
end Go.Proofs.Yteekkjfjpoaihaa.Eng
namespace Go.Proofs.Yteekkjfjpoaihaa.Eng
open Go Go.Proofs
def L109 : XC := x109.body.b.b.i.i
abbrev id11' : List Nat := [0, 1, 2, 3, 4, 5, 6, 7, 8, 9, 11]
abbrev slB : List (Nat × Slot) := [(0, ⟨true, .av (.s (.yield 9))⟩), (1, g1S 6), (2, g1S 5)]
abbrev slC (n c : Nat) : List (Nat × Slot) := [(0, ⟨true, .av (.s (.yield 9))⟩), (1, g1S 6), (2, g1S 5), (12, ⟨true, I n⟩), (13, ⟨true, I c⟩)]
abbrev slD (n c : Nat) : List (Nat × Slot) := [(0, ⟨true, .av (.s (.yield 9))⟩), (1, g1S 6), (2, g1S 5), (4, ⟨true, I c⟩), (12, ⟨true, I n⟩), (13, ⟨true, I c⟩)]
/-- what a run of rounds has in hand: the map, the queue, its length -/
abbrev Sig := List (CV × CV) × List Int × Nat
def push1 (i : Nat) (s : Sig) (u v : Int) : Sig := (pushE s.2.1 i s.1 u v, pushQ s.1 s.2.1 s.2.2 u v, pushM s.1 s.2.2 u v)
abbrev HS (n : Nat) (f : Nat → Bool) (s : Sig) (i a b : Nat) : List HO := HYr (Int.ofNat n) f s.1 s.2.1 s.2.2 i (Int.ofNat a) (Int.ofNat b) .ready
noncomputable abbrev spS (n : Nat) (f : Nat → Bool) (s : Sig) (i a b : Nat) (u v : Int) : Spec := spY (Int.ofNat n) f s.1 s.2.1 s.2.2 i (Int.ofNat a) (Int.ofNat b) u v
def okSig (s : Sig) (i : Nat) (top : Nat) : Prop := s.2.1.length = s.2.2 * 2 ∧ i < s.2.2 ∧ s.2.2 ≤ top
theorem okSig.push {s : Sig} {i top : Nat} (h : okSig s i top) (u v : Int) : okSig (push1 i s u v) i (top + 1) := by
  obtain ⟨h1, h2, h3⟩ := h
  unfold push1 okSig pushQ pushM
  cases hasC s.1 u v with
  | true => exact ⟨h1, h2, by simp; omega⟩
  | false =>
    refine ⟨?_, by simp; omega, by simp; omega⟩
    simp [h1]
    omega
theorem okSig.le {s : Sig} {i top top' : Nat} (h : okSig s i top) (ht : top ≤ top') : okSig s i top' := ⟨h.1, h.2.1, by have := h.2.2; omega⟩
theorem envS {n : Nat} {f : Nat → Bool} {s : Sig} {i a b : Nat} {u v : Int} (h : okSig s i 1000) : EnvOK PP T (gY 9 (spS n f s i a b u v)) := envY (ok_Y h.1 h.2.1 h.2.2) spAt_fp
theorem y109 {n : Nat} {f : Nat → Bool} {s : Sig} {i a b : Nat} (h : okSig s i 1000) : Exec PP T none x109.nt 10 x109.body.a (mkSt slB (HS n f s i a b) 11 []) .n (mkSt slB (HS n f (push1 i s (Int.ofNat a) (Int.ofNat b)) i a b) 11 []) := by
  refine exec_orunG (envS (n := n) (f := f) (a := a) (b := b) (u := Int.ofNat a) (v := Int.ofNat b) h) false 60 [false] id11' (fun _ => rfl) (by kernel_rfl) (by kernel_rfl) (by kernel_rfl) ?_
  rw [(show obOf (orun (gY 9 (spS n f s i a b (Int.ofNat a) (Int.ofNat b))) false 60 x109.body.a (mkSt slB (HS n f s i a b) 11 []) [false]) = (atB [arV (Int.ofNat a) (Int.ofNat b)] [arV (Int.ofNat a) (Int.ofNat b)] (mkSt [] (HS n f s i a b) 11 []).hp.get (mkSt [] (HS n f s i a b) 11 []).hp.get 11 11 && true && true && true && true) from by kernel_rfl)]
  simp
theorem z109 {n : Nat} {f : Nat → Bool} {s : Sig} {i a b : Nat} : Exec PP T none x109.nt 10 x109.body.b.a (mkSt slB (HS n f s i a b) 11 []) .n (mkSt (slC n 0) (HS n f s i a b) 11 []) := by
  refine exec_orunG env0 false 60 [] id11 (fun _ => rfl) (by kernel_rfl) (by kernel_rfl) (by kernel_rfl) (by kernel_rfl)
theorem l109a {n : Nat} {f : Nat → Bool} {s : Sig} {i a b c : Nat} : Exec PP T none x109.nt 10 L109.a (mkSt (slC n c) (HS n f s i a b) 11 []) .n (mkSt ((14, ⟨true, B (decide (Int.ofNat c < Int.ofNat n))⟩) :: slC n c) (HS n f s i a b) 11 []) := by
  refine exec_orunG env0 false 60 [] id11 (fun _ => rfl) (by kernel_rfl) (by kernel_rfl) (by kernel_rfl) (by kernel_rfl)
theorem l109b {n : Nat} {f : Nat → Bool} {s : Sig} {i a b c : Nat} (hc : c < n) : Exec PP T none x109.nt 10 L109.b.a (mkSt ((14, ⟨true, B (decide (Int.ofNat c < Int.ofNat n))⟩) :: slC n c) (HS n f s i a b) 11 []) .n (mkSt (slC n c) (HS n f s i a b) 11 []) := by
  refine exec_orunG env0 false 60 [true] id11 (fun _ => rfl) (by kernel_rfl) (by kernel_rfl) (by kernel_rfl) ?_
  rw [(show obOf (orun g0 false 60 L109.b.a (mkSt ((14, ⟨true, B (decide (Int.ofNat c < Int.ofNat n))⟩) :: slC n c) (HS n f s i a b) 11 []) [true]) = (decide (Int.ofNat c < Int.ofNat n) && true) from by kernel_rfl)]
  simp
  omega
theorem l109x {n : Nat} {f : Nat → Bool} {s : Sig} {i a b : Nat} : Exec PP T none x109.nt 10 L109.b.a (mkSt ((14, ⟨true, B (decide (Int.ofNat n < Int.ofNat n))⟩) :: slC n n) (HS n f s i a b) 11 []) (.x 0) (mkSt (slC n n) (HS n f s i a b) 11 []) := by
  refine exec_orunG env0 false 60 [false] id11 (fun _ => rfl) (by kernel_rfl) (by kernel_rfl) (by kernel_rfl) ?_
  rw [(show obOf (orun g0 false 60 L109.b.a (mkSt ((14, ⟨true, B (decide (Int.ofNat n < Int.ofNat n))⟩) :: slC n n) (HS n f s i a b) 11 []) [false]) = (!decide (Int.ofNat n < Int.ofNat n) && true) from by kernel_rfl)]
  simp
theorem l109c {n : Nat} {f : Nat → Bool} {s : Sig} {i a b c : Nat} : Exec PP T none x109.nt 10 L109.b.b.a.i.a (mkSt (slC n c) (HS n f s i a b) 11 []) .n (mkSt (slD n c) (HS n f s i a b) 11 []) := by
  refine exec_orunG env0 false 60 [] id11 (fun _ => rfl) (by kernel_rfl) (by kernel_rfl) (by kernel_rfl) (by kernel_rfl)
theorem l109e {n : Nat} {f : Nat → Bool} {s : Sig} {i a b c : Nat} (hc : c < 8) : Exec PP T none x109.nt 10 L109.b.b.b (mkSt (slD n c) (HS n f s i a b) 11 []) .n (mkSt (slC n (c + 1)) (HS n f s i a b) 11 []) := by
  refine exec_orunG env0 false 60 [] id11 (fun _ => rfl) (by kernel_rfl) (by kernel_rfl) (by kernel_rfl) ?_
  rw [(show obOf (orun g0 false 60 L109.b.b.b (mkSt (slD n c) (HS n f s i a b) 11 []) []) = (rng64 (Int.ofNat c.succ) && true) from by kernel_rfl)]
  simp [rng64]
  omega
def cnd1 (f : Nat → Bool) (a b c : Nat) : Bool := !(Nat.beq c b) && (at7 f a c && !(at7 f b c))
def cnd2 (f : Nat → Bool) (a b c : Nat) : Bool := !(Nat.beq c a) && (at7 f c b && !(at7 f a c))
theorem neI (c b : Nat) : (Int.ofNat c != Int.ofNat b) = !(Nat.beq c b) := by
  by_cases h : c = b
  · subst h; simp
  · rw [beqF h]
    simp
    omega
theorem at7_raw (f : Nat → Bool) (x y : Nat) : f (0 + (0 + x * 7 + y * 1)) = at7 f x y := by
  unfold at7
  congr 1
  omega
theorem dI0 (x : Nat) : decide (0 ≤ Int.ofNat x) = true := by simp
theorem dI7 {x : Nat} (h : x < 7) : decide (Int.ofNat x < 7) = true := by simp; omega
theorem dI49 {x y : Nat} (hx : x < 7) (hy : y < 7) : decide (0 + (0 + x * 7 + y * 1) < 49) = true := by simp; omega
theorem p109n {n : Nat} {f : Nat → Bool} {s : Sig} {i a b c : Nat} (hs : okSig s i 1000) (ha : a < 7) (hb : b < 7) (hc : c < 7) (h : cnd1 f a b c = false) : Exec PP T none x109.nt 10 L109.b.b.a.i.b.a (mkSt (slD n c) (HS n f s i a b) 11 []) .n (mkSt (slD n c) (HS n f s i a b) 11 []) := by
  refine exec_orunG (envS (n := n) (f := f) (a := a) (b := b) (u := Int.ofNat a) (v := Int.ofNat c) hs) false 60 [false, false] id11 (fun _ => rfl) (by kernel_rfl) (by kernel_rfl) (by kernel_rfl) ?_
  rw [(show obOf (orun (gY 9 (spS n f s i a b (Int.ofNat a) (Int.ofNat c))) false 60 L109.b.b.a.i.b.a (mkSt (slD n c) (HS n f s i a b) 11 []) [false, false]) = ((!(Int.ofNat c != Int.ofNat b) == true || true) && ((!(Int.ofNat c != Int.ofNat b) == true || true) && ((!(Int.ofNat c != Int.ofNat b) == true || (Int.ofNat c != Int.ofNat b) == true && true && true) && ((!(Int.ofNat c != Int.ofNat b) == true || true) && ((!(Int.ofNat c != Int.ofNat b) == true || (Int.ofNat c != Int.ofNat b) == true && true && true) && ((!(Int.ofNat c != Int.ofNat b) == true || (Int.ofNat c != Int.ofNat b) == true && true && true) && ((!(Int.ofNat c != Int.ofNat b) == true || (Int.ofNat c != Int.ofNat b) == true && ((Int.ofNat c != Int.ofNat b) == true && true) && (decide (0 ≤ Int.ofNat a) && decide (Int.ofNat a < 7))) && ((!(Int.ofNat c != Int.ofNat b) == true || (Int.ofNat c != Int.ofNat b) == true && ((Int.ofNat c != Int.ofNat b) == true && true) && (decide (0 ≤ Int.ofNat c) && decide (Int.ofNat c < 7))) && ((!(Int.ofNat c != Int.ofNat b) == true || (Int.ofNat c != Int.ofNat b) == true && true && decide (0 + (0 + a * 7 + c * 1) < 49)) && ((bif Int.ofNat c != Int.ofNat b then (Int.ofNat c != Int.ofNat b) == true else true) && true && ((!(bif Int.ofNat c != Int.ofNat b then f (0 + (0 + a * 7 + c * 1)) else false) == true || true) && ((!(bif Int.ofNat c != Int.ofNat b then f (0 + (0 + a * 7 + c * 1)) else false) == true || true) && ((!(bif Int.ofNat c != Int.ofNat b then f (0 + (0 + a * 7 + c * 1)) else false) == true || (bif Int.ofNat c != Int.ofNat b then f (0 + (0 + a * 7 + c * 1)) else false) == true && true && true) && ((!(bif Int.ofNat c != Int.ofNat b then f (0 + (0 + a * 7 + c * 1)) else false) == true || true) && ((!(bif Int.ofNat c != Int.ofNat b then f (0 + (0 + a * 7 + c * 1)) else false) == true || (bif Int.ofNat c != Int.ofNat b then f (0 + (0 + a * 7 + c * 1)) else false) == true && true && true) && ((!(bif Int.ofNat c != Int.ofNat b then f (0 + (0 + a * 7 + c * 1)) else false) == true || (bif Int.ofNat c != Int.ofNat b then f (0 + (0 + a * 7 + c * 1)) else false) == true && true && true) && ((!(bif Int.ofNat c != Int.ofNat b then f (0 + (0 + a * 7 + c * 1)) else false) == true || (bif Int.ofNat c != Int.ofNat b then f (0 + (0 + a * 7 + c * 1)) else false) == true && ((bif Int.ofNat c != Int.ofNat b then f (0 + (0 + a * 7 + c * 1)) else false) == true && true) && (decide (0 ≤ Int.ofNat b) && decide (Int.ofNat b < 7))) && ((!(bif Int.ofNat c != Int.ofNat b then f (0 + (0 + a * 7 + c * 1)) else false) == true || (bif Int.ofNat c != Int.ofNat b then f (0 + (0 + a * 7 + c * 1)) else false) == true && ((bif Int.ofNat c != Int.ofNat b then f (0 + (0 + a * 7 + c * 1)) else false) == true && true) && (decide (0 ≤ Int.ofNat c) && decide (Int.ofNat c < 7))) && ((!(bif Int.ofNat c != Int.ofNat b then f (0 + (0 + a * 7 + c * 1)) else false) == true || (bif Int.ofNat c != Int.ofNat b then f (0 + (0 + a * 7 + c * 1)) else false) == true && true && decide (0 + (0 + b * 7 + c * 1) < 49)) && ((!(bif Int.ofNat c != Int.ofNat b then f (0 + (0 + a * 7 + c * 1)) else false) == true || (bif Int.ofNat c != Int.ofNat b then f (0 + (0 + a * 7 + c * 1)) else false) == true && true && true) && ((bif bif Int.ofNat c != Int.ofNat b then f (0 + (0 + a * 7 + c * 1)) else false then (bif Int.ofNat c != Int.ofNat b then f (0 + (0 + a * 7 + c * 1)) else false) == true else true) && true && ((!(bif bif Int.ofNat c != Int.ofNat b then f (0 + (0 + a * 7 + c * 1)) else false then !f (0 + (0 + b * 7 + c * 1)) else false) == true || true) && ((!(bif bif Int.ofNat c != Int.ofNat b then f (0 + (0 + a * 7 + c * 1)) else false then !f (0 + (0 + b * 7 + c * 1)) else false) == true || true) && ((!(bif bif Int.ofNat c != Int.ofNat b then f (0 + (0 + a * 7 + c * 1)) else false then !f (0 + (0 + b * 7 + c * 1)) else false) == true || (bif bif Int.ofNat c != Int.ofNat b then f (0 + (0 + a * 7 + c * 1)) else false then !f (0 + (0 + b * 7 + c * 1)) else false) == true && true && true) && ((!(bif bif Int.ofNat c != Int.ofNat b then f (0 + (0 + a * 7 + c * 1)) else false then !f (0 + (0 + b * 7 + c * 1)) else false) == true || true) && ((!(bif bif Int.ofNat c != Int.ofNat b then f (0 + (0 + a * 7 + c * 1)) else false then !f (0 + (0 + b * 7 + c * 1)) else false) == true || (bif bif Int.ofNat c != Int.ofNat b then f (0 + (0 + a * 7 + c * 1)) else false then !f (0 + (0 + b * 7 + c * 1)) else false) == true && ((bif bif Int.ofNat c != Int.ofNat b then f (0 + (0 + a * 7 + c * 1)) else false then !f (0 + (0 + b * 7 + c * 1)) else false) == true && true) && true) && (!(bif bif Int.ofNat c != Int.ofNat b then f (0 + (0 + a * 7 + c * 1)) else false then !f (0 + (0 + b * 7 + c * 1)) else false) == true && ((!(bif bif Int.ofNat c != Int.ofNat b then f (0 + (0 + a * 7 + c * 1)) else false then !f (0 + (0 + b * 7 + c * 1)) else false) == true || false) && ((bif bif bif Int.ofNat c != Int.ofNat b then f (0 + (0 + a * 7 + c * 1)) else false then !f (0 + (0 + b * 7 + c * 1)) else false then (bif bif Int.ofNat c != Int.ofNat b then f (0 + (0 + a * 7 + c * 1)) else false then !f (0 + (0 + b * 7 + c * 1)) else false) == true else true) && true && true)))))))))))))))))))))))))))) && true && ((!bif bif bif Int.ofNat c != Int.ofNat b then f (0 + (0 + a * 7 + c * 1)) else false then !f (0 + (0 + b * 7 + c * 1)) else false then false else false) && true)) from by kernel_rfl)]
  simp only [at7_raw, neI, dI0, dI7 ha, dI7 hb, dI7 hc, dI49 ha hc, dI49 hb hc, dI49 hc hb]
  unfold cnd1 at h
  revert h
  cases Nat.beq c b <;> cases at7 f a c <;> cases at7 f b c <;> simp
theorem p109t {n : Nat} {f : Nat → Bool} {s : Sig} {i a b c : Nat} (hs : okSig s i 1000) (ha : a < 7) (hb : b < 7) (hc : c < 7) (h : cnd1 f a b c = true) : Exec PP T none x109.nt 10 L109.b.b.a.i.b.a (mkSt (slD n c) (HS n f s i a b) 11 []) .n (mkSt (slD n c) (HS n f (push1 i s (Int.ofNat a) (Int.ofNat c)) i a b) 11 []) := by
  refine exec_orunG (envS (n := n) (f := f) (a := a) (b := b) (u := Int.ofNat a) (v := Int.ofNat c) hs) false 60 [true, false] id11' (fun _ => rfl) (by kernel_rfl) (by kernel_rfl) (by kernel_rfl) ?_
  rw [(show obOf (orun (gY 9 (spS n f s i a b (Int.ofNat a) (Int.ofNat c))) false 60 L109.b.b.a.i.b.a (mkSt (slD n c) (HS n f s i a b) 11 []) [true, false]) = ((!(Int.ofNat c != Int.ofNat b) == true || true) && ((!(Int.ofNat c != Int.ofNat b) == true || true) && ((!(Int.ofNat c != Int.ofNat b) == true || (Int.ofNat c != Int.ofNat b) == true && true && true) && ((!(Int.ofNat c != Int.ofNat b) == true || true) && ((!(Int.ofNat c != Int.ofNat b) == true || (Int.ofNat c != Int.ofNat b) == true && true && true) && ((!(Int.ofNat c != Int.ofNat b) == true || (Int.ofNat c != Int.ofNat b) == true && true && true) && ((!(Int.ofNat c != Int.ofNat b) == true || (Int.ofNat c != Int.ofNat b) == true && ((Int.ofNat c != Int.ofNat b) == true && true) && (decide (0 ≤ Int.ofNat a) && decide (Int.ofNat a < 7))) && ((!(Int.ofNat c != Int.ofNat b) == true || (Int.ofNat c != Int.ofNat b) == true && ((Int.ofNat c != Int.ofNat b) == true && true) && (decide (0 ≤ Int.ofNat c) && decide (Int.ofNat c < 7))) && ((!(Int.ofNat c != Int.ofNat b) == true || (Int.ofNat c != Int.ofNat b) == true && true && decide (0 + (0 + a * 7 + c * 1) < 49)) && ((bif Int.ofNat c != Int.ofNat b then (Int.ofNat c != Int.ofNat b) == true else true) && true && ((!(bif Int.ofNat c != Int.ofNat b then f (0 + (0 + a * 7 + c * 1)) else false) == true || true) && ((!(bif Int.ofNat c != Int.ofNat b then f (0 + (0 + a * 7 + c * 1)) else false) == true || true) && ((!(bif Int.ofNat c != Int.ofNat b then f (0 + (0 + a * 7 + c * 1)) else false) == true || (bif Int.ofNat c != Int.ofNat b then f (0 + (0 + a * 7 + c * 1)) else false) == true && true && true) && ((!(bif Int.ofNat c != Int.ofNat b then f (0 + (0 + a * 7 + c * 1)) else false) == true || true) && ((!(bif Int.ofNat c != Int.ofNat b then f (0 + (0 + a * 7 + c * 1)) else false) == true || (bif Int.ofNat c != Int.ofNat b then f (0 + (0 + a * 7 + c * 1)) else false) == true && true && true) && ((!(bif Int.ofNat c != Int.ofNat b then f (0 + (0 + a * 7 + c * 1)) else false) == true || (bif Int.ofNat c != Int.ofNat b then f (0 + (0 + a * 7 + c * 1)) else false) == true && true && true) && ((!(bif Int.ofNat c != Int.ofNat b then f (0 + (0 + a * 7 + c * 1)) else false) == true || (bif Int.ofNat c != Int.ofNat b then f (0 + (0 + a * 7 + c * 1)) else false) == true && ((bif Int.ofNat c != Int.ofNat b then f (0 + (0 + a * 7 + c * 1)) else false) == true && true) && (decide (0 ≤ Int.ofNat b) && decide (Int.ofNat b < 7))) && ((!(bif Int.ofNat c != Int.ofNat b then f (0 + (0 + a * 7 + c * 1)) else false) == true || (bif Int.ofNat c != Int.ofNat b then f (0 + (0 + a * 7 + c * 1)) else false) == true && ((bif Int.ofNat c != Int.ofNat b then f (0 + (0 + a * 7 + c * 1)) else false) == true && true) && (decide (0 ≤ Int.ofNat c) && decide (Int.ofNat c < 7))) && ((!(bif Int.ofNat c != Int.ofNat b then f (0 + (0 + a * 7 + c * 1)) else false) == true || (bif Int.ofNat c != Int.ofNat b then f (0 + (0 + a * 7 + c * 1)) else false) == true && true && decide (0 + (0 + b * 7 + c * 1) < 49)) && ((!(bif Int.ofNat c != Int.ofNat b then f (0 + (0 + a * 7 + c * 1)) else false) == true || (bif Int.ofNat c != Int.ofNat b then f (0 + (0 + a * 7 + c * 1)) else false) == true && true && true) && ((bif bif Int.ofNat c != Int.ofNat b then f (0 + (0 + a * 7 + c * 1)) else false then (bif Int.ofNat c != Int.ofNat b then f (0 + (0 + a * 7 + c * 1)) else false) == true else true) && true && ((!(bif bif Int.ofNat c != Int.ofNat b then f (0 + (0 + a * 7 + c * 1)) else false then !f (0 + (0 + b * 7 + c * 1)) else false) == true || true) && ((!(bif bif Int.ofNat c != Int.ofNat b then f (0 + (0 + a * 7 + c * 1)) else false then !f (0 + (0 + b * 7 + c * 1)) else false) == true || true) && ((!(bif bif Int.ofNat c != Int.ofNat b then f (0 + (0 + a * 7 + c * 1)) else false then !f (0 + (0 + b * 7 + c * 1)) else false) == true || (bif bif Int.ofNat c != Int.ofNat b then f (0 + (0 + a * 7 + c * 1)) else false then !f (0 + (0 + b * 7 + c * 1)) else false) == true && true && true) && ((!(bif bif Int.ofNat c != Int.ofNat b then f (0 + (0 + a * 7 + c * 1)) else false then !f (0 + (0 + b * 7 + c * 1)) else false) == true || true) && ((!(bif bif Int.ofNat c != Int.ofNat b then f (0 + (0 + a * 7 + c * 1)) else false then !f (0 + (0 + b * 7 + c * 1)) else false) == true || (bif bif Int.ofNat c != Int.ofNat b then f (0 + (0 + a * 7 + c * 1)) else false then !f (0 + (0 + b * 7 + c * 1)) else false) == true && ((bif bif Int.ofNat c != Int.ofNat b then f (0 + (0 + a * 7 + c * 1)) else false then !f (0 + (0 + b * 7 + c * 1)) else false) == true && true) && true) && ((bif bif Int.ofNat c != Int.ofNat b then f (0 + (0 + a * 7 + c * 1)) else false then !f (0 + (0 + b * 7 + c * 1)) else false) == true && ((bif bif Int.ofNat c != Int.ofNat b then f (0 + (0 + a * 7 + c * 1)) else false then !f (0 + (0 + b * 7 + c * 1)) else false) == true && ((bif bif Int.ofNat c != Int.ofNat b then f (0 + (0 + a * 7 + c * 1)) else false then !f (0 + (0 + b * 7 + c * 1)) else false) == true && true) && atB [arV (Int.ofNat a) (Int.ofNat c)] [arV (Int.ofNat a) (Int.ofNat c)] (mkSt [] (HS n f s i a b) 11 []).hp.get (mkSt [] (HS n f s i a b) 11 []).hp.get 11 11 && true && true) && ((!(bif bif Int.ofNat c != Int.ofNat b then f (0 + (0 + a * 7 + c * 1)) else false then !f (0 + (0 + b * 7 + c * 1)) else false) == true || true) && ((bif bif bif Int.ofNat c != Int.ofNat b then f (0 + (0 + a * 7 + c * 1)) else false then !f (0 + (0 + b * 7 + c * 1)) else false then (bif bif Int.ofNat c != Int.ofNat b then f (0 + (0 + a * 7 + c * 1)) else false then !f (0 + (0 + b * 7 + c * 1)) else false) == true else true) && true && true)))))))))))))))))))))))))))) && true && ((!bif bif bif Int.ofNat c != Int.ofNat b then f (0 + (0 + a * 7 + c * 1)) else false then !f (0 + (0 + b * 7 + c * 1)) else false then false else false) && true)) from by kernel_rfl)]
  simp only [at7_raw, neI, dI0, dI7 ha, dI7 hb, dI7 hc, dI49 ha hc, dI49 hb hc, dI49 hc hb]
  unfold cnd1 at h
  revert h
  cases Nat.beq c b <;> cases at7 f a c <;> cases at7 f b c <;> simp
theorem q109n {n : Nat} {f : Nat → Bool} {s : Sig} {i a b c : Nat} (hs : okSig s i 1000) (ha : a < 7) (hb : b < 7) (hc : c < 7) (h : cnd2 f a b c = false) : Exec PP T none x109.nt 10 L109.b.b.a.i.b.b (mkSt (slD n c) (HS n f s i a b) 11 []) .n (mkSt (slD n c) (HS n f s i a b) 11 []) := by
  refine exec_orunG (envS (n := n) (f := f) (a := a) (b := b) (u := Int.ofNat c) (v := Int.ofNat b) hs) false 60 [false, false] id11 (fun _ => rfl) (by kernel_rfl) (by kernel_rfl) (by kernel_rfl) ?_
  rw [(show obOf (orun (gY 9 (spS n f s i a b (Int.ofNat c) (Int.ofNat b))) false 60 L109.b.b.a.i.b.b (mkSt (slD n c) (HS n f s i a b) 11 []) [false, false]) = ((!(Int.ofNat c != Int.ofNat a) == true || true) && ((!(Int.ofNat c != Int.ofNat a) == true || true) && ((!(Int.ofNat c != Int.ofNat a) == true || true) && ((!(Int.ofNat c != Int.ofNat a) == true || (Int.ofNat c != Int.ofNat a) == true && true && true) && ((!(Int.ofNat c != Int.ofNat a) == true || (Int.ofNat c != Int.ofNat a) == true && true && true) && ((!(Int.ofNat c != Int.ofNat a) == true || (Int.ofNat c != Int.ofNat a) == true && true && true) && ((!(Int.ofNat c != Int.ofNat a) == true || (Int.ofNat c != Int.ofNat a) == true && ((Int.ofNat c != Int.ofNat a) == true && true) && (decide (0 ≤ Int.ofNat c) && decide (Int.ofNat c < 7))) && ((!(Int.ofNat c != Int.ofNat a) == true || (Int.ofNat c != Int.ofNat a) == true && ((Int.ofNat c != Int.ofNat a) == true && true) && (decide (0 ≤ Int.ofNat b) && decide (Int.ofNat b < 7))) && ((!(Int.ofNat c != Int.ofNat a) == true || (Int.ofNat c != Int.ofNat a) == true && true && decide (0 + (0 + c * 7 + b * 1) < 49)) && ((bif Int.ofNat c != Int.ofNat a then (Int.ofNat c != Int.ofNat a) == true else true) && true && ((!(bif Int.ofNat c != Int.ofNat a then f (0 + (0 + c * 7 + b * 1)) else false) == true || true) && ((!(bif Int.ofNat c != Int.ofNat a then f (0 + (0 + c * 7 + b * 1)) else false) == true || true) && ((!(bif Int.ofNat c != Int.ofNat a then f (0 + (0 + c * 7 + b * 1)) else false) == true || (bif Int.ofNat c != Int.ofNat a then f (0 + (0 + c * 7 + b * 1)) else false) == true && true && true) && ((!(bif Int.ofNat c != Int.ofNat a then f (0 + (0 + c * 7 + b * 1)) else false) == true || true) && ((!(bif Int.ofNat c != Int.ofNat a then f (0 + (0 + c * 7 + b * 1)) else false) == true || (bif Int.ofNat c != Int.ofNat a then f (0 + (0 + c * 7 + b * 1)) else false) == true && true && true) && ((!(bif Int.ofNat c != Int.ofNat a then f (0 + (0 + c * 7 + b * 1)) else false) == true || (bif Int.ofNat c != Int.ofNat a then f (0 + (0 + c * 7 + b * 1)) else false) == true && true && true) && ((!(bif Int.ofNat c != Int.ofNat a then f (0 + (0 + c * 7 + b * 1)) else false) == true || (bif Int.ofNat c != Int.ofNat a then f (0 + (0 + c * 7 + b * 1)) else false) == true && ((bif Int.ofNat c != Int.ofNat a then f (0 + (0 + c * 7 + b * 1)) else false) == true && true) && (decide (0 ≤ Int.ofNat a) && decide (Int.ofNat a < 7))) && ((!(bif Int.ofNat c != Int.ofNat a then f (0 + (0 + c * 7 + b * 1)) else false) == true || (bif Int.ofNat c != Int.ofNat a then f (0 + (0 + c * 7 + b * 1)) else false) == true && ((bif Int.ofNat c != Int.ofNat a then f (0 + (0 + c * 7 + b * 1)) else false) == true && true) && (decide (0 ≤ Int.ofNat c) && decide (Int.ofNat c < 7))) && ((!(bif Int.ofNat c != Int.ofNat a then f (0 + (0 + c * 7 + b * 1)) else false) == true || (bif Int.ofNat c != Int.ofNat a then f (0 + (0 + c * 7 + b * 1)) else false) == true && true && decide (0 + (0 + a * 7 + c * 1) < 49)) && ((!(bif Int.ofNat c != Int.ofNat a then f (0 + (0 + c * 7 + b * 1)) else false) == true || (bif Int.ofNat c != Int.ofNat a then f (0 + (0 + c * 7 + b * 1)) else false) == true && true && true) && ((bif bif Int.ofNat c != Int.ofNat a then f (0 + (0 + c * 7 + b * 1)) else false then (bif Int.ofNat c != Int.ofNat a then f (0 + (0 + c * 7 + b * 1)) else false) == true else true) && true && ((!(bif bif Int.ofNat c != Int.ofNat a then f (0 + (0 + c * 7 + b * 1)) else false then !f (0 + (0 + a * 7 + c * 1)) else false) == true || true) && ((!(bif bif Int.ofNat c != Int.ofNat a then f (0 + (0 + c * 7 + b * 1)) else false then !f (0 + (0 + a * 7 + c * 1)) else false) == true || true) && ((!(bif bif Int.ofNat c != Int.ofNat a then f (0 + (0 + c * 7 + b * 1)) else false then !f (0 + (0 + a * 7 + c * 1)) else false) == true || true) && ((!(bif bif Int.ofNat c != Int.ofNat a then f (0 + (0 + c * 7 + b * 1)) else false then !f (0 + (0 + a * 7 + c * 1)) else false) == true || (bif bif Int.ofNat c != Int.ofNat a then f (0 + (0 + c * 7 + b * 1)) else false then !f (0 + (0 + a * 7 + c * 1)) else false) == true && true && true) && ((!(bif bif Int.ofNat c != Int.ofNat a then f (0 + (0 + c * 7 + b * 1)) else false then !f (0 + (0 + a * 7 + c * 1)) else false) == true || (bif bif Int.ofNat c != Int.ofNat a then f (0 + (0 + c * 7 + b * 1)) else false then !f (0 + (0 + a * 7 + c * 1)) else false) == true && ((bif bif Int.ofNat c != Int.ofNat a then f (0 + (0 + c * 7 + b * 1)) else false then !f (0 + (0 + a * 7 + c * 1)) else false) == true && true) && true) && (!(bif bif Int.ofNat c != Int.ofNat a then f (0 + (0 + c * 7 + b * 1)) else false then !f (0 + (0 + a * 7 + c * 1)) else false) == true && ((!(bif bif Int.ofNat c != Int.ofNat a then f (0 + (0 + c * 7 + b * 1)) else false then !f (0 + (0 + a * 7 + c * 1)) else false) == true || false) && ((bif bif bif Int.ofNat c != Int.ofNat a then f (0 + (0 + c * 7 + b * 1)) else false then !f (0 + (0 + a * 7 + c * 1)) else false then (bif bif Int.ofNat c != Int.ofNat a then f (0 + (0 + c * 7 + b * 1)) else false then !f (0 + (0 + a * 7 + c * 1)) else false) == true else true) && true && true)))))))))))))))))))))))))))) && true && ((!bif bif bif Int.ofNat c != Int.ofNat a then f (0 + (0 + c * 7 + b * 1)) else false then !f (0 + (0 + a * 7 + c * 1)) else false then false else false) && true)) from by kernel_rfl)]
  simp only [at7_raw, neI, dI0, dI7 ha, dI7 hb, dI7 hc, dI49 ha hc, dI49 hb hc, dI49 hc hb]
  unfold cnd2 at h
  revert h
  cases Nat.beq c a <;> cases at7 f c b <;> cases at7 f a c <;> simp
theorem q109t {n : Nat} {f : Nat → Bool} {s : Sig} {i a b c : Nat} (hs : okSig s i 1000) (ha : a < 7) (hb : b < 7) (hc : c < 7) (h : cnd2 f a b c = true) : Exec PP T none x109.nt 10 L109.b.b.a.i.b.b (mkSt (slD n c) (HS n f s i a b) 11 []) .n (mkSt (slD n c) (HS n f (push1 i s (Int.ofNat c) (Int.ofNat b)) i a b) 11 []) := by
  refine exec_orunG (envS (n := n) (f := f) (a := a) (b := b) (u := Int.ofNat c) (v := Int.ofNat b) hs) false 60 [true, false] id11' (fun _ => rfl) (by kernel_rfl) (by kernel_rfl) (by kernel_rfl) ?_
  rw [(show obOf (orun (gY 9 (spS n f s i a b (Int.ofNat c) (Int.ofNat b))) false 60 L109.b.b.a.i.b.b (mkSt (slD n c) (HS n f s i a b) 11 []) [true, false]) = ((!(Int.ofNat c != Int.ofNat a) == true || true) && ((!(Int.ofNat c != Int.ofNat a) == true || true) && ((!(Int.ofNat c != Int.ofNat a) == true || true) && ((!(Int.ofNat c != Int.ofNat a) == true || (Int.ofNat c != Int.ofNat a) == true && true && true) && ((!(Int.ofNat c != Int.ofNat a) == true || (Int.ofNat c != Int.ofNat a) == true && true && true) && ((!(Int.ofNat c != Int.ofNat a) == true || (Int.ofNat c != Int.ofNat a) == true && true && true) && ((!(Int.ofNat c != Int.ofNat a) == true || (Int.ofNat c != Int.ofNat a) == true && ((Int.ofNat c != Int.ofNat a) == true && true) && (decide (0 ≤ Int.ofNat c) && decide (Int.ofNat c < 7))) && ((!(Int.ofNat c != Int.ofNat a) == true || (Int.ofNat c != Int.ofNat a) == true && ((Int.ofNat c != Int.ofNat a) == true && true) && (decide (0 ≤ Int.ofNat b) && decide (Int.ofNat b < 7))) && ((!(Int.ofNat c != Int.ofNat a) == true || (Int.ofNat c != Int.ofNat a) == true && true && decide (0 + (0 + c * 7 + b * 1) < 49)) && ((bif Int.ofNat c != Int.ofNat a then (Int.ofNat c != Int.ofNat a) == true else true) && true && ((!(bif Int.ofNat c != Int.ofNat a then f (0 + (0 + c * 7 + b * 1)) else false) == true || true) && ((!(bif Int.ofNat c != Int.ofNat a then f (0 + (0 + c * 7 + b * 1)) else false) == true || true) && ((!(bif Int.ofNat c != Int.ofNat a then f (0 + (0 + c * 7 + b * 1)) else false) == true || (bif Int.ofNat c != Int.ofNat a then f (0 + (0 + c * 7 + b * 1)) else false) == true && true && true) && ((!(bif Int.ofNat c != Int.ofNat a then f (0 + (0 + c * 7 + b * 1)) else false) == true || true) && ((!(bif Int.ofNat c != Int.ofNat a then f (0 + (0 + c * 7 + b * 1)) else false) == true || (bif Int.ofNat c != Int.ofNat a then f (0 + (0 + c * 7 + b * 1)) else false) == true && true && true) && ((!(bif Int.ofNat c != Int.ofNat a then f (0 + (0 + c * 7 + b * 1)) else false) == true || (bif Int.ofNat c != Int.ofNat a then f (0 + (0 + c * 7 + b * 1)) else false) == true && true && true) && ((!(bif Int.ofNat c != Int.ofNat a then f (0 + (0 + c * 7 + b * 1)) else false) == true || (bif Int.ofNat c != Int.ofNat a then f (0 + (0 + c * 7 + b * 1)) else false) == true && ((bif Int.ofNat c != Int.ofNat a then f (0 + (0 + c * 7 + b * 1)) else false) == true && true) && (decide (0 ≤ Int.ofNat a) && decide (Int.ofNat a < 7))) && ((!(bif Int.ofNat c != Int.ofNat a then f (0 + (0 + c * 7 + b * 1)) else false) == true || (bif Int.ofNat c != Int.ofNat a then f (0 + (0 + c * 7 + b * 1)) else false) == true && ((bif Int.ofNat c != Int.ofNat a then f (0 + (0 + c * 7 + b * 1)) else false) == true && true) && (decide (0 ≤ Int.ofNat c) && decide (Int.ofNat c < 7))) && ((!(bif Int.ofNat c != Int.ofNat a then f (0 + (0 + c * 7 + b * 1)) else false) == true || (bif Int.ofNat c != Int.ofNat a then f (0 + (0 + c * 7 + b * 1)) else false) == true && true && decide (0 + (0 + a * 7 + c * 1) < 49)) && ((!(bif Int.ofNat c != Int.ofNat a then f (0 + (0 + c * 7 + b * 1)) else false) == true || (bif Int.ofNat c != Int.ofNat a then f (0 + (0 + c * 7 + b * 1)) else false) == true && true && true) && ((bif bif Int.ofNat c != Int.ofNat a then f (0 + (0 + c * 7 + b * 1)) else false then (bif Int.ofNat c != Int.ofNat a then f (0 + (0 + c * 7 + b * 1)) else false) == true else true) && true && ((!(bif bif Int.ofNat c != Int.ofNat a then f (0 + (0 + c * 7 + b * 1)) else false then !f (0 + (0 + a * 7 + c * 1)) else false) == true || true) && ((!(bif bif Int.ofNat c != Int.ofNat a then f (0 + (0 + c * 7 + b * 1)) else false then !f (0 + (0 + a * 7 + c * 1)) else false) == true || true) && ((!(bif bif Int.ofNat c != Int.ofNat a then f (0 + (0 + c * 7 + b * 1)) else false then !f (0 + (0 + a * 7 + c * 1)) else false) == true || true) && ((!(bif bif Int.ofNat c != Int.ofNat a then f (0 + (0 + c * 7 + b * 1)) else false then !f (0 + (0 + a * 7 + c * 1)) else false) == true || (bif bif Int.ofNat c != Int.ofNat a then f (0 + (0 + c * 7 + b * 1)) else false then !f (0 + (0 + a * 7 + c * 1)) else false) == true && true && true) && ((!(bif bif Int.ofNat c != Int.ofNat a then f (0 + (0 + c * 7 + b * 1)) else false then !f (0 + (0 + a * 7 + c * 1)) else false) == true || (bif bif Int.ofNat c != Int.ofNat a then f (0 + (0 + c * 7 + b * 1)) else false then !f (0 + (0 + a * 7 + c * 1)) else false) == true && ((bif bif Int.ofNat c != Int.ofNat a then f (0 + (0 + c * 7 + b * 1)) else false then !f (0 + (0 + a * 7 + c * 1)) else false) == true && true) && true) && ((bif bif Int.ofNat c != Int.ofNat a then f (0 + (0 + c * 7 + b * 1)) else false then !f (0 + (0 + a * 7 + c * 1)) else false) == true && ((bif bif Int.ofNat c != Int.ofNat a then f (0 + (0 + c * 7 + b * 1)) else false then !f (0 + (0 + a * 7 + c * 1)) else false) == true && ((bif bif Int.ofNat c != Int.ofNat a then f (0 + (0 + c * 7 + b * 1)) else false then !f (0 + (0 + a * 7 + c * 1)) else false) == true && true) && atB [arV (Int.ofNat c) (Int.ofNat b)] [arV (Int.ofNat c) (Int.ofNat b)] (mkSt [] (HS n f s i a b) 11 []).hp.get (mkSt [] (HS n f s i a b) 11 []).hp.get 11 11 && true && true) && ((!(bif bif Int.ofNat c != Int.ofNat a then f (0 + (0 + c * 7 + b * 1)) else false then !f (0 + (0 + a * 7 + c * 1)) else false) == true || true) && ((bif bif bif Int.ofNat c != Int.ofNat a then f (0 + (0 + c * 7 + b * 1)) else false then !f (0 + (0 + a * 7 + c * 1)) else false then (bif bif Int.ofNat c != Int.ofNat a then f (0 + (0 + c * 7 + b * 1)) else false then !f (0 + (0 + a * 7 + c * 1)) else false) == true else true) && true && true)))))))))))))))))))))))))))) && true && ((!bif bif bif Int.ofNat c != Int.ofNat a then f (0 + (0 + c * 7 + b * 1)) else false then !f (0 + (0 + a * 7 + c * 1)) else false then false else false) && true)) from by kernel_rfl)]
  simp only [at7_raw, neI, dI0, dI7 ha, dI7 hb, dI7 hc, dI49 ha hc, dI49 hb hc, dI49 hc hb]
  unfold cnd2 at h
  revert h
  cases Nat.beq c a <;> cases at7 f c b <;> cases at7 f a c <;> simp
/-- what forced yields, told on what is in hand -/
def stepC (f : Nat → Bool) (i a b c : Nat) (s : Sig) : Sig :=
  let s1 := bif cnd1 f a b c then push1 i s (Int.ofNat a) (Int.ofNat c) else s
  bif cnd2 f a b c then push1 i s1 (Int.ofNat c) (Int.ofNat b) else s1
def forcedS (f : Nat → Bool) (i a b : Nat) (s : Sig) : Nat → Sig
  | 0 => push1 i s (Int.ofNat a) (Int.ofNat b)
  | c + 1 => stepC f i a b c (forcedS f i a b s c)
theorem okSig.step {f : Nat → Bool} {i a b c : Nat} {s : Sig} {top : Nat} (h : okSig s i top) : okSig (stepC f i a b c s) i (top + 2) := by
  unfold stepC
  cases cnd1 f a b c <;> cases cnd2 f a b c
  · exact h.le (by omega)
  · exact (h.push _ _).le (by omega)
  · exact (h.push _ _).le (by omega)
  · exact (h.push _ _).push _ _
theorem okSig.forced {f : Nat → Bool} {i a b : Nat} {s : Sig} {top : Nat} (h : okSig s i top) : ∀ c, okSig (forcedS f i a b s c) i (top + 1 + 2 * c)
  | 0 => h.push _ _
  | c + 1 => by
    have := (okSig.forced h c (f := f) (a := a) (b := b)).step (f := f) (a := a) (b := b) (c := c)
    exact this.le (by omega)
theorem l109 {n : Nat} {f : Nat → Bool} {s : Sig} {i a b c : Nat} (hs : okSig s i 990) (ha : a < 7) (hb : b < 7) (hc : c < n) (hn : n ≤ 7) : Exec PP T none x109.nt 10 L109 (mkSt (slC n c) (HS n f s i a b) 11 []) .n (mkSt (slC n (c + 1)) (HS n f (stepC f i a b c s) i a b) 11 []) := by
  refine exec_seq (x := L109.a) (y := L109.b) l109a (exec_seq (x := L109.b.a) (y := L109.b.b) (l109b hc) (exec_seq (x := L109.b.b.a) (y := L109.b.b.b) (exec_block (id := 1) (x := L109.b.b.a.i) (e := .n) (exec_seq (x := L109.b.b.a.i.a) (y := L109.b.b.a.i.b) l109c ?_)) (l109e (by omega))))
  unfold stepC
  have hc7 : c < 7 := by omega
  have hs' := hs.le (show 990 ≤ 1000 by omega)
  have hs2 : okSig (push1 i s (Int.ofNat a) (Int.ofNat c)) i 1000 := (hs.push _ _).le (by omega)
  cases h1 : cnd1 f a b c with
  | false =>
    simp only [cond_false]
    refine exec_seq (x := L109.b.b.a.i.b.a) (y := L109.b.b.a.i.b.b) (p109n hs' ha hb hc7 h1) ?_
    cases h2 : cnd2 f a b c with
    | false => exact q109n hs' ha hb hc7 h2
    | true => exact q109t hs' ha hb hc7 h2
  | true =>
    simp only [cond_true]
    refine exec_seq (x := L109.b.b.a.i.b.a) (y := L109.b.b.a.i.b.b) (p109t hs' ha hb hc7 h1) ?_
    cases h2 : cnd2 f a b c with
    | false => exact q109n hs2 ha hb hc7 h2
    | true => exact q109t hs2 ha hb hc7 h2
theorem body109 {n : Nat} {f : Nat → Bool} {s : Sig} {i a b : Nat} (hs : okSig s i 900) (ha : a < 7) (hb : b < 7) (hn : n ≤ 7) : Exec PP T none x109.nt 10 x109.body (mkSt slB (HS n f s i a b) 11 []) .n (mkSt (slC n n) (HS n f (forcedS f i a b s n) i a b) 11 []) := by
  refine exec_seq (x := x109.body.a) (y := x109.body.b) (y109 (hs.le (by omega))) (exec_seq (x := x109.body.b.a) (y := .block 0 (.loop L109)) z109 (exec_block (e := .x 0) ?_))
  refine exec_loop_up (fun c => mkSt (slC n c) (HS n f (forcedS f i a b s c) i a b) 11 []) n (fun c hc => ?_) (exec_seq (x := L109.a) (y := L109.b) l109a (exec_seq_x (x := L109.b.a) (y := L109.b.b) l109x (by simp))) (by simp) 0 (by omega)
  exact l109 ((hs.forced c).le (by omega)) ha hb hc hn
end Go.Proofs.Yteekkjfjpoaihaa.Eng

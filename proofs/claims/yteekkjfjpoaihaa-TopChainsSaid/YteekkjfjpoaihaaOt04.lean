/- A part of the proof of topChains_holds. -/
import Derived.Test.YteekkjfjpoaihaaOt03
set_option linter.all false
namespace Go.Proofs.Yteekkjfjpoaihaa.Eng
open Go
noncomputable def rfRun (Γ : Cal → Option Spec) (f : XO) (ps : List Nat) (asg body : XC) (S : St) : Option (XE × St) :=
  match evalX S.sl.get f with
  | ⟨true, .av (.s (.fn fid caps))⟩ =>
    match (S.hp.get S.nx).isNone, (S.hp.get (S.nx + 1)).isNone with
    | true, true => match Γ (.f fid) with
      | some sp => match sp.run (.s (.yield (S.nx + 1)) :: capArgs caps) (rfH S ps asg body).get (S.nx + 2) with
        | some e => match e.vc, updOk (rfH S ps asg body).get e.upd, newsOk (rfH S ps asg body).get (S.nx + 2) e.news with
          | true, true, true => match (((rfH S ps asg body).setAll e.upd).setNews (S.nx + 2) e.news).get (S.nx + 1) with
            | some ⟨false, .loop _ _ _ _ st⟩ => match pjExit st with
              | some ex => some (ex, rfS S ps asg body e)
              | none => none
            | _ => none
          | _, _, _ => none
        | none => none
      | none => none
    | _, _ => none
  | _ => none
noncomputable def crunStep (Γ : Cal → Option Spec) (inr : Bool) (rec : XC → St → Option (XE × St)) (c : XC) (S : St) : Option (XE × St) :=
  match c with
    | .skip => some (.n, S)
    | .label _ => some (.n, S)
    | .ret => some (.r, S)
    | .exit id => some (.x id, S)
    | .reg ops tot => match xops Γ S.nx ops S with
      | some (true, S', _) => some (.n, { S' with nx := S'.nx + tot })
      | _ => none
    | .regD ops tot chk => match xops Γ S.nx ops S with
      | some (true, S', E) => match chk.all (okAt E) with
        | true => some (.n, { S' with nx := S'.nx + tot })
        | false => none
      | _ => none
    | .seq a b => match rec a S with
      | some (.n, S1) => rec b S1
      | some (e, S1) => some (e, S1)
      | none => none
    | .cond c a b => match evalX S.sl.get c with
      | ⟨true, .av (.s (.bool t))⟩ => match t with
        | true => rec a S
        | false => rec b S
      | _ => none
    | .block id b => match rec b S with
      | some (e, S1) => some (e.unblock id, S1)
      | none => none
    | .loop b => match rec b S with
      | some (.n, S1) => rec (.loop b) S1
      | some (e, S1) => some (e, S1)
      | none => none
    | .scope b => rec b S
    | .rf f ps asg body => match inr with
      | true => none
      | false => rfRun Γ f ps asg body S
noncomputable def crun (Γ : Cal → Option Spec) (inr : Bool) (k : Nat) : XC → St → Option (XE × St) := Nat.rec (fun _ _ => none) (fun _ ih c S => crunStep Γ inr ih c S) k
theorem crun_zero (Γ : Cal → Option Spec) (inr : Bool) (c : XC) (S : St) : crun Γ inr 0 c S = none := rfl
theorem crun_succ (Γ : Cal → Option Spec) (inr : Bool) (k : Nat) (c : XC) (S : St) : crun Γ inr (k + 1) c S = crunStep Γ inr (crun Γ inr k) c S := rfl
section
variable {P : Program} {T : Tab} {r : Option Nat} {Γ : Cal → Option Spec} {nt kp : Nat}
theorem rfRun_snd (hE : EnvOK P T Γ) {f : XO} {ps : List Nat} {asg body : XC} {S S' : St} {e : XE} (h : rfRun Γ f ps asg body S = some (e, S')) : Exec P T none nt kp (.rf f ps asg body) S e S' := by
  unfold rfRun at h
  split at h
  case h_2 => cases h
  rename_i fid caps hf
  split at h
  case h_2 => cases h
  rename_i hn1 hn2
  split at h
  case h_2 => cases h
  rename_i sp hsp
  split at h
  case h_2 => cases h
  rename_i ef hrun
  split at h
  case h_2 => cases h
  rename_i h1 h2 h3
  split at h
  case h_2 => cases h
  rename_i hl
  split at h
  case h_2 => cases h
  rename_i ex hex
  cases h
  exact exec_rf hE hf hn1 hn2 hsp hrun h1 h2 h3 hl hex
theorem crun_snd (hE : EnvOK P T Γ) {inr : Bool} (hr : inr = false → r = none) : ∀ (k : Nat) (c : XC) (S S' : St) (e : XE), crun Γ inr k c S = some (e, S') →
    Exec P T r nt kp c S e S' ∧ ∀ b, c = .loop b → ∃ j, LoopX (Exec P T r nt kp b) j S e S' := by
  intro k
  induction k with
  | zero => intro c S S' e h; simp [crun_zero] at h
  | succ k ih =>
    intro c S S' e h
    cases c with
    | skip => simp only [crun_succ, crunStep] at h; cases h; exact ⟨exec_skip, fun b hb => (by cases hb)⟩
    | label l => simp only [crun_succ, crunStep] at h; cases h; exact ⟨exec_label, fun b hb => (by cases hb)⟩
    | ret => simp only [crun_succ, crunStep] at h; cases h; exact ⟨exec_ret, fun b hb => (by cases hb)⟩
    | exit id => simp only [crun_succ, crunStep] at h; cases h; exact ⟨exec_exit, fun b hb => (by cases hb)⟩
    | reg ops tot =>
      simp only [crun_succ, crunStep] at h
      split at h
      case h_2 => cases h
      rename_i S1 E hx
      cases h
      exact ⟨exec_reg hE hx, fun b hb => (by cases hb)⟩
    | regD ops tot chk =>
      simp only [crun_succ, crunStep] at h
      split at h
      case h_2 => cases h
      rename_i S1 E hx
      split at h
      case h_2 => cases h
      rename_i hk
      cases h
      exact ⟨exec_regD hE hx hk, fun b hb => (by cases hb)⟩
    | seq a b =>
      simp only [crun_succ, crunStep] at h
      refine ⟨?_, fun b hb => (by cases hb)⟩
      split at h
      · rename_i S1 h1
        exact exec_seq (ih _ _ _ _ h1).1 (ih _ _ _ _ h).1
      · rename_i e1 S1 hne h1
        cases h
        refine exec_seq_x (ih _ _ _ _ h1).1 ?_
        rintro rfl
        exact hne rfl
      · cases h
    | cond c a b =>
      simp only [crun_succ, crunStep] at h
      refine ⟨?_, fun b hb => (by cases hb)⟩
      split at h
      case h_2 => cases h
      rename_i t ht
      cases t with
      | true => exact exec_cond ht (ih _ _ _ _ h).1
      | false => exact exec_cond ht (ih _ _ _ _ h).1
    | block id b =>
      simp only [crun_succ, crunStep] at h
      refine ⟨?_, fun b hb => (by cases hb)⟩
      split at h
      case h_2 => cases h
      rename_i e1 S1 h1
      cases h
      exact exec_block (ih _ _ _ _ h1).1
    | loop b =>
      simp only [crun_succ, crunStep] at h
      have key : ∃ j, LoopX (Exec P T r nt kp b) j S e S' := by
        split at h
        · rename_i S1 h1
          obtain ⟨j, hj⟩ := (ih _ _ _ _ h).2 b rfl
          exact ⟨j + 1, .step (ih _ _ _ _ h1).1 hj⟩
        · rename_i e1 S1 hne h1
          cases h
          refine ⟨0, .done (ih _ _ _ _ h1).1 ?_⟩
          rintro rfl
          exact hne rfl
        · cases h
      refine ⟨?_, fun b' hb => by cases hb; exact key⟩
      obtain ⟨j, hj⟩ := key
      exact exec_loop hj
    | scope b =>
      simp only [crun_succ, crunStep] at h
      exact ⟨exec_scope (ih _ _ _ _ h).1, fun b hb => (by cases hb)⟩
    | rf f ps asg body =>
      simp only [crun_succ, crunStep] at h
      cases inr with
      | true => cases h
      | false =>
        cases hr rfl
        exact ⟨rfRun_snd hE h, fun b hb => (by cases hb)⟩
end
def SV.ids : SV → List Nat
  | .ptr id _ _ => [id]
  | .sl id _ _ _ => [id]
  | .vw id _ _ _ => [id]
  | .mp id => [id]
  | .fn _ caps => caps
  | .yield id => [id]
  | _ => []
def SV.ren (ρ : Nat → Nat) : SV → SV
  | .ptr id b o => .ptr (ρ id) b o
  | .sl id o s l => .sl (ρ id) o s l
  | .vw id o s l => .vw (ρ id) o s l
  | .mp id => .mp (ρ id)
  | .fn f caps => .fn f (caps.map ρ)
  | .yield id => .yield (ρ id)
  | x => x
def AV.ids : AV → List Nat
  | .s x => x.ids
  | .pb pre _ _ => pre.flatMap SV.ids
def AV.ren (ρ : Nat → Nat) : AV → AV
  | .s x => .s (x.ren ρ)
  | .pb pre n f => .pb (pre.map (SV.ren ρ)) n f
def TV.ids : TV → List Nat
  | .av x => x.ids
  | .tup l => l.flatMap AV.ids
def TV.ren (ρ : Nat → Nat) : TV → TV
  | .av x => .av (x.ren ρ)
  | .tup l => .tup (l.map (AV.ren ρ))
def Tr.vals {α : Type} : Tr α → List α
  | .nil => []
  | .node v l r => v.toList ++ (l.vals ++ r.vals)
def Sto.vals {α : Type} : Sto α → List α
  | .al l => l.map (·.2)
  | .tr t => t.vals
def AO.ids : AO → List Nat
  | .row _ pre _ _ => pre.flatMap SV.ids
  | .loop sl _ _ _ _ => sl.vals.flatMap fun s => s.v.ids
  | _ => []
def AO.ren (ρ : Nat → Nat) : AO → AO
  | .row ty pre n f => .row ty (pre.map (SV.ren ρ)) n f
  | o => o
def AO.isLoop : AO → Bool
  | .loop .. => true
  | _ => false
def HO.ren (ρ : Nat → Nat) (h : HO) : HO := ⟨h.ro, h.o.ren ρ⟩
theorem Tr.vals_get {α : Type} : ∀ {t : Tr α} {i : Nat} {x : α}, t.get i = some x → x ∈ t.vals
  | .nil, i, x, h => by simp [Tr.get_nil] at h
  | .node v l r, i, x, h => by
    simp only [Tr.get_node] at h
    simp only [Tr.vals, List.mem_append, Option.mem_toList]
    cases h0 : Nat.beq i 0 with
    | true => rw [h0, cond_true] at h; exact .inl h
    | false =>
      rw [h0, cond_false] at h
      cases h1 : Nat.beq (i % 2) 1 with
      | true => rw [h1, cond_true] at h; exact .inr (.inl (Tr.vals_get h))
      | false => rw [h1, cond_false] at h; exact .inr (.inr (Tr.vals_get h))
theorem alGet_mem {α : Type} : ∀ {l : List (Nat × α)} {i : Nat} {x : α}, alGet l i = some x → (i, x) ∈ l
  | [], _, _, h => by simp [alGet_nil] at h
  | (j, y) :: l, i, x, h => by
    simp only [alGet_cons] at h
    cases hb : Nat.beq j i with
    | true => rw [hb, cond_true] at h; cases h; rw [Nat.eq_of_beq_eq_true hb]; simp
    | false => rw [hb, cond_false] at h; exact List.mem_cons_of_mem _ (alGet_mem h)
theorem Sto.vals_get {α : Type} {s : Sto α} {i : Nat} {x : α} (h : s.get i = some x) : x ∈ s.vals := by
  cases s with
  | al l => exact List.mem_map.2 ⟨(i, x), alGet_mem h, rfl⟩
  | tr t => exact Tr.vals_get h
theorem SR.ren {m m' : MM} {ρ : Nat → Nat} {x : SV} {v : Value} (h : SR m x v) (hm : ∀ j ∈ x.ids, m' (ρ j) = m j) : SR m' (x.ren ρ) v := by
  cases x <;> simp only [SR, SV.ren, SV.ids, List.mem_singleton, forall_eq] at h hm ⊢ <;> try exact h
  · rw [hm]; exact h
  · rw [hm]; exact h
  · rw [hm]; exact h
  · rw [hm]; exact h
  · obtain ⟨vs, h1, h2⟩ := h
    refine ⟨vs, h1, ?_⟩
    clear h1
    rename_i f caps
    induction caps generalizing vs with
    | nil => cases vs with
      | nil => trivial
      | cons _ _ => exact h2.elim
    | cons c caps ih => cases vs with
      | nil => exact h2.elim
      | cons u us =>
        obtain ⟨⟨mb, b, e1, e2⟩, h4⟩ := h2
        exact ⟨⟨mb, b, by rw [hm c (by simp)]; exact e1, e2⟩, ih (fun j hj => hm j (by simp [hj])) us h4⟩
  · rw [hm]; exact h
theorem All2.ren {m m' : MM} {ρ : Nat → Nat} : ∀ {l : List SV} {vs : List Value}, All2 (SR m) l vs → (∀ j ∈ l.flatMap SV.ids, m' (ρ j) = m j) → All2 (SR m') (l.map (SV.ren ρ)) vs
  | [], [], _, _ => trivial
  | [], _ :: _, h, _ => h.elim
  | _ :: _, [], h, _ => h.elim
  | x :: l, v :: vs, ⟨h1, h2⟩, hm => ⟨h1.ren fun j hj => hm j (by simp [hj]), h2.ren fun j hj => hm j (by
      rw [List.flatMap_cons, List.mem_append]; exact .inr hj)⟩
theorem PR.ren {m m' : MM} {ρ : Nat → Nat} {pre : List SV} {n : Nat} {f : Nat → Bool} {cs : List Value} (h : PR m pre n f cs) (hm : ∀ j ∈ pre.flatMap SV.ids, m' (ρ j) = m j) : PR m' (pre.map (SV.ren ρ)) n f cs := by
  obtain ⟨vs, a, b, c⟩ := h
  exact ⟨vs, a.ren hm, b, c⟩
theorem AR.ren {m m' : MM} {ρ : Nat → Nat} {x : AV} {v : Value} (h : AR m x v) (hm : ∀ j ∈ x.ids, m' (ρ j) = m j) : AR m' (x.ren ρ) v := by
  cases x with
  | s x => exact SR.ren h hm
  | pb pre n f => obtain ⟨cs, e, hp⟩ := h; exact ⟨cs, e, hp.ren hm⟩
theorem TR.ren {m m' : MM} {ρ : Nat → Nat} {x : TV} {v : Value} (h : TR m x v) (hm : ∀ j ∈ x.ids, m' (ρ j) = m j) : TR m' (x.ren ρ) v := by
  cases x with
  | av x => exact AR.ren h hm
  | tup l =>
    obtain ⟨vs, e, hv⟩ := h
    refine ⟨vs, e, ?_⟩
    clear e
    induction l generalizing vs with
    | nil => cases vs with
      | nil => trivial
      | cons _ _ => exact hv.elim
    | cons x l ih => cases vs with
      | nil => exact hv.elim
      | cons u us =>
        simp only [TV.ids, List.flatMap_cons, List.mem_append] at hm ih
        exact ⟨AR.ren hv.1 fun j hj => hm j (.inl hj), ih (fun j hj => hm j (.inr hj)) us hv.2⟩
theorem map_fix {α : Type} {f : α → α} : ∀ {l : List α}, (∀ x ∈ l, f x = x) → l.map f = l
  | [], _ => rfl
  | x :: l, h => by rw [List.map_cons, h x (by simp), map_fix fun y hy => h y (by simp [hy])]
theorem SV.ren_id {ρ : Nat → Nat} {x : SV} (h : ∀ j ∈ x.ids, ρ j = j) : x.ren ρ = x := by
  cases x <;> simp only [SV.ren, SV.ids, List.mem_singleton, forall_eq] at h ⊢ <;> try rw [h]
  rw [map_fix h]
theorem AV.ren_id {ρ : Nat → Nat} {x : AV} (h : ∀ j ∈ x.ids, ρ j = j) : x.ren ρ = x := by
  cases x with
  | s x => simp only [AV.ren]; rw [SV.ren_id h]
  | pb pre n f =>
    simp only [AV.ren]
    rw [map_fix fun x hx => SV.ren_id fun j hj => h j (List.mem_flatMap.2 ⟨x, hx, hj⟩)]
theorem TV.ren_id {ρ : Nat → Nat} {x : TV} (h : ∀ j ∈ x.ids, ρ j = j) : x.ren ρ = x := by
  cases x with
  | av x => simp only [TV.ren]; rw [AV.ren_id h]
  | tup l =>
    simp only [TV.ren]
    rw [map_fix fun x hx => AV.ren_id fun j hj => h j (List.mem_flatMap.2 ⟨x, hx, hj⟩)]
theorem SlotR.sub {m m' : MM} {s : Slot} {v : Value} (h : SlotR m s v) (hm : ∀ j ∈ s.v.ids, m' j = m j) : SlotR m' s v := by
  refine ⟨fun c => ?_, h.2⟩
  have := (h.1 c).ren (ρ := fun j => j) hm
  rwa [TV.ren_id fun _ _ => rfl] at this
theorem OR.ren {cmp : Cmp} {m m' : MM} {ρ : Nat → Nat} {mb : MB} {o : AO} {w : World} (h : OR cmp m mb o w) (hm : ∀ j ∈ o.ids, m' (ρ j) = m j) (hl : o.isLoop = true → ∀ j ∈ o.ids, ρ j = j) : OR cmp m' mb (o.ren ρ) w := by
  cases o <;> simp only [OR, AO.ren] at h ⊢ <;> try exact h
  · obtain ⟨b, cs, h1, h2, h3, h4⟩ := h
    exact ⟨b, cs, h1, h2, h3, h4.ren hm⟩
  · rename_i sl ps asg body st
    obtain ⟨b, lo, h1, h2, h3, h4⟩ := h
    refine ⟨b, lo, h1, h2, fun t s hs => (h3 t s hs).sub fun j hj => ?_, h4⟩
    have hj' : j ∈ AO.ids (.loop sl ps asg body st) := List.mem_flatMap.2 ⟨s, Sto.vals_get hs, hj⟩
    have := hm j hj'
    rwa [hl rfl j hj'] at this
theorem OR.sub {cmp : Cmp} {m m' : MM} {mb : MB} {o : AO} {w : World} (h : OR cmp m mb o w) (hm : ∀ j ∈ o.ids, m' j = m j) : OR cmp m' mb o w := by
  have := h.ren (ρ := fun j => j) hm fun _ _ _ => rfl
  have e : o.ren (fun j => j) = o := by
    cases o <;> simp only [AO.ren]
    rw [map_fix fun x hx => SV.ren_id fun _ _ => rfl]
  rwa [e] at this
end Go.Proofs.Yteekkjfjpoaihaa.Eng
namespace Go.Proofs.Yteekkjfjpoaihaa.Eng
open Go
/-- what can be reached -/
def reachL (h : Nat → Option HO) : Nat → List Nat → List Nat → Option (List Nat)
  | _, [], seen => some seen
  | 0, _ :: _, _ => none
  | k + 1, id :: todo, seen => match seen.any (Nat.beq id) with
    | true => reachL h k todo seen
    | false => match h id with
      | some ho => reachL h k (ho.o.ids ++ todo) (id :: seen)
      | none => none
theorem any_beq {l : List Nat} {id : Nat} : l.any (Nat.beq id) = true ↔ id ∈ l := by
  rw [List.any_eq_true]
  constructor
  · rintro ⟨x, hx, h⟩; rw [Nat.eq_of_beq_eq_true h]; exact hx
  · exact fun h => ⟨id, h, Nat.beq_refl id⟩
theorem reachL_spec {h : Nat → Option HO} : ∀ (k : Nat) (todo seen L : List Nat), reachL h k todo seen = some L →
    (∀ id ∈ seen, ∃ ho, h id = some ho ∧ ∀ j ∈ ho.o.ids, j ∈ seen ∨ j ∈ todo) → seen.Nodup →
    (∀ id ∈ L, ∃ ho, h id = some ho ∧ ∀ j ∈ ho.o.ids, j ∈ L) ∧ (∀ id ∈ todo, id ∈ L) ∧ (∀ id ∈ seen, id ∈ L) ∧ L.Nodup := by
  intro k
  induction k with
  | zero =>
    intro todo seen L hr hi hn
    cases todo with
    | nil =>
      simp only [reachL, Option.some.injEq] at hr
      subst hr
      exact ⟨fun id hid => let ⟨ho, h1, h2⟩ := hi id hid; ⟨ho, h1, fun j hj => (h2 j hj).resolve_right (by simp)⟩, fun _ h => (by cases h), fun _ h => h, hn⟩
    | cons id todo => simp [reachL] at hr
  | succ k ih =>
    intro todo seen L hr hi hn
    cases todo with
    | nil =>
      simp only [reachL, Option.some.injEq] at hr
      subst hr
      exact ⟨fun id hid => let ⟨ho, h1, h2⟩ := hi id hid; ⟨ho, h1, fun j hj => (h2 j hj).resolve_right (by simp)⟩, fun _ h => (by cases h), fun _ h => h, hn⟩
    | cons id todo =>
      simp only [reachL] at hr
      split at hr
      · rename_i hs
        rw [any_beq] at hs
        obtain ⟨h1, h2, h3, h4⟩ := ih todo seen L hr (fun i hm => by
          obtain ⟨ho, q1, q2⟩ := hi i hm
          refine ⟨ho, q1, fun j hj => ?_⟩
          rcases q2 j hj with q | q
          · exact .inl q
          · rcases List.mem_cons.1 q with rfl | q
            · exact .inl hs
            · exact .inr q) hn
        refine ⟨h1, fun i hm => ?_, h3, h4⟩
        rcases List.mem_cons.1 hm with rfl | hm
        · exact h3 _ hs
        · exact h2 i hm
      · rename_i hs
        have hs' : id ∉ seen := fun hm => by rw [any_beq.2 hm] at hs; cases hs
        split at hr
        case h_2 => cases hr
        rename_i ho hho
        obtain ⟨h1, h2, h3, h4⟩ := ih (ho.o.ids ++ todo) (id :: seen) L hr (fun i hm => by
          rcases List.mem_cons.1 hm with rfl | hm
          · exact ⟨ho, hho, fun j hj => .inr (List.mem_append.2 (.inl hj))⟩
          · obtain ⟨ho', q1, q2⟩ := hi i hm
            refine ⟨ho', q1, fun j hj => ?_⟩
            rcases q2 j hj with q | q
            · exact .inl (List.mem_cons_of_mem _ q)
            · rcases List.mem_cons.1 q with rfl | q
              · exact .inl (by simp)
              · exact .inr (List.mem_append.2 (.inr q))) (List.nodup_cons.2 ⟨hs', hn⟩)
        refine ⟨h1, fun i hm => ?_, fun i hm => h3 i (List.mem_cons_of_mem _ hm), h4⟩
        rcases List.mem_cons.1 hm with rfl | hm
        · exact h3 _ (by simp)
        · exact h2 i (List.mem_append.2 (.inr hm))
theorem reachL_congr {h h' : Nat → Option HO} : ∀ (k : Nat) (todo seen L : List Nat), reachL h k todo seen = some L → (∀ id ∈ L, h' id = h id) → (∀ id ∈ seen, id ∈ L) → reachL h' k todo seen = some L := by
  have sub : ∀ (k : Nat) (todo seen L : List Nat), reachL h k todo seen = some L → ∀ id ∈ seen, id ∈ L := by
    intro k
    induction k with
    | zero =>
      intro todo seen L hr
      cases todo with
      | nil => simp only [reachL, Option.some.injEq] at hr; subst hr; exact fun _ h => h
      | cons => simp [reachL] at hr
    | succ k ih =>
      intro todo seen L hr
      cases todo with
      | nil => simp only [reachL, Option.some.injEq] at hr; subst hr; exact fun _ h => h
      | cons id todo =>
        simp only [reachL] at hr
        split at hr
        · exact ih _ _ _ hr
        · split at hr
          · exact fun i hi => ih _ _ _ hr i (List.mem_cons_of_mem _ hi)
          · cases hr
  intro k
  induction k with
  | zero =>
    intro todo seen L hr _ _
    cases todo with
    | nil => exact hr
    | cons => simp [reachL] at hr
  | succ k ih =>
    intro todo seen L hr hh hs
    cases todo with
    | nil => exact hr
    | cons id todo =>
      simp only [reachL] at hr ⊢
      split at hr
      · exact ih _ _ _ hr hh hs
      · split at hr
        case h_2 => cases hr
        rename_i ho hho
        have hid : id ∈ L := sub _ _ _ _ hr id (by simp)
        simp only [hh id hid, hho]
        exact ih _ _ _ hr hh (sub _ _ _ _ hr)
/-- the objects of a list of ids -/
noncomputable def subTr (h : Nat → Option HO) (l : List Nat) : Tr HO := List.rec .nil (fun id _ ih => match h id with
    | some ho => ih.set id ho
    | none => ih) l
theorem subTr_nil (h : Nat → Option HO) : subTr h [] = .nil := rfl
theorem subTr_cons (h : Nat → Option HO) (id : Nat) (r : List Nat) : subTr h (id :: r) = (match h id with
    | some ho => (subTr h r).set id ho
    | none => subTr h r) := rfl
theorem subTr_get {h : Nat → Option HO} : ∀ {L : List Nat} {j : Nat}, (subTr h L).get j = if j ∈ L then h j else none
  | [], j => by simp [subTr_nil, Tr.get_nil]
  | id :: r, j => by
    simp only [subTr_cons]
    cases hid : h id with
    | none =>
      simp only
      rw [subTr_get]
      by_cases hj : j = id
      · subst hj; simp [hid]
      · simp [hj]
    | some ho =>
      simp only
      rw [Tr.get_set, subTr_get]
      by_cases hj : j = id
      · subst hj; simp [hid]
      · simp [hj]
theorem subTr_congr {h h' : Nat → Option HO} : ∀ {L : List Nat}, (∀ id ∈ L, h' id = h id) → subTr h' L = subTr h L
  | [], _ => rfl
  | id :: r, hh => by
    simp only [subTr_cons, hh id (by simp), subTr_congr fun i hi => hh i (List.mem_cons_of_mem _ hi)]
def rwLive (h : Nat → Option HO) (id : Nat) : Bool := match h id with
  | some ho => !ho.ro && ho.live
  | none => false
def renN : List Nat → Nat → Nat → Nat
  | [], _, id => id
  | n :: r, b, id => bif Nat.beq n id then b else renN r (b + 1) id
theorem renN_not : ∀ {N : List Nat} {b id : Nat}, id ∉ N → renN N b id = id
  | [], _, _, _ => rfl
  | n :: r, b, id, h => by
    simp only [renN]
    rw [beqF (fun e => h (by simp [e])), cond_false]
    exact renN_not fun hm => h (List.mem_cons_of_mem _ hm)
theorem renN_mem : ∀ {N : List Nat} {b id : Nat}, id ∈ N → ∃ k, N[k]? = some id ∧ renN N b id = b + k
  | n :: r, b, id, h => by
    simp only [renN]
    by_cases e : n = id
    · subst e
      exact ⟨0, by simp, by simp⟩
    · rw [beqF e, cond_false]
      obtain ⟨k, h1, h2⟩ := renN_mem (b := b + 1) ((List.mem_cons.1 h).resolve_left fun e' => e e'.symm)
      exact ⟨k + 1, by simpa using h1, by rw [h2]; omega⟩
def goneH : HO := ⟨true, .gone⟩
/-- what a call did, told over the caller's ids: its reachable objects, its new ones renamed -/
def finish (L : List Nat) (h h1 : Nat → Option HO) (base : Nat) (tv : TV) : Option Eff :=
  let U := L.filter (rwLive h)
  match reachL h1 10000 (tv.ids ++ U.flatMap fun id => ((h1 id).getD goneH).o.ids) [] with
  | none => none
  | some R =>
    let N := R.filter fun id => !(L.any (Nat.beq id))
    match (U.all fun id => match h1 id with | some ho => !ho.ro && (!ho.o.isLoop || ho.o.ids.all fun j => !(N.any (Nat.beq j))) | none => false) && N.all fun id => match h1 id with | some ho => !ho.ro && ho.live && !ho.o.isLoop | none => false with
    | false => none
    | true => some ⟨true, tv.ren (renN N base), U.map fun id => (id, ((h1 id).getD goneH).ren (renN N base)), N.map fun id => ((h1 id).getD goneH).ren (renN N base), some L⟩
theorem finish_snd {cmp : Cmp} {ctx : Ctx} {m : MM} {h : Nat → Option HO} {w : World} {L : List Nat} {base : Nat} {tv : TV} {e : Eff} (hH : HRel cmp ctx m h w) (hL : ∀ id ∈ L, ∃ ho, h id = some ho ∧ ∀ j ∈ ho.o.ids, j ∈ L) {h1 : Nat → Option HO} (hf : finish L h h1 base tv = some e)
    (hfr : ∀ k, k < e.news.length → h (base + k) = none) {m1 : MM} {w1 : World} (hm1 : ∀ id ∈ L, m1 id = m id) (hH1 : HRel cmp ⟨w, wbOf m ((L.filter (rwLive h)).map fun id => (id, goneH))⟩ m1 h1 w1) {v : Value} (hv : TR m1 tv v) :
    ∃ m', TR m' e.val v ∧ Stp cmp m m' w w1 e.upd base e.news := by
  unfold finish at hf
  simp only at hf
  split at hf
  case h_1 => cases hf
  rename_i R hR
  split at hf
  case h_1 => cases hf
  rename_i hchk
  simp only [Bool.and_eq_true, List.all_eq_true] at hchk
  obtain ⟨hU, hN⟩ := hchk
  cases hf
  generalize hUd : L.filter (rwLive h) = U at *
  generalize hNd : R.filter (fun id => !(L.any (Nat.beq id))) = N at *
  obtain ⟨r1, r2, -, r4⟩ := reachL_spec _ _ _ _ hR (fun _ hm => by cases hm) List.nodup_nil
  have memN : ∀ id, id ∈ N ↔ id ∈ R ∧ id ∉ L := by
    intro id
    rw [← hNd, List.mem_filter]
    simp only [Bool.not_eq_true', ← Bool.not_eq_true, any_beq]
  have memU : ∀ id, id ∈ U → id ∈ L ∧ rwLive h id = true := by
    intro id hm
    rw [← hUd, List.mem_filter] at hm
    exact hm
  have nodN : N.Nodup := by rw [← hNd]; exact r4.filter _
  simp only [List.length_map] at hfr ⊢
  let Nf : Nat → Nat := fun k => N.getD k 0
  have hNf : ∀ k, k < N.length → N[k]? = some (Nf k) := fun k hk => by simp [Nf, hk]
  -- the ids that are reached, in both numberings
  have hren : ∀ j, j ∈ R → subM m m1 Nf base N.length (renN N base j) = m1 j := by
    intro j hj
    by_cases hjN : j ∈ N
    · obtain ⟨k, k1, k2⟩ := renN_mem (b := base) hjN
      have hk := (List.getElem?_eq_some_iff.1 k1).1
      rw [k2]
      unfold subM
      rw [if_pos (by omega), show base + k - base = k by omega]
      have := hNf k hk
      rw [k1] at this
      cases this
      rfl
    · have hjL : j ∈ L := by
        refine Classical.byContradiction fun hn => hjN ((memN j).2 ⟨hj, hn⟩)
      rw [renN_not hjN]
      unfold subM
      split
      · rename_i hc
        have := hfr (j - base) (by omega)
        rw [show base + (j - base) = j by omega] at this
        obtain ⟨ho, h2, _⟩ := hL j hjL
        rw [this] at h2; cases h2
      · exact (hm1 j hjL).symm
  have hrenL : ∀ j, j ∈ L → renN N base j = j := fun j hj => renN_not fun hm => ((memN j).1 hm).2 hj
  have inR : ∀ id, id ∈ N → ∃ ho, h1 id = some ho ∧ ∀ j ∈ ho.o.ids, j ∈ R := fun id hm => r1 id ((memN id).1 hm).1
  refine ⟨subM m m1 Nf base N.length, hv.ren fun j hj => hren j (r2 j (List.mem_append.2 (.inl hj))), ?_⟩
  have hwb : wbOf m (U.map fun id => (id, ((h1 id).getD goneH).ren (renN N base))) = wbOf m (U.map fun id => (id, goneH)) := by
    funext b
    refine propext ⟨?_, ?_⟩
    · rintro ⟨u, hu, mb, g1, g2⟩
      obtain ⟨id, hid, rfl⟩ := List.mem_map.1 hu
      exact ⟨_, List.mem_map.2 ⟨id, hid, rfl⟩, mb, g1, g2⟩
    · rintro ⟨u, hu, mb, g1, g2⟩
      obtain ⟨id, hid, rfl⟩ := List.mem_map.1 hu
      exact ⟨_, List.mem_map.2 ⟨id, hid, rfl⟩, mb, g1, g2⟩
  have key := sub_stp (cmp := cmp) (upd := U.map fun id => (id, ((h1 id).getD goneH).ren (renN N base))) (news := N.map fun id => ((h1 id).getD goneH).ren (renN N base)) (base := base) hH (by simpa using hfr) (m1 := m1) (h1 := h1) (w1 := w1) (by rw [hwb]; exact hH1) (N := Nf)
  simp only [List.length_map] at key
  refine key ?_ ?_ ?_ ?_ ?_
  · intro i j hi hj hij
    have h2 := hNf i hi
    have h3 := hNf j hj
    rw [← hij] at h3
    exact (List.getElem?_inj hi nodN).1 (h2.trans h3.symm)
  · intro k hk
    have hm : Nf k ∈ N := List.mem_of_getElem? (hNf k hk)
    have := hN _ hm
    split at this
    · rename_i ho hho
      simp only [Bool.and_eq_true, Bool.not_eq_true'] at this
      exact ⟨ho, hho, this.1.1, this.1.2⟩
    · cases this
  · intro u hu hul
    obtain ⟨id, hid, rfl⟩ := List.mem_map.1 hu
    have := hU _ hid
    split at this
    case h_2 => cases this
    rename_i ho hho
    refine ⟨id, ho, hho, ?_, hm1 id (memU id hid).1, fun k hk e => ?_⟩
    · simp only [hho, Option.getD_some] at hul
      unfold HO.live HO.ren at hul
      unfold HO.live
      cases hoo : ho.o <;> rw [hoo] at hul <;> first | rfl | (simp [AO.ren] at hul)
    · exact ((memN id).1 (by rw [← e]; exact List.mem_of_getElem? (hNf k hk))).2 (memU id hid).1
  · intro u hu
    obtain ⟨id, hid, rfl⟩ := List.mem_map.1 hu
    have := hU _ hid
    split at this
    case h_2 => cases this
    rename_i ho hho
    simp only [Bool.and_eq_true, Bool.or_eq_true, Bool.not_eq_true'] at this
    obtain ⟨mb, g1, g2, _⟩ := hH1.obj id ho hho
    refine ⟨mb, by rw [← hm1 id (memU id hid).1]; exact g1, ?_⟩
    simp only [hho, Option.getD_some]
    have hids : ∀ j ∈ ho.o.ids, j ∈ R := fun j hj => r2 j (List.mem_append.2 (.inr (List.mem_flatMap.2 ⟨id, hid, by rw [hho]; exact hj⟩)))
    refine g2.ren (fun j hj => hren j (hids j hj)) fun hl j hj => ?_
    rcases this.2 with h3 | h3
    · rw [hl] at h3; cases h3
    · have := List.all_eq_true.1 h3 j hj
      simp only [Bool.not_eq_true', ← Bool.not_eq_true, any_beq] at this
      exact renN_not this
  · intro k ho hk
    rw [List.getElem?_map] at hk
    obtain ⟨id, k1, rfl⟩ := Option.map_eq_some_iff.1 hk
    have hid : id ∈ N := List.mem_of_getElem? k1
    have hkl := (List.getElem?_eq_some_iff.1 k1).1
    have hNk : Nf k = id := by have := hNf k hkl; rw [k1] at this; exact (Option.some.inj this).symm
    have := hN _ hid
    split at this
    case h_2 => cases this
    rename_i ho' hho
    simp only [Bool.and_eq_true, Bool.not_eq_true'] at this
    obtain ⟨mb, g1, g2, _⟩ := hH1.obj id ho' hho
    refine ⟨mb, by rw [hNk]; exact g1, ?_⟩
    simp only [hho, Option.getD_some]
    obtain ⟨ho2, q1, q2⟩ := inR id hid
    rw [hho] at q1
    cases q1
    exact g2.ren (fun j hj => hren j (q2 j hj)) fun hl => by rw [this.2] at hl; cases hl
/-- the objects that a call can reach, on their own -/
theorem HRel.sub {cmp : Cmp} {ctx : Ctx} {m : MM} {h : Nat → Option HO} {w : World} {L : List Nat} (hH : HRel cmp ctx m h w) (hL : ∀ id ∈ L, ∃ ho, h id = some ho ∧ ∀ j ∈ ho.o.ids, j ∈ L) :
    HRel cmp ⟨w, wbOf m ((L.filter (rwLive h)).map fun id => (id, goneH))⟩ (fun id => if id ∈ L then m id else none) (Sto.tr (subTr h L)).get w where
  obj := fun id ho hid => by
    have hid' : (if id ∈ L then h id else none) = some ho := by rw [← subTr_get]; exact hid
    split at hid'
    case isFalse => cases hid'
    rename_i hm
    obtain ⟨mb, h1, h2, h3, h4⟩ := hH.obj id ho hid'
    obtain ⟨ho', q1, q2⟩ := hL id hm
    rw [hid'] at q1
    cases q1
    refine ⟨mb, by simp [hm, h1], h2.sub fun j hj => by simp [q2 j hj], h3, fun hro hl b hb => .inr ⟨(id, goneH), List.mem_map.2 ⟨id, List.mem_filter.2 ⟨hm, by simp [rwLive, hid', hro, hl]⟩, rfl⟩, mb, h1, hb⟩⟩
  dist := fun id id' ho ho' mb mb' b hne hid hid' hro hl hl' hm hm' hb => by
    have h1 : (if id ∈ L then h id else none) = some ho := by rw [← subTr_get]; exact hid
    have h2 : (if id' ∈ L then h id' else none) = some ho' := by rw [← subTr_get]; exact hid'
    split at h1
    case isFalse => cases h1
    split at h2
    case isFalse => cases h2
    rename_i g1 g2
    simp only [g1, g2, if_true] at hm hm'
    exact hH.dist id id' ho ho' mb mb' b hne h1 h2 hro hl hl' hm hm' hb
  dom := fun id hid => by
    have h1 : (if id ∈ L then h id else none) = none := by rw [← subTr_get]; exact hid
    split
    · rename_i hm
      rw [if_pos hm] at h1
      obtain ⟨ho, q1, _⟩ := hL id hm
      rw [h1] at q1; cases q1
    · rfl
  os := rfl
  tape := rfl
  output := rfl
  size := Nat.le_refl _
  same0 := fun _ _ _ => rfl
noncomputable def argTr (l : List AV) : Nat → Tr Slot → Tr Slot := List.rec (fun _ t => t) (fun v _ ih i t => ih (Nat.succ i) (t.set i ⟨true, .av v⟩)) l
theorem argTr_nil (i : Nat) (t : Tr Slot) : argTr [] i t = t := rfl
theorem argTr_cons (v : AV) (r : List AV) (i : Nat) (t : Tr Slot) : argTr (v :: r) i t = argTr r (i + 1) (t.set i ⟨true, .av v⟩) := rfl
theorem argTr_get : ∀ {l : List AV} {i : Nat} {t : Tr Slot} {j : Nat}, (argTr l i t).get j = if i ≤ j ∧ j < i + l.length then argSl l (j - i) else t.get j
  | [], i, t, j => by simp only [argTr_nil, List.length_nil]; rw [if_neg (by omega)]
  | v :: r, i, t, j => by
    simp only [argTr_cons]
    rw [argTr_get, Tr.get_set, List.length_cons]
    by_cases hj : j = i
    · subst hj
      rw [if_neg (by omega), if_pos rfl, if_pos (by omega), Nat.sub_self]
      rfl
    · rw [if_neg hj]
      by_cases hc : i + 1 ≤ j ∧ j < i + 1 + r.length
      · rw [if_pos hc, if_pos (by omega)]
        unfold argSl
        rw [show j - i = (j - (i + 1)) + 1 by omega]
        rfl
      · rw [if_neg hc, if_neg (by omega)]
theorem argTr_slot {l : List AV} {t : Nat} {s : Slot} (h : (Sto.tr (argTr l 0 .nil)).get t = some s) : argSl l t = some s := by
  have : (argTr l 0 .nil).get t = some s := h
  rw [argTr_get] at this
  split at this
  · exact this
  · simp [Tr.get_nil] at this
noncomputable def leaveS (h : Sto HO) : List Nat → Sto HO
  | [] => h
  | id :: r => leaveS (h.set id ⟨false, .gone⟩) r
theorem leaveS_get : ∀ {l : List Nat} {h : Sto HO}, (leaveS h l).get = leaveH h.get l
  | [], _ => rfl
  | id :: r, h => by
    simp only [leaveS, leaveH]
    rw [leaveS_get]
    congr 1
    funext j
    rw [Sto.get_set]
def XE.isX : XE → Bool
  | .x _ => true
  | _ => false
noncomputable def callS (x : XFn) (run : XC → St → Option (XE × St)) : Spec where
  run := fun args h base =>
    match Nat.ble args.length x.nt, reachL h 10000 (args.flatMap AV.ids) [] with
    | true, some L => match run x.body ⟨.tr (argTr args 0 .nil), .tr (subTr h L), base, []⟩ with
      | some (e, S') => match e.isX, dfOk S'.hp.get S'.df with
        | false, true => match resV S'.sl.get (leaveS S'.hp S'.df).get x.res with
          | some (true, tv) => finish L h (leaveS S'.hp S'.df).get base tv
          | _ => none
        | _, _ => none
      | none => none
    | _, _ => none
noncomputable def setPsS (sl : Sto Slot) : List Nat → List AV → Sto Slot
  | p :: ps, v :: vs => setPsS (sl.set p ⟨true, .av v⟩) ps vs
  | _, _ => sl
theorem setPsS_get : ∀ {ps : List Nat} {vs : List AV} {sl : Sto Slot}, (setPsS sl ps vs).get = setPs sl.get ps vs
  | [], _, _ => by simp [setPsS, setPs]
  | _ :: _, [], _ => by simp [setPsS, setPs]
  | p :: ps, v :: vs, sl => by
    simp only [setPsS, setPs]
    rw [setPsS_get]
    congr 1
    funext j
    rw [Sto.get_set]
noncomputable def roundS (run : XC → St → Option (XE × St)) (id : Nat) : Spec where
  run := fun args h base =>
    match h id with
    | some ⟨false, .loop sl ps asg body .ready⟩ =>
      match Nat.beq args.length ps.length, reachL h 10000 (id :: args.flatMap AV.ids) [] with
      | true, some L => match run asg ⟨setPsS sl ps args, .tr (subTr h L), base, []⟩ with
        | some (.n, S1) => match S1.hp.get id with
          | some ⟨false, .loop sl1 ps1 asg1 body1 .ready⟩ => match run body { S1 with hp := S1.hp.set id ⟨false, .loop sl1 ps1 asg1 body1 .busy⟩ } with
            | some (ex, S2) => match S2.hp.get id with
              | some ⟨false, .loop sl2 ps2 asg2 body2 .busy⟩ => finish L h (S2.hp.set id ⟨false, .loop sl2 ps2 asg2 body2 (endLS ex)⟩).get base (B ex.isN)
              | _ => none
            | none => none
          | _ => none
        | _ => none
      | _, _ => none
    | _ => none
theorem finish_rd {L : List Nat} {h h1 : Nat → Option HO} {base : Nat} {tv : TV} {e : Eff} (hf : finish L h h1 base tv = some e) : e.rd = some L ∧ e.vc = true := by
  unfold finish at hf
  simp only at hf
  split at hf
  · cases hf
  · split at hf
    · cases hf
    · cases hf; exact ⟨rfl, rfl⟩
theorem finish_congr {L : List Nat} {h h' h1 : Nat → Option HO} {base : Nat} {tv : TV} (hh : ∀ id ∈ L, h' id = h id) : finish L h' h1 base tv = finish L h h1 base tv := by
  have : L.filter (rwLive h') = L.filter (rwLive h) := List.filter_congr fun id hid => by unfold rwLive; rw [hh id hid]
  unfold finish
  rw [this]
section
variable {P : Program} {T : Tab} {Γ : Cal → Option Spec}
theorem callS_fp {x : XFn} {run : XC → St → Option (XE × St)} : SpecFp (callS x run) := by
  intro args h h' base e hr hf
  simp only [callS] at hr ⊢
  split at hr
  case h_2 => cases hr
  rename_i L hlen hL
  split at hr
  case h_2 => cases hr
  rename_i e0 S' hrun
  split at hr
  case h_2 => cases hr
  rename_i h1 h2
  split at hr
  case h_2 => cases hr
  rename_i tv hres
  obtain ⟨hrd, _⟩ := finish_rd hr
  unfold Fp at hf
  rw [hrd] at hf
  simp only at hf
  rw [reachL_congr _ _ _ _ hL hf (fun _ hm => by cases hm)]
  simp only [hlen, subTr_congr hf, hrun, h1, h2, hres, finish_congr hf]
  exact hr
theorem roundS_fp {run : XC → St → Option (XE × St)} {id : Nat} : SpecFp (roundS run id) := by
  intro args h h' base e hr hf
  simp only [roundS] at hr ⊢
  split at hr
  case h_2 => cases hr
  rename_i sl ps asg body hid
  split at hr
  case h_2 => cases hr
  rename_i L hlen hL
  split at hr
  case h_2 => cases hr
  rename_i S1 hrun1
  split at hr
  case h_2 => cases hr
  rename_i sl1 ps1 asg1 body1 hid1
  split at hr
  case h_2 => cases hr
  rename_i ex S2 hrun2
  split at hr
  case h_2 => cases hr
  rename_i sl2 ps2 asg2 body2 hid2
  obtain ⟨hrd, _⟩ := finish_rd hr
  unfold Fp at hf
  rw [hrd] at hf
  simp only at hf
  have hidL : id ∈ L := (reachL_spec _ _ _ _ hL (fun _ hm => by cases hm) List.nodup_nil).2.1 id (by simp)
  rw [hf id hidL, hid]
  simp only
  rw [reachL_congr _ _ _ _ hL hf (fun _ hm => by cases hm)]
  simp only [hlen, subTr_congr hf, hrun1, hid1, hrun2, hid2, finish_congr hf]
  exact hr
theorem le_sum : ∀ {L : List Nat} {id : Nat}, id ∈ L → id ≤ L.sum
  | x :: L, id, h => by
    rw [List.sum_cons]
    rcases List.mem_cons.1 h with rfl | h
    · omega
    · have := le_sum h; omega
theorem All2.sub {m m' : MM} : ∀ {l : List AV} {vs : List Value}, All2 (AR m) l vs → (∀ j ∈ l.flatMap AV.ids, m' j = m j) → All2 (AR m') l vs
  | [], [], _, _ => trivial
  | [], _ :: _, h, _ => h.elim
  | _ :: _, [], h, _ => h.elim
  | x :: l, v :: vs, ⟨h1, h2⟩, hm => by
    simp only [List.flatMap_cons, List.mem_append] at hm
    refine ⟨?_, h2.sub fun j hj => hm j (.inr hj)⟩
    have := h1.ren (ρ := fun j => j) (fun j hj => hm j (.inl hj))
    rwa [AV.ren_id fun _ _ => rfl] at this
/-- a function of the program, as the small code -/
def FunOK (P : Program) (T : Tab) (f : FuncId) (x : XFn) : Prop := Bodied P f ∧ ∃ fn, P.funcs[f]? = some fn ∧ compFn T fn = some x
theorem callS_ok (hT : TOK P T) {f : FuncId} {x : XFn} (hx : FunOK P T f x) {run : XC → St → Option (XE × St)} (hrun : ∀ c S S' e kp nt, run c S = some (e, S') → Exec P T none nt kp c S e S') : SpecOK P (compC T) f (callS x run) := by
  obtain ⟨_, fn, hf, hxf⟩ := hx
  intro ctx m h w args vals base e hH hargs hfr hup hr hvc
  simp only [callS] at hr
  split at hr
  case h_2 => cases hr
  rename_i L hlen hL
  split at hr
  case h_2 => cases hr
  rename_i e0 S' hrun0
  split at hr
  case h_2 => cases hr
  rename_i h1 h2
  split at hr
  case h_2 => cases hr
  rename_i tv hres
  obtain ⟨hcl, hin, -, -⟩ := reachL_spec _ _ _ _ hL (fun _ hm => by cases hm) List.nodup_nil
  have hsub := HRel.sub hH hcl
  refine callsIn_exec (kp := L.sum + 1) hT hf hxf (by simpa using hlen) (fun t s => argTr_slot) rfl (hrun _ _ _ _ (L.sum + 1) x.nt hrun0) ?_ h2 (by rw [← leaveS_get]; exact hres) hsub (hargs.sub fun j hj => by simp [hin j hj]) ?_
  · cases e0 with
    | n => exact .inl rfl
    | r => exact .inr rfl
    | x i => cases h1
  · intro v w' m1 hk hv hH1
    rw [← leaveS_get] at hH1
    have hm1 : ∀ id ∈ L, m1 id = m id := by
      intro id hid
      obtain ⟨ho, q1, _⟩ := hcl id hid
      obtain ⟨mb, q2, _⟩ := hH.obj id ho q1
      rw [q2]
      exact hk id mb (Nat.lt_succ_of_le (le_sum hid)) (by simp [hid, q2])
    obtain ⟨m', g1, g2⟩ := finish_snd hH hcl hr hfr hm1 hH1 hv
    exact ⟨v, m', rfl, g1, g2⟩
theorem roundS_ok {id : Nat} {run : XC → St → Option (XE × St)} (hrun : ∀ l c S S' e kp nt, run c S = some (e, S') → Exec P T (some l) nt kp c S e S') : YieldOK P (compC T) id (roundS run id) := by
  intro ctx m h w args vals base e l mb hH hm hb hargs hfr hup hr hvc
  simp only [roundS] at hr
  split at hr
  case h_2 => cases hr
  rename_i sl ps asg body hid
  split at hr
  case h_2 => cases hr
  rename_i L hlen hL
  split at hr
  case h_2 => cases hr
  rename_i S1 hrun1
  split at hr
  case h_2 => cases hr
  rename_i sl1 ps1 asg1 body1 hid1
  split at hr
  case h_2 => cases hr
  rename_i ex S2 hrun2
  split at hr
  case h_2 => cases hr
  rename_i sl2 ps2 asg2 body2 hid2
  obtain ⟨hcl, hin, -, -⟩ := reachL_spec _ _ _ _ hL (fun _ hm => by cases hm) List.nodup_nil
  have hsub := HRel.sub hH hcl
  have hidL : id ∈ L := hin id (by simp)
  refine round_exec (kp := L.sum + 1) (S := ⟨setPsS sl ps args, .tr (subTr h L), base, []⟩) (Nat.lt_succ_of_le (le_sum hidL)) (Nat.eq_of_beq_eq_true hlen) ?_ (fun t s hs => by rw [← setPsS_get]; exact hs) rfl (fun l nt => hrun l _ _ _ _ _ nt hrun1) hid1 (fun l nt => hrun l _ _ _ _ _ nt hrun2) hid2 hsub (by simp [hidL, hm]) hb (hargs.sub fun j hj => by simp [hin j (List.mem_cons_of_mem _ hj)]) ?_
  · show (subTr h L).get id = _
    rw [subTr_get, if_pos hidL]
    exact hid
  · intro v w' m1 hk hv hH1
    subst hv
    have hm1 : ∀ id ∈ L, m1 id = m id := by
      intro id hid
      obtain ⟨ho, q1, _⟩ := hcl id hid
      obtain ⟨mb, q2, _⟩ := hH.obj id ho q1
      rw [q2]
      exact hk id mb (Nat.lt_succ_of_le (le_sum hid)) (by simp [hid, q2])
    obtain ⟨m', g1, g2⟩ := finish_snd hH hcl hr hfr hm1 hH1 (tv := B ex.isN) (v := .bool ex.isN) rfl
    exact ⟨_, m', rfl, g1, g2⟩
/-- calls in place, so deep -/
noncomputable def gam (F : FuncId → Option XFn) (Γ0 : FuncId → Option Spec) (K : Nat) : Nat → Cal → Option Spec
  | 0, .f f => Γ0 f
  | 0, .y _ => none
  | k + 1, .f f => match Γ0 f with
    | some sp => some sp
    | none => match F f with
      | some x => some (callS x (crun (gam F Γ0 K k) false K))
      | none => none
  | k + 1, .y id => some (roundS (crun (gam F Γ0 K k) true K) id)
/-- specifications that hold -/
structure SpecsOK (P : Program) (T : Tab) (Γ0 : FuncId → Option Spec) : Prop where
  ok : ∀ f sp, Γ0 f = some sp → SpecOK P (compC T) f sp
  fp : ∀ f sp, Γ0 f = some sp → SpecFp sp
  bod : ∀ f sp, Γ0 f = some sp → Bodied P f
theorem gam_ok (hT : TOK P T) (hQ : EQOK P) (hmix : P.follows .mixedOrders = true) {F : FuncId → Option XFn} (hF : ∀ f x, F f = some x → FunOK P T f x) {Γ0 : FuncId → Option Spec} (h0 : SpecsOK P T Γ0) (K : Nat) : ∀ k, EnvOK P T (gam F Γ0 K k) := by
  intro k
  induction k with
  | zero =>
    refine ⟨hT, hQ, ⟨h0.ok, fun id sp h => (by cases h)⟩, h0.bod, fun c sp h => ?_, hmix⟩
    cases c with
    | f f => exact h0.fp f sp h
    | y id => cases h
  | succ k ih =>
    refine ⟨hT, hQ, ⟨fun f sp h => ?_, fun id sp h => ?_⟩, fun f sp h => ?_, fun c sp h => ?_, hmix⟩
    · simp only [gam] at h
      split at h
      · rename_i h1; cases h; exact h0.ok f _ h1
      · split at h
        · rename_i x hx
          cases h
          exact callS_ok hT (hF f x hx) fun c S S' e kp nt hr => (crun_snd ih (fun _ => rfl) K c S S' e hr).1
        · cases h
    · simp only [gam, Option.some.injEq] at h
      subst h
      exact roundS_ok fun l c S S' e kp nt hr => (crun_snd ih (fun h => by cases h) K c S S' e hr).1
    · simp only [gam] at h
      split at h
      · rename_i h1; cases h; exact h0.bod f _ h1
      · split at h
        · rename_i x hx; exact (hF f x hx).1
        · cases h
    · cases c with
      | f f =>
        simp only [gam] at h
        split at h
        · rename_i h1; cases h; exact h0.fp f _ h1
        · split at h
          · cases h; exact callS_fp
          · cases h
      | y id =>
        simp only [gam, Option.some.injEq] at h
        subst h
        exact roundS_fp
end
end Go.Proofs.Yteekkjfjpoaihaa.Eng
namespace Go.Proofs.Yteekkjfjpoaihaa.Eng
open Go
noncomputable def xopO (Γ : Cal → Option Spec) (b0 : Nat) (x : XOp) (sl : Nat → Option Slot) (hp : Nat → Option HO) (os : List Bool) : Option (Bool × Ef × List Bool) :=
  match guardC sl x.g with
  | none => none
  | some c =>
    match xi Γ x.x (fun y => (evalX sl y).v) hp (b0 + x.off) with
    | some e =>
      match e.upd, e.news with
      | [], [] => some (!c || (opc sl x.x && e.vc), ⟨x.dst, ⟨c, e.val⟩, [], b0 + x.off, [], bif c then e.rd else some []⟩, os)
      | _, _ => match x.g with
        | none => some (c && (opc sl x.x && e.vc && updOk hp e.upd && newsOk hp (b0 + x.off) e.news), ⟨x.dst, ⟨true, e.val⟩, e.upd, b0 + x.off, e.news, e.rd⟩, os)
        | some _ => match os with
          | true :: os => some (c && (opc sl x.x && e.vc && updOk hp e.upd && newsOk hp (b0 + x.off) e.news), ⟨x.dst, ⟨true, e.val⟩, e.upd, b0 + x.off, e.news, e.rd⟩, os)
          | false :: os => some (!c, ⟨x.dst, ⟨false, e.val⟩, [], b0 + x.off, [], some []⟩, os)
          | [] => none
    | none => match c with
      | false => some (true, ⟨x.dst, ⟨false, anyT⟩, [], b0 + x.off, [], some []⟩, os)
      | true => none
noncomputable def xopsO (Γ : Cal → Option Spec) (b0 : Nat) (l : List XOp) : St → List Bool → Option (Bool × St × List Ef × List Bool) :=
  List.rec (fun S os => some (true, S, [], os)) (fun x _ ih S os => match xopO Γ b0 x S.sl.get S.hp.get os with
    | some (v, e, os') => match ih (S.app e) os' with
      | some (v', S'', l, os'') => some (v && v', S'', e :: l, os'')
      | none => none
    | none => none) l
theorem xopsO_nil (Γ : Cal → Option Spec) (b0 : Nat) (S : St) (os : List Bool) : xopsO Γ b0 [] S os = some (true, S, [], os) := rfl
theorem xopsO_cons (Γ : Cal → Option Spec) (b0 : Nat) (x : XOp) (r : List XOp) (S : St) (os : List Bool) : xopsO Γ b0 (x :: r) S os = (match xopO Γ b0 x S.sl.get S.hp.get os with
    | some (v, e, os') => match xopsO Γ b0 r (S.app e) os' with
      | some (v', S'', l, os'') => some (v && v', S'', e :: l, os'')
      | none => none
    | none => none) := rfl
/-- the run: what is owed, how it ends, the state, what is left of the tellings -/
noncomputable def orunStep (Γ : Cal → Option Spec) (inr : Bool) (rec : XC → St → List Bool → Option (Bool × XE × St × List Bool)) (c : XC) (S : St) (os : List Bool) : Option (Bool × XE × St × List Bool) :=
  match c with
  | .skip => some (true, .n, S, os)
  | .label _ => some (true, .n, S, os)
  | .ret => some (true, .r, S, os)
  | .exit id => some (true, .x id, S, os)
  | .reg ops tot => match xopsO Γ S.nx ops S os with
    | some (v, S', _, os') => some (v, .n, { S' with nx := S'.nx + tot }, os')
    | none => none
  | .regD ops tot chk => match xopsO Γ S.nx ops S os with
    | some (v, S', E, os') => some (v && chk.all (okAt E), .n, { S' with nx := S'.nx + tot }, os')
    | none => none
  | .seq a b => match rec a S os with
    | some (v, .n, S1, os1) => match rec b S1 os1 with
      | some (v', e, S2, os2) => some (v && v', e, S2, os2)
      | none => none
    | some (v, e, S1, os1) => some (v, e, S1, os1)
    | none => none
  | .cond c a b => match evalX S.sl.get c with
    | ⟨cc, .av (.s (.bool t))⟩ => match os with
      | true :: os1 => match rec a S os1 with
        | some (v, e, S1, os2) => some (cc && (t && v), e, S1, os2)
        | none => none
      | false :: os1 => match rec b S os1 with
        | some (v, e, S1, os2) => some (cc && (!t && v), e, S1, os2)
        | none => none
      | [] => none
    | _ => none
  | .block id b => match rec b S os with
    | some (v, e, S1, os1) => some (v, e.unblock id, S1, os1)
    | none => none
  | .loop b => match rec b S os with
    | some (v, .n, S1, os1) => match rec (.loop b) S1 os1 with
      | some (v', e, S2, os2) => some (v && v', e, S2, os2)
      | none => none
    | some (v, e, S1, os1) => some (v, e, S1, os1)
    | none => none
  | .scope b => rec b S os
  | .rf f ps asg body => match inr with
    | true => none
    | false => match rfRun Γ f ps asg body S with
      | some (e, S1) => some (true, e, S1, os)
      | none => none
noncomputable def orun (Γ : Cal → Option Spec) (inr : Bool) (k : Nat) : XC → St → List Bool → Option (Bool × XE × St × List Bool) := Nat.rec (fun _ _ _ => none) (fun _ ih c S os => orunStep Γ inr ih c S os) k
theorem orun_zero (Γ : Cal → Option Spec) (inr : Bool) (c : XC) (S : St) (os : List Bool) : orun Γ inr 0 c S os = none := rfl
theorem orun_succ (Γ : Cal → Option Spec) (inr : Bool) (k : Nat) (c : XC) (S : St) (os : List Bool) : orun Γ inr (k + 1) c S os = orunStep Γ inr (orun Γ inr k) c S os := rfl
section
variable {P : Program} {T : Tab} {r : Option Nat} {Γ : Cal → Option Spec} {nt kp : Nat}
theorem xopO_snd {b0 : Nat} {x : XOp} {sl : Nat → Option Slot} {hp : Nat → Option HO} {os os' : List Bool} {v : Bool} {e : Ef} (h : xopO Γ b0 x sl hp os = some (v, e, os')) (hv : v = true) : xopF Γ b0 x sl hp = some (true, e) := by
  unfold xopO at h
  unfold xopF
  split at h
  · cases h
  · rename_i c hc
    simp only [hc]
    split at h
    · rename_i ef hx
      simp only [hx]
      split at h
      · rename_i h1 h2
        rw [h1, h2]
        simp only [Option.some.injEq, Prod.mk.injEq] at h
        obtain ⟨rfl, rfl, _⟩ := h
        rw [hv]
      · rename_i hne
        have key : ∀ {β : Type} (a b : β), (match ef.upd, ef.news with | [], [] => a | _, _ => b) = b := by
          intro β a b
          split
          · rename_i h1 h2; exact absurd h2 (hne h1)
          · rfl
        split at h
        · simp only [Option.some.injEq, Prod.mk.injEq] at h
          obtain ⟨rfl, rfl, _⟩ := h
          simp only [Bool.and_eq_true] at hv
          obtain ⟨rfl, h3, h4⟩ := hv
          simp only [h3, h4, Bool.and_self]
        · split at h
          · simp only [Option.some.injEq, Prod.mk.injEq] at h
            obtain ⟨rfl, rfl, _⟩ := h
            simp only [Bool.and_eq_true] at hv
            obtain ⟨rfl, h3, h4⟩ := hv
            simp only [h3, h4, Bool.and_self]
          · simp only [Option.some.injEq, Prod.mk.injEq] at h
            obtain ⟨rfl, rfl, _⟩ := h
            simp only [Bool.not_eq_true'] at hv
            subst hv
            split
            · rename_i h1 h2; exact absurd h2 (hne h1)
            · rfl
          · cases h
    · rename_i hx
      simp only [hx]
      split at h
      · simp only [Option.some.injEq, Prod.mk.injEq] at h
        obtain ⟨_, rfl, _⟩ := h
        rfl
      · cases h
theorem xopsO_snd {b0 : Nat} : ∀ {l : List XOp} {S S' : St} {os os' : List Bool} {v : Bool} {E : List Ef}, xopsO Γ b0 l S os = some (v, S', E, os') → v = true → xops Γ b0 l S = some (true, S', E)
  | [], S, S', os, os', v, E, h, _ => by
    simp only [xopsO_nil, Option.some.injEq, Prod.mk.injEq] at h
    obtain ⟨_, rfl, rfl, _⟩ := h
    rfl
  | x :: l, S, S', os, os', v, E, h, hv => by
    rw [xopsO_cons] at h
    split at h
    case h_2 => cases h
    rename_i v1 e os1 hx
    split at h
    case h_2 => cases h
    rename_i v2 S2 l2 os2 hr
    simp only [Option.some.injEq, Prod.mk.injEq] at h
    obtain ⟨rfl, rfl, rfl, _⟩ := h
    simp only [Bool.and_eq_true] at hv
    rw [xops_cons, xopO_snd hx hv.1]
    simp only
    rw [xopsO_snd hr hv.2]
    rfl
theorem orun_snd (hE : EnvOK P T Γ) {inr : Bool} (hr : inr = false → r = none) : ∀ (k : Nat) (c : XC) (S S' : St) (os os' : List Bool) (e : XE) (v : Bool), orun Γ inr k c S os = some (v, e, S', os') → v = true →
    Exec P T r nt kp c S e S' ∧ ∀ b, c = .loop b → ∃ j, LoopX (Exec P T r nt kp b) j S e S' := by
  intro k
  induction k with
  | zero => intro c S S' os os' e v h; simp [orun_zero] at h
  | succ k ih =>
    intro c S S' os os' e v h hv
    rw [orun_succ] at h
    cases c with
    | skip => simp only [orunStep] at h; cases h; exact ⟨exec_skip, fun b hb => (by cases hb)⟩
    | label l => simp only [orunStep] at h; cases h; exact ⟨exec_label, fun b hb => (by cases hb)⟩
    | ret => simp only [orunStep] at h; cases h; exact ⟨exec_ret, fun b hb => (by cases hb)⟩
    | exit id => simp only [orunStep] at h; cases h; exact ⟨exec_exit, fun b hb => (by cases hb)⟩
    | reg ops tot =>
      simp only [orunStep] at h
      split at h
      case h_2 => cases h
      rename_i v1 S1 E os1 hx
      cases h
      exact ⟨exec_reg hE (xopsO_snd hx hv), fun b hb => (by cases hb)⟩
    | regD ops tot chk =>
      simp only [orunStep] at h
      split at h
      case h_2 => cases h
      rename_i v1 S1 E os1 hx
      simp only [Option.some.injEq, Prod.mk.injEq] at h
      obtain ⟨rfl, rfl, rfl, _⟩ := h
      simp only [Bool.and_eq_true] at hv
      exact ⟨exec_regD hE (xopsO_snd hx hv.1) hv.2, fun b hb => (by cases hb)⟩
    | seq a b =>
      simp only [orunStep] at h
      refine ⟨?_, fun b hb => (by cases hb)⟩
      split at h
      · rename_i v1 S1 os1 h1
        split at h
        case h_2 => cases h
        rename_i v2 e2 S2 os2 h2
        simp only [Option.some.injEq, Prod.mk.injEq] at h
        obtain ⟨rfl, rfl, rfl, _⟩ := h
        simp only [Bool.and_eq_true] at hv
        exact exec_seq (ih _ _ _ _ _ _ _ h1 hv.1).1 (ih _ _ _ _ _ _ _ h2 hv.2).1
      · rename_i v1 e1 S1 os1 hne h1
        cases h
        refine exec_seq_x (ih _ _ _ _ _ _ _ h1 hv).1 ?_
        rintro rfl
        exact hne rfl
      · cases h
    | cond c a b =>
      simp only [orunStep] at h
      refine ⟨?_, fun b hb => (by cases hb)⟩
      split at h
      case h_2 => cases h
      rename_i cc t ht
      split at h
      · split at h
        case h_2 => cases h
        rename_i v1 e1 S1 os1 h1
        simp only [Option.some.injEq, Prod.mk.injEq] at h
        obtain ⟨rfl, rfl, rfl, _⟩ := h
        simp only [Bool.and_eq_true] at hv
        obtain ⟨rfl, rfl, hv⟩ := hv
        exact exec_cond ht (ih _ _ _ _ _ _ _ h1 hv).1
      · split at h
        case h_2 => cases h
        rename_i v1 e1 S1 os1 h1
        simp only [Option.some.injEq, Prod.mk.injEq] at h
        obtain ⟨rfl, rfl, rfl, _⟩ := h
        simp only [Bool.and_eq_true, Bool.not_eq_true'] at hv
        obtain ⟨rfl, rfl, hv⟩ := hv
        exact exec_cond ht (ih _ _ _ _ _ _ _ h1 hv).1
      · cases h
    | block id b =>
      simp only [orunStep] at h
      refine ⟨?_, fun b hb => (by cases hb)⟩
      split at h
      case h_2 => cases h
      rename_i v1 e1 S1 os1 h1
      cases h
      exact exec_block (ih _ _ _ _ _ _ _ h1 hv).1
    | loop b =>
      simp only [orunStep] at h
      have key : ∃ j, LoopX (Exec P T r nt kp b) j S e S' := by
        split at h
        · rename_i v1 S1 os1 h1
          split at h
          case h_2 => cases h
          rename_i v2 e2 S2 os2 h2
          simp only [Option.some.injEq, Prod.mk.injEq] at h
          obtain ⟨rfl, rfl, rfl, _⟩ := h
          simp only [Bool.and_eq_true] at hv
          obtain ⟨j, hj⟩ := (ih _ _ _ _ _ _ _ h2 hv.2).2 b rfl
          exact ⟨j + 1, .step (ih _ _ _ _ _ _ _ h1 hv.1).1 hj⟩
        · rename_i v1 e1 S1 os1 hne h1
          cases h
          refine ⟨0, .done (ih _ _ _ _ _ _ _ h1 hv).1 ?_⟩
          rintro rfl
          exact hne rfl
        · cases h
      refine ⟨?_, fun b' hb => by cases hb; exact key⟩
      obtain ⟨j, hj⟩ := key
      exact exec_loop hj
    | scope b =>
      simp only [orunStep] at h
      exact ⟨exec_scope (ih _ _ _ _ _ _ _ h hv).1, fun b hb => (by cases hb)⟩
    | rf f ps asg body =>
      simp only [orunStep] at h
      cases inr with
      | true => cases h
      | false =>
        cases hr rfl
        simp only at h
        split at h
        case h_2 => cases h
        rename_i e1 S1 h1
        cases h
        exact ⟨rfRun_snd hE h1, fun b hb => (by cases hb)⟩
theorem SR.unren {m m' : MM} {ρ : Nat → Nat} {x : SV} {v : Value} (h : SR m (x.ren ρ) v) (hm : ∀ j ∈ x.ids, m' j = m (ρ j)) : SR m' x v := by
  cases x <;> simp only [SR, SV.ren, SV.ids, List.mem_singleton, forall_eq] at h hm ⊢ <;> try exact h
  · rw [hm]; exact h
  · rw [hm]; exact h
  · rw [hm]; exact h
  · rw [hm]; exact h
  · obtain ⟨vs, h1, h2⟩ := h
    refine ⟨vs, h1, ?_⟩
    clear h1
    rename_i f caps
    induction caps generalizing vs with
    | nil => cases vs with
      | nil => trivial
      | cons _ _ => exact h2.elim
    | cons c caps ih => cases vs with
      | nil => exact h2.elim
      | cons u us =>
        obtain ⟨⟨mb, b, e1, e2⟩, h4⟩ := h2
        exact ⟨⟨mb, b, by rw [hm c (by simp)]; exact e1, e2⟩, ih (fun j hj => hm j (by simp [hj])) us h4⟩
  · rw [hm]; exact h
theorem All2.unren {m m' : MM} {ρ : Nat → Nat} : ∀ {l : List SV} {vs : List Value}, All2 (SR m) (l.map (SV.ren ρ)) vs → (∀ j ∈ l.flatMap SV.ids, m' j = m (ρ j)) → All2 (SR m') l vs
  | [], [], _, _ => trivial
  | [], _ :: _, h, _ => h.elim
  | _ :: _, [], h, _ => h.elim
  | x :: l, v :: vs, ⟨h1, h2⟩, hm => ⟨SR.unren h1 fun j hj => hm j (by simp [hj]), All2.unren h2 fun j hj => hm j (by
      rw [List.flatMap_cons, List.mem_append]; exact .inr hj)⟩
theorem AR.unren {m m' : MM} {ρ : Nat → Nat} {x : AV} {v : Value} (h : AR m (x.ren ρ) v) (hm : ∀ j ∈ x.ids, m' j = m (ρ j)) : AR m' x v := by
  cases x with
  | s x => exact SR.unren h hm
  | pb pre n f => obtain ⟨cs, e, vs, a, b, c⟩ := h; exact ⟨cs, e, vs, All2.unren a hm, b, c⟩
theorem TR.unren {m m' : MM} {ρ : Nat → Nat} {x : TV} {v : Value} (h : TR m (x.ren ρ) v) (hm : ∀ j ∈ x.ids, m' j = m (ρ j)) : TR m' x v := by
  cases x with
  | av x => exact AR.unren h hm
  | tup l =>
    obtain ⟨vs, e, hv⟩ := h
    refine ⟨vs, e, ?_⟩
    clear e
    induction l generalizing vs with
    | nil => cases vs with
      | nil => trivial
      | cons _ _ => exact hv.elim
    | cons x l ih => cases vs with
      | nil => exact hv.elim
      | cons u us =>
        simp only [TV.ids, List.flatMap_cons, List.mem_append] at hm ih
        exact ⟨AR.unren hv.1 fun j hj => hm j (.inl hj), ih (fun j hj => hm j (.inr hj)) us hv.2⟩
theorem OR.unren {cmp : Cmp} {m m' : MM} {ρ : Nat → Nat} {mb : MB} {o : AO} {w : World} (h : OR cmp m mb (o.ren ρ) w) (hm : ∀ j ∈ o.ids, m' j = m (ρ j)) (hl : o.isLoop = false) : OR cmp m' mb o w := by
  cases o <;> simp only [OR, AO.ren] at h ⊢ <;> try exact h
  · obtain ⟨b, cs, h1, h2, h3, vs, a, b', c⟩ := h
    exact ⟨b, cs, h1, h2, h3, vs, All2.unren a hm, b', c⟩
  · cases hl
/-- a state told by lists: its slots, its objects (ids 0, 1, ..), which of the other state's ids these are -/
def mkSt (ts : List (Nat × Slot)) (hs : List HO) (nx : Nat) (df : List Nat) : St := ⟨.al ts, .al (hs.zipIdx.map fun p => (p.2, p.1)), nx, df⟩
theorem alGet_zipIdx : ∀ (l : List HO) (n j : Nat), alGet ((l.zipIdx n).map fun p => (p.2, p.1)) j = if n ≤ j then l[j - n]? else none
  | [], n, j => by simp [alGet_nil]
  | x :: l, n, j => by
    rw [List.zipIdx_cons, List.map_cons, alGet_cons, alGet_zipIdx l (n + 1) j]
    by_cases h : n = j
    · subst h
      simp
    · rw [beqF h, cond_false]
      by_cases h2 : n + 1 ≤ j
      · rw [if_pos h2, if_pos (by omega), show j - n = (j - (n + 1)) + 1 by omega]
        rfl
      · rw [if_neg h2, if_neg (by omega)]
theorem mkSt_hp (ts : List (Nat × Slot)) (hs : List HO) (nx : Nat) (df : List Nat) (j : Nat) : (mkSt ts hs nx df).hp.get j = hs[j]? := by
  show alGet _ j = _
  rw [alGet_zipIdx]
  simp
def TV.idsLt (n : Nat) (x : TV) : Bool := x.ids.all fun j => Nat.blt j n
def AO.idsLt (n : Nat) (x : AO) : Bool := x.ids.all fun j => Nat.blt j n
def nodupB : List Nat → Bool
  | [] => true
  | x :: l => !(l.any (Nat.beq x)) && nodupB l
theorem nodupB_spec : ∀ {l : List Nat}, nodupB l = true → l.Nodup
  | [], _ => List.nodup_nil
  | x :: l, h => by
    simp only [nodupB, Bool.and_eq_true, Bool.not_eq_true', ← Bool.not_eq_true, any_beq] at h
    exact List.nodup_cons.2 ⟨h.1, nodupB_spec h.2⟩
def keepsK : Nat → List Nat → Nat → Bool
  | 0, _, _ => true
  | k + 1, [], _ => false
  | k + 1, x :: l, i => Nat.beq x i && keepsK k l (i + 1)
theorem keepsK_spec : ∀ {k : Nat} {l : List Nat} {i : Nat}, keepsK k l i = true → ∀ j, j < k → l[j]? = some (i + j)
  | 0, _, _, _, j, h => by omega
  | k + 1, [], _, h, _, _ => by simp [keepsK] at h
  | k + 1, x :: l, i, h, j, hj => by
    simp only [keepsK, Bool.and_eq_true] at h
    cases j with
    | zero => rw [Nat.eq_of_beq_eq_true h.1]; rfl
    | succ j =>
      have := keepsK_spec h.2 j (by omega)
      simp only [List.getElem?_cons_succ, this]
      congr 1
      omega
/-- the shape's own conditions, which hold of the state told, whatever its unknowns -/
def mkOk (ts : List (Nat × Slot)) (hs : List HO) (ids : List Nat) (kp : Nat) : Bool :=
  ts.all (fun p => p.2.v.idsLt hs.length) && hs.all (fun h => h.o.idsLt hs.length && !h.o.isLoop) && nodupB ids && Nat.beq ids.length hs.length && keepsK kp ids 0
theorem weak_mk {S : St} {ts : List (Nat × Slot)} {hs : List HO} {nx : Nat} {df : List Nat} {ids : List Nat} (hok : mkOk ts hs ids kp = true)
    (hts : ∀ p ∈ ts, S.sl.get p.1 = some ⟨p.2.c, p.2.v.ren fun j => ids.getD j 0⟩) (hhs : ∀ j h, hs[j]? = some h → S.hp.get (ids.getD j 0) = some (h.ren fun j => ids.getD j 0)) (hdf : S.df = df.map fun j => ids.getD j 0) (hdl : ∀ j ∈ df, j < hs.length) :
    Weak T kp S (mkSt ts hs nx df) := by
  intro ctx nt m a w hR
  simp only [mkOk, Bool.and_eq_true] at hok
  obtain ⟨⟨⟨⟨h1, h2⟩, h3⟩, h4⟩, h5⟩ := hok
  have hlen := Nat.eq_of_beq_eq_true h4
  have hnod := nodupB_spec h3
  have hget : ∀ j, j < hs.length → ids[j]? = some (ids.getD j 0) := fun j hj => by
    have : j < ids.length := by omega
    simp [this]
  let m2 : MM := fun j => if j < hs.length then m (ids.getD j 0) else none
  have hm2 : ∀ j, j < hs.length → m2 j = m (ids.getD j 0) := fun j hj => by simp only [m2, if_pos hj]
  refine ⟨m2, fun id mb hid hmb => ?_, fun t s hts' => ?_, hR.size, ?_, ?_⟩
  · have := keepsK_spec h5 id hid
    have hl : id < ids.length := (List.getElem?_eq_some_iff.1 this).1
    rw [hm2 id (by omega)]
    have e : ids.getD id 0 = id := by rw [List.getD_eq_getElem?_getD, this]; simp
    rw [e]
    exact hmb
  · have hm := alGet_mem hts'
    have := hts _ hm
    have hs1 := hR.slot t _ this
    refine ⟨fun c => TR.unren (hs1.1 c) fun j hj => hm2 j ?_, hs1.2⟩
    have := List.all_eq_true.1 (List.all_eq_true.1 h1 _ hm) j hj
    exact Nat.le_of_ble_eq_true this
  · refine ⟨fun id ho hid => ?_, fun id id' ho ho' mb mb' b hne hid hid' hro hl hl' hm hm' hb => ?_, fun id hid => ?_, hR.heap.os, hR.heap.tape, hR.heap.output, hR.heap.size, hR.heap.same0⟩
    · rw [mkSt_hp] at hid
      have hlt := (List.getElem?_eq_some_iff.1 hid).1
      obtain ⟨mb, g1, g2, g3, g4⟩ := hR.heap.obj _ _ (hhs id ho hid)
      have hin := List.all_eq_true.1 h2 ho (List.mem_of_getElem? hid)
      simp only [Bool.and_eq_true, Bool.not_eq_true'] at hin
      have hlive : (ho.ren fun j => ids.getD j 0).live = ho.live := by
        unfold HO.live HO.ren
        cases ho.o <;> rfl
      exact ⟨mb, by rw [hm2 id hlt]; exact g1, OR.unren g2 (fun j hj => hm2 j (Nat.le_of_ble_eq_true (List.all_eq_true.1 hin.1 j hj))) hin.2, fun hl => g3 (by rw [hlive]; exact hl), fun hro hl => g4 hro (by rw [hlive]; exact hl)⟩
    · rw [mkSt_hp] at hid hid'
      have hlt := (List.getElem?_eq_some_iff.1 hid).1
      have hlt' := (List.getElem?_eq_some_iff.1 hid').1
      rw [hm2 id hlt] at hm
      rw [hm2 id' hlt'] at hm'
      have hlive : ∀ ho : HO, (ho.ren fun j => ids.getD j 0).live = ho.live := by
        intro ho
        unfold HO.live HO.ren
        cases ho.o <;> rfl
      refine hR.heap.dist _ _ _ _ mb mb' b (fun e => hne ?_) (hhs id ho hid) (hhs id' ho' hid') hro (by rw [hlive]; exact hl) (by rw [hlive]; exact hl') hm hm' hb
      have e1 := hget id hlt
      have e2 := hget id' hlt'
      rw [← e] at e2
      exact (List.getElem?_inj (by omega) hnod).1 (e1.trans e2.symm)
    · rw [mkSt_hp, List.getElem?_eq_none_iff] at hid
      simp only [m2, if_neg (by omega : ¬ id < hs.length)]
  · show All2 _ df a.defers
    have := hR.df
    rw [hdf] at this
    revert this hdl
    generalize a.defers = ds
    clear hdf
    induction df generalizing ds with
    | nil => intro _ h; cases ds with
      | nil => trivial
      | cons _ _ => exact h.elim
    | cons x df ih =>
      intro hd h
      cases ds with
      | nil => exact h.elim
      | cons d ds =>
        obtain ⟨⟨mb, b, e1, e2⟩, h2⟩ := h
        exact ⟨⟨mb, b, by rw [hm2 x (hd x (by simp))]; exact e1, e2⟩, ih ds (fun j hj => hd j (by simp [hj])) h2⟩
/-- what is looked at, of a run -/
noncomputable def view (ts ids : List Nat) (q : Option (Bool × XE × St × List Bool)) : Option (Bool × XE × List (Option Slot) × List (Option HO) × List Nat) :=
  q.map fun q => (q.1, q.2.1, ts.map q.2.2.1.sl.get, ids.map q.2.2.1.hp.get, q.2.2.1.df)
theorem exec_view (hE : EnvOK P T Γ) {inr : Bool} (hr : inr = false → r = none) {k : Nat} {c : XC} {S : St} {os : List Bool} {ob : Bool} {e : XE} {ts : List (Nat × Slot)} {hs : List HO} {nx : Nat} {df ids : List Nat}
    (hv : view (ts.map (·.1)) ids (orun Γ inr k c S os) = some (ob, e, ts.map (fun p => some ⟨p.2.c, p.2.v.ren fun j => ids.getD j 0⟩), hs.map (fun h => some (h.ren fun j => ids.getD j 0)), df.map fun j => ids.getD j 0))
    (hob : ob = true) (hok : mkOk ts hs ids kp = true) (hdl : df.all (fun j => Nat.blt j hs.length) = true) : Exec P T r nt kp c S e (mkSt ts hs nx df) := by
  unfold view at hv
  obtain ⟨⟨v, e1, S1, os1⟩, h1, h2⟩ := Option.map_eq_some_iff.1 hv
  simp only [Prod.mk.injEq] at h2
  obtain ⟨rfl, rfl, h3, h4, h5⟩ := h2
  refine (orun_snd hE hr k c S S1 os os1 e1 v h1 hob).1.post (weak_mk (ids := ids) hok (fun p hp => ?_) (fun j h hj => ?_) h5 fun j hj => Nat.le_of_ble_eq_true (List.all_eq_true.1 hdl j hj))
  · rw [List.map_map] at h3
    exact List.map_inj_left.1 h3 p hp
  · have hok' := hok
    simp only [mkOk, Bool.and_eq_true] at hok'
    have hlen := Nat.eq_of_beq_eq_true hok'.1.2
    have hlt : j < hs.length := (List.getElem?_eq_some_iff.1 hj).1
    have := congrArg (fun l => l[j]?) h4
    simp only [List.getElem?_map, hj, Option.map_some] at this
    have e : ids[j]? = some (ids.getD j 0) := by
      have : j < ids.length := by omega
      simp [this]
    rw [e] at this
    simpa using this
end
end Go.Proofs.Yteekkjfjpoaihaa.Eng
namespace Go.Proofs.Yteekkjfjpoaihaa.Eng
open Go
/-- objects that are only read, as ids 0, 1, .. -/
def RoView (cmp : Cmp) (m0 : MM) (hs : List HO) (w : World) : Prop :=
  (∀ j ho, hs[j]? = some ho → ho.ro = true ∧ ∃ mb, m0 j = some mb ∧ OR cmp m0 mb ho.o w ∧ ∀ b, mb.b = some b → b < w.heap.size) ∧ ∀ j, hs.length ≤ j → m0 j = none
def slotsOf (args : List AV) : List (Nat × Slot) := args.zipIdx.map fun p => (p.2, ⟨true, .av p.1⟩)
def startSt (args : List AV) (hs : List HO) : St := mkSt (slotsOf args) hs hs.length []
theorem alGet_slots : ∀ (l : List AV) (n t : Nat) (s : Slot), alGet ((l.zipIdx n).map fun p => (p.2, (⟨true, .av p.1⟩ : Slot))) t = some s → n ≤ t ∧ argSl l (t - n) = some s
  | [], n, t, s, h => by simp [alGet_nil] at h
  | x :: l, n, t, s, h => by
    rw [List.zipIdx_cons, List.map_cons, alGet_cons] at h
    by_cases e : n = t
    · subst e
      rw [beqT rfl, cond_true] at h
      exact ⟨Nat.le_refl _, by rw [Nat.sub_self]; exact h⟩
    · rw [beqF e, cond_false] at h
      obtain ⟨h1, h2⟩ := alGet_slots l (n + 1) t s h
      refine ⟨by omega, ?_⟩
      rw [show t - n = (t - (n + 1)) + 1 by omega]
      exact h2
theorem startSt_slot {args : List AV} {hs : List HO} {t : Nat} {s : Slot} (h : (startSt args hs).sl.get t = some s) : argSl args t = some s := by
  have := (alGet_slots args 0 t s h).2
  simpa using this
theorem RoView.hrel {cmp : Cmp} {m0 : MM} {hs : List HO} {w : World} (h : RoView cmp m0 hs w) (args : List AV) : HRel cmp ⟨w, fun _ => False⟩ m0 (startSt args hs).hp.get w where
  obj := fun id ho hid => by
    unfold startSt at hid
    rw [mkSt_hp] at hid
    obtain ⟨h1, mb, h2, h3, h4⟩ := h.1 id ho hid
    exact ⟨mb, h2, h3, fun _ => h4, fun hro => by rw [h1] at hro; cases hro⟩
  dist := fun id id' ho ho' mb mb' b hne hid hid' hro => by
    unfold startSt at hid
    rw [mkSt_hp] at hid
    rw [(h.1 id ho hid).1] at hro; cases hro
  dom := fun id hid => by
    unfold startSt at hid
    rw [mkSt_hp, List.getElem?_eq_none_iff] at hid
    exact h.2 id hid
  os := rfl
  tape := rfl
  output := rfl
  size := Nat.le_refl _
  same0 := fun _ _ _ => rfl
section
variable {P : Program} {T : Tab} {Γ : Cal → Option Spec}
/-- what a run of the function's body over a small heap must show, for a call that turns nothing that was there -/
structure Shown (P : Program) (T : Tab) (x : XFn) (m0 : MM) (hs : List HO) (args0 : List AV) (vals : List Value) (w : World) (val : TV) (news : List HO) (base : Nat) : Prop where
  view : RoView (compC T) m0 hs w
  args : All2 (AR m0) args0 vals
  len : args0.length ≤ x.nt
  run : ∃ (S' : St) (ex : XE) (tv : TV) (N : List Nat), Exec P T none x.nt 0 x.body (startSt args0 hs) ex S' ∧ (ex = .n ∨ ex = .r) ∧ dfOk S'.hp.get S'.df = true ∧ resV S'.sl.get (leaveH S'.hp.get S'.df) x.res = some (true, tv) ∧
    nodupB N = true ∧ (∀ j ∈ tv.ids, j ∈ N) ∧ val = tv.ren (renN N base) ∧ news.length = N.length ∧
    ∀ (k id : Nat), N[k]? = some id → ∃ ho, leaveH S'.hp.get S'.df id = some ho ∧ ho.ro = false ∧ ho.live = true ∧ ho.o.isLoop = false ∧ (∀ j ∈ ho.o.ids, j ∈ N) ∧ news[k]? = some (ho.ren (renN N base))
theorem spec_gen (hT : TOK P T) {f : FuncId} {x : XFn} (hx : FunOK P T f x) {sp : Spec}
    (h : ∀ (ctx : Ctx) (m : MM) (h : Nat → Option HO) (w : World) (args : List AV) (vals : List Value) (base : Nat) (e : Eff), HRel (compC T) ctx m h w → All2 (AR m) args vals → sp.run args h base = some e → e.vc = true →
      e.upd = [] ∧ ∃ m0 hs args0, Shown P T x m0 hs args0 vals w e.val e.news base) : SpecOK P (compC T) f sp := by
  obtain ⟨_, fn, hf, hxf⟩ := hx
  intro ctx m hh w args vals base e hH hargs hfr hup hr hvc
  obtain ⟨hupd, m0, hs, args0, ⟨hview, ha0, hlen, S', ex, tv, N, hrun, hex, hd, hres, hnd, htv, hval, hnl, hN⟩⟩ := h ctx m hh w args vals base e hH hargs hr hvc
  refine callsIn_exec (kp := 0) hT hf hxf hlen (fun t s => startSt_slot) rfl hrun hex hd hres (hview.hrel args0) ha0 fun v w' m1 _ hv hH1 => ?_
  have hnod := nodupB_spec hnd
  let Nf : Nat → Nat := fun k => N.getD k 0
  have hNf : ∀ k, k < N.length → N[k]? = some (Nf k) := fun k hk => by simp [Nf, hk]
  have hren : ∀ j, j ∈ N → subM m m1 Nf base e.news.length (renN N base j) = m1 j := by
    intro j hjN
    obtain ⟨k, k1, k2⟩ := renN_mem (b := base) hjN
    have hk := (List.getElem?_eq_some_iff.1 k1).1
    rw [k2]
    unfold subM
    rw [if_pos (by omega), show base + k - base = k by omega]
    have := hNf k hk
    rw [k1] at this
    cases this
    rfl
  refine ⟨v, subM m m1 Nf base e.news.length, rfl, by rw [hval]; exact hv.ren fun j hj => hren j (htv j hj), ?_⟩
  rw [hupd]
  have hwb : wbOf m ([] : List (Nat × HO)) = fun _ => False := by
    funext b
    refine propext ⟨?_, fun h => h.elim⟩
    rintro ⟨u, hu, _⟩
    cases hu
  refine sub_stp hH hfr (by rw [hwb]; exact hH1) (N := Nf) ?_ ?_ (fun u hu => by cases hu) (fun u hu => by cases hu) ?_
  · intro i j hi hj hij
    have h2 := hNf i (by omega)
    have h3 := hNf j (by omega)
    rw [← hij] at h3
    exact (List.getElem?_inj (by omega) hnod).1 (h2.trans h3.symm)
  · intro k hk
    obtain ⟨ho, q1, q2, q3, _⟩ := hN k _ (hNf k (by omega))
    exact ⟨ho, q1, q2, q3⟩
  · intro k ho hk
    have hkl := (List.getElem?_eq_some_iff.1 hk).1
    obtain ⟨ho', q1, q2, q3, q4, q5, q6⟩ := hN k _ (hNf k (by omega))
    rw [hk] at q6
    cases q6
    obtain ⟨mb, g1, g2, _⟩ := hH1.obj _ _ q1
    exact ⟨mb, g1, g2.ren (fun j hj => hren j (q5 j hj)) fun hl => by rw [q4] at hl; cases hl⟩
/-- a slice, whatever it is in the caller's eyes, as a row that is only read -/
theorem view_slice {cmp : Cmp} {ctx : Ctx} {m : MM} {h : Nat → Option HO} {w : World} {s : AV} {v : Value} {k : IntKind} {sz n : Nat} {q : List Int} {rd : List Nat} (hH : HRel cmp ctx m h w) (hv : AR m s v) (hs : srcOf (.av s) h k sz = some (true, q, n, rd)) :
    ∃ mb : MB, (∀ m', OR cmp m' mb (.xvec k sz q) w) ∧ (∀ b, mb.b = some b → b < w.heap.size) ∧ (∀ (m' : MM) id, m' id = some mb → SR m' (.sl id 0 sz n) v) ∧ q.length = n * sz := by
  cases s with
  | pb pre n f => simp [srcOf] at hs
  | s x =>
  cases x <;> first | (simp [srcOf] at hs; done) | skip
  · simp only [srcOf, Option.some.injEq, Prod.mk.injEq] at hs
    obtain ⟨_, rfl, rfl, _⟩ := hs
    refine ⟨⟨none, 0, 0⟩, fun m' => .inl ⟨rfl, rfl, rfl⟩, fun b hb => (by cases hb), fun m' id hm => ⟨_, hm, Nat.le_refl _, .inl ⟨rfl, hv, rfl, rfl, rfl⟩⟩, by simp⟩
  · rename_i id off sz1 len
    simp only [srcOf] at hs
    split at hs
    case isFalse => cases hs
    rename_i hsz
    subst hsz
    have key : ∀ l : List Int, (∃ mb, m id = some mb ∧ ((mb.b = none ∧ l = [] ∧ mb.cap = 0) ∨ ∃ b, mb.b = some b ∧ b < w.heap.size ∧ ∀ j, j < l.length → w.cell? ⟨b, mb.base + j, none⟩ = some (.int k (l.getD j 0)))) →
        (off + len) * sz1 ≤ l.length → ∃ mb : MB, (∀ m', OR cmp m' mb (.xvec k sz1 ((l.drop (off * sz1)).take (len * sz1))) w) ∧ (∀ b, mb.b = some b → b < w.heap.size) ∧ (∀ (m' : MM) id, m' id = some mb → SR m' (.sl id 0 sz1 len) v) ∧ ((l.drop (off * sz1)).take (len * sz1)).length = len * sz1 := by
      intro l ⟨mb, hmb, hor⟩ hle
      have hlen : ((l.drop (off * sz1)).take (len * sz1)).length = len * sz1 := by
        rw [List.length_take, List.length_drop]
        rw [Nat.add_mul] at hle
        omega
      obtain ⟨mb', hm', hcap, hsr⟩ := hv
      rw [hmb] at hm'
      cases hm'
      rcases hor with ⟨hb, hl, hc⟩ | ⟨b, hb, hlt, hcell⟩
      · rcases hsr with ⟨_, rfl, rfl, rfl, _⟩ | ⟨b, o, hb', _⟩
        · refine ⟨⟨none, 0, 0⟩, fun m' => .inl ⟨rfl, by simp, rfl⟩, fun b hb => (by cases hb), fun m' id hm => ⟨_, hm, Nat.le_refl _, .inl ⟨rfl, rfl, rfl, rfl, rfl⟩⟩, hlen⟩
        · rw [hb] at hb'; cases hb'
      · rcases hsr with ⟨hb', _⟩ | ⟨b', o, hb', rfl, ho⟩
        · rw [hb] at hb'; cases hb'
        · rw [hb] at hb'
          cases hb'
          refine ⟨⟨some b, o, mb.cap - off⟩, fun m' => .inr ⟨b, rfl, fun j hj => ?_⟩, fun b' hb' => (by cases hb'; exact hlt), fun m' id hm => ⟨_, hm, by simp only; omega, .inr ⟨b, o, rfl, by simp, .inr (by simp)⟩⟩, hlen⟩
          rw [hlen] at hj
          have hlp : 0 < len := by
            rcases Nat.eq_zero_or_pos len with h0 | h0
            · subst h0; simp at hj
            · exact h0
          have ho' : o = mb.base + off * sz1 := ho.resolve_left fun ⟨h0, _⟩ => by omega
          subst ho'
          rw [Nat.add_mul] at hle
          have := hcell (off * sz1 + j) (by omega)
          rw [show mb.base + off * sz1 + j = mb.base + (off * sz1 + j) by omega, this]
          congr 2
          simp only [List.getD_eq_getElem?_getD]
          rw [List.getElem?_take_of_lt hj, List.getElem?_drop]
    split at hs
    · rename_i ro ty k' szo l hid
      split at hs
      case isFalse => cases hs
      rename_i hk
      subst hk
      simp only [Option.some.injEq, Prod.mk.injEq, decide_eq_true_eq] at hs
      obtain ⟨hle, rfl, rfl, _⟩ := hs
      obtain ⟨mb, h1, h2, h3, _⟩ := hH.obj id _ hid
      refine key l ⟨mb, h1, ?_⟩ hle
      rcases h2 with h2 | ⟨b, cur, e1, e2, e3, e4, e5, e6⟩
      · exact .inl h2
      · refine .inr ⟨b, e1, h3 rfl b e1, fun j hj => ?_⟩
        rw [e2, Nat.zero_add]
        have := e6 j hj
        simp [World.cell?, e3, this]
    · rename_i ro k' szo l hid
      split at hs
      case isFalse => cases hs
      rename_i hk
      subst hk
      simp only [Option.some.injEq, Prod.mk.injEq, decide_eq_true_eq] at hs
      obtain ⟨hle, rfl, rfl, _⟩ := hs
      obtain ⟨mb, h1, h2, h3, _⟩ := hH.obj id _ hid
      refine key l ⟨mb, h1, ?_⟩ hle
      rcases h2 with h2 | ⟨b, e1, e2⟩
      · exact .inl h2
      · exact .inr ⟨b, e1, h3 rfl b e1, e2⟩
    · cases hs
end
end Go.Proofs.Yteekkjfjpoaihaa.Eng

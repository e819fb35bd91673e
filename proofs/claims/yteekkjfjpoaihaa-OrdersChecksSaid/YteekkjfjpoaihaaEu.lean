/- The engine, part 20: the runner; calls and rounds run in place, over the objects that they can reach. -/
import Derived.Test.YteekkjfjpoaihaaEs
set_option linter.all false
namespace Go.Proofs.Yteekkjfjpoaihaa.Eng
open Go

/-! ### the runner -/

noncomputable def rfRun (Γ : Cal → Option Spec) (f : XO) (ps : List Nat) (asg body : XC) (S : St) : Option (XE × St) :=
  match evalX S.sl.get f with
  | ⟨true, .av (.s (.fn fid caps))⟩ =>
    match (S.hp.get S.nx).isNone, (S.hp.get (S.nx + 1)).isNone with
    | true, true => match Γ (.f fid) with
      | some sp => match sp.run (.s (.yield (S.nx + 1)) :: capArgs caps) (rfH S ps asg body).get (S.nx + 2) with
        | some e => match e.vc, updOk (rfH S ps asg body).get e.upd, newsOk (rfH S ps asg body).get (S.nx + 2) e.news with
          | true, true, true => match (((rfH S ps asg body).setAll e.upd).setNews (S.nx + 2) e.news).get (S.nx + 1) with
            | some ⟨false, .loop _ _ _ _ st⟩ => match pjExit st with
              | some ex => some (ex, rfS S ps asg body e)
              | none => none
            | _ => none
          | _, _, _ => none
        | none => none
      | none => none
    | _, _ => none
  | _ => none

noncomputable def crunStep (Γ : Cal → Option Spec) (inr : Bool) (rec : XC → St → Option (XE × St)) (c : XC) (S : St) : Option (XE × St) :=
  match c with
    | .skip => some (.n, S)
    | .label _ => some (.n, S)
    | .ret => some (.r, S)
    | .exit id => some (.x id, S)
    | .reg ops tot => match xops Γ S.nx ops S with
      | some (true, S', _) => some (.n, { S' with nx := S'.nx + tot })
      | _ => none
    | .regD ops tot chk => match xops Γ S.nx ops S with
      | some (true, S', E) => match chk.all (okAt E) with
        | true => some (.n, { S' with nx := S'.nx + tot })
        | false => none
      | _ => none
    | .seq a b => match rec a S with
      | some (.n, S1) => rec b S1
      | some (e, S1) => some (e, S1)
      | none => none
    | .cond c a b => match evalX S.sl.get c with
      | ⟨true, .av (.s (.bool t))⟩ => match t with
        | true => rec a S
        | false => rec b S
      | _ => none
    | .block id b => match rec b S with
      | some (e, S1) => some (e.unblock id, S1)
      | none => none
    | .loop b => match rec b S with
      | some (.n, S1) => rec (.loop b) S1
      | some (e, S1) => some (e, S1)
      | none => none
    | .scope b => rec b S
    | .rf f ps asg body => match inr with
      | true => none
      | false => rfRun Γ f ps asg body S

noncomputable def crun (Γ : Cal → Option Spec) (inr : Bool) (k : Nat) : XC → St → Option (XE × St) := Nat.rec (fun _ _ => none) (fun _ ih c S => crunStep Γ inr ih c S) k
theorem crun_zero (Γ : Cal → Option Spec) (inr : Bool) (c : XC) (S : St) : crun Γ inr 0 c S = none := rfl
theorem crun_succ (Γ : Cal → Option Spec) (inr : Bool) (k : Nat) (c : XC) (S : St) : crun Γ inr (k + 1) c S = crunStep Γ inr (crun Γ inr k) c S := rfl

section
variable {P : Program} {T : Tab} {r : Option Nat} {Γ : Cal → Option Spec} {nt kp : Nat}

theorem rfRun_snd (hE : EnvOK P T Γ) {f : XO} {ps : List Nat} {asg body : XC} {S S' : St} {e : XE} (h : rfRun Γ f ps asg body S = some (e, S')) : Exec P T none nt kp (.rf f ps asg body) S e S' := by
  unfold rfRun at h
  split at h
  case h_2 => cases h
  rename_i fid caps hf
  split at h
  case h_2 => cases h
  rename_i hn1 hn2
  split at h
  case h_2 => cases h
  rename_i sp hsp
  split at h
  case h_2 => cases h
  rename_i ef hrun
  split at h
  case h_2 => cases h
  rename_i h1 h2 h3
  split at h
  case h_2 => cases h
  rename_i hl
  split at h
  case h_2 => cases h
  rename_i ex hex
  cases h
  exact exec_rf hE hf hn1 hn2 hsp hrun h1 h2 h3 hl hex

theorem crun_snd (hE : EnvOK P T Γ) {inr : Bool} (hr : inr = false → r = none) : ∀ (k : Nat) (c : XC) (S S' : St) (e : XE), crun Γ inr k c S = some (e, S') →
    Exec P T r nt kp c S e S' ∧ ∀ b, c = .loop b → ∃ j, LoopX (Exec P T r nt kp b) j S e S' := by
  intro k
  induction k with
  | zero => intro c S S' e h; simp [crun_zero] at h
  | succ k ih =>
    intro c S S' e h
    cases c with
    | skip => simp only [crun_succ, crunStep] at h; cases h; exact ⟨exec_skip, fun b hb => (by cases hb)⟩
    | label l => simp only [crun_succ, crunStep] at h; cases h; exact ⟨exec_label, fun b hb => (by cases hb)⟩
    | ret => simp only [crun_succ, crunStep] at h; cases h; exact ⟨exec_ret, fun b hb => (by cases hb)⟩
    | exit id => simp only [crun_succ, crunStep] at h; cases h; exact ⟨exec_exit, fun b hb => (by cases hb)⟩
    | reg ops tot =>
      simp only [crun_succ, crunStep] at h
      split at h
      case h_2 => cases h
      rename_i S1 E hx
      cases h
      exact ⟨exec_reg hE hx, fun b hb => (by cases hb)⟩
    | regD ops tot chk =>
      simp only [crun_succ, crunStep] at h
      split at h
      case h_2 => cases h
      rename_i S1 E hx
      split at h
      case h_2 => cases h
      rename_i hk
      cases h
      exact ⟨exec_regD hE hx hk, fun b hb => (by cases hb)⟩
    | seq a b =>
      simp only [crun_succ, crunStep] at h
      refine ⟨?_, fun b hb => (by cases hb)⟩
      split at h
      · rename_i S1 h1
        exact exec_seq (ih _ _ _ _ h1).1 (ih _ _ _ _ h).1
      · rename_i e1 S1 hne h1
        cases h
        refine exec_seq_x (ih _ _ _ _ h1).1 ?_
        rintro rfl
        exact hne rfl
      · cases h
    | cond c a b =>
      simp only [crun_succ, crunStep] at h
      refine ⟨?_, fun b hb => (by cases hb)⟩
      split at h
      case h_2 => cases h
      rename_i t ht
      cases t with
      | true => exact exec_cond ht (ih _ _ _ _ h).1
      | false => exact exec_cond ht (ih _ _ _ _ h).1
    | block id b =>
      simp only [crun_succ, crunStep] at h
      refine ⟨?_, fun b hb => (by cases hb)⟩
      split at h
      case h_2 => cases h
      rename_i e1 S1 h1
      cases h
      exact exec_block (ih _ _ _ _ h1).1
    | loop b =>
      simp only [crun_succ, crunStep] at h
      have key : ∃ j, LoopX (Exec P T r nt kp b) j S e S' := by
        split at h
        · rename_i S1 h1
          obtain ⟨j, hj⟩ := (ih _ _ _ _ h).2 b rfl
          exact ⟨j + 1, .step (ih _ _ _ _ h1).1 hj⟩
        · rename_i e1 S1 hne h1
          cases h
          refine ⟨0, .done (ih _ _ _ _ h1).1 ?_⟩
          rintro rfl
          exact hne rfl
        · cases h
      refine ⟨?_, fun b' hb => by cases hb; exact key⟩
      obtain ⟨j, hj⟩ := key
      exact exec_loop hj
    | scope b =>
      simp only [crun_succ, crunStep] at h
      exact ⟨exec_scope (ih _ _ _ _ h).1, fun b hb => (by cases hb)⟩
    | rf f ps asg body =>
      simp only [crun_succ, crunStep] at h
      cases inr with
      | true => cases h
      | false =>
        cases hr rfl
        exact ⟨rfRun_snd hE h, fun b hb => (by cases hb)⟩

end

/-! ### which ids a thing names -/

def SV.ids : SV → List Nat
  | .ptr id _ _ => [id]
  | .sl id _ _ _ => [id]
  | .vw id _ _ _ => [id]
  | .mp id => [id]
  | .fn _ caps => caps
  | .yield id => [id]
  | _ => []
def SV.ren (ρ : Nat → Nat) : SV → SV
  | .ptr id b o => .ptr (ρ id) b o
  | .sl id o s l => .sl (ρ id) o s l
  | .vw id o s l => .vw (ρ id) o s l
  | .mp id => .mp (ρ id)
  | .fn f caps => .fn f (caps.map ρ)
  | .yield id => .yield (ρ id)
  | x => x
def AV.ids : AV → List Nat
  | .s x => x.ids
  | .pb pre _ _ => pre.flatMap SV.ids
def AV.ren (ρ : Nat → Nat) : AV → AV
  | .s x => .s (x.ren ρ)
  | .pb pre n f => .pb (pre.map (SV.ren ρ)) n f
def TV.ids : TV → List Nat
  | .av x => x.ids
  | .tup l => l.flatMap AV.ids
def TV.ren (ρ : Nat → Nat) : TV → TV
  | .av x => .av (x.ren ρ)
  | .tup l => .tup (l.map (AV.ren ρ))

def Tr.vals {α : Type} : Tr α → List α
  | .nil => []
  | .node v l r => v.toList ++ (l.vals ++ r.vals)
def Sto.vals {α : Type} : Sto α → List α
  | .al l => l.map (·.2)
  | .tr t => t.vals

def AO.ids : AO → List Nat
  | .row _ pre _ _ => pre.flatMap SV.ids
  | .loop sl _ _ _ _ => sl.vals.flatMap fun s => s.v.ids
  | _ => []
def AO.ren (ρ : Nat → Nat) : AO → AO
  | .row ty pre n f => .row ty (pre.map (SV.ren ρ)) n f
  | o => o
def AO.isLoop : AO → Bool
  | .loop .. => true
  | _ => false
def HO.ren (ρ : Nat → Nat) (h : HO) : HO := ⟨h.ro, h.o.ren ρ⟩

theorem Tr.vals_get {α : Type} : ∀ {t : Tr α} {i : Nat} {x : α}, t.get i = some x → x ∈ t.vals
  | .nil, i, x, h => by simp [Tr.get_nil] at h
  | .node v l r, i, x, h => by
    simp only [Tr.get_node] at h
    simp only [Tr.vals, List.mem_append, Option.mem_toList]
    cases h0 : Nat.beq i 0 with
    | true => rw [h0, cond_true] at h; exact .inl h
    | false =>
      rw [h0, cond_false] at h
      cases h1 : Nat.beq (i % 2) 1 with
      | true => rw [h1, cond_true] at h; exact .inr (.inl (Tr.vals_get h))
      | false => rw [h1, cond_false] at h; exact .inr (.inr (Tr.vals_get h))

theorem alGet_mem {α : Type} : ∀ {l : List (Nat × α)} {i : Nat} {x : α}, alGet l i = some x → (i, x) ∈ l
  | [], _, _, h => by simp [alGet_nil] at h
  | (j, y) :: l, i, x, h => by
    simp only [alGet_cons] at h
    cases hb : Nat.beq j i with
    | true => rw [hb, cond_true] at h; cases h; rw [Nat.eq_of_beq_eq_true hb]; simp
    | false => rw [hb, cond_false] at h; exact List.mem_cons_of_mem _ (alGet_mem h)

theorem Sto.vals_get {α : Type} {s : Sto α} {i : Nat} {x : α} (h : s.get i = some x) : x ∈ s.vals := by
  cases s with
  | al l => exact List.mem_map.2 ⟨(i, x), alGet_mem h, rfl⟩
  | tr t => exact Tr.vals_get h

theorem SR.ren {m m' : MM} {ρ : Nat → Nat} {x : SV} {v : Value} (h : SR m x v) (hm : ∀ j ∈ x.ids, m' (ρ j) = m j) : SR m' (x.ren ρ) v := by
  cases x <;> simp only [SR, SV.ren, SV.ids, List.mem_singleton, forall_eq] at h hm ⊢ <;> try exact h
  · rw [hm]; exact h
  · rw [hm]; exact h
  · rw [hm]; exact h
  · rw [hm]; exact h
  · obtain ⟨vs, h1, h2⟩ := h
    refine ⟨vs, h1, ?_⟩
    clear h1
    rename_i f caps
    induction caps generalizing vs with
    | nil => cases vs with
      | nil => trivial
      | cons _ _ => exact h2.elim
    | cons c caps ih => cases vs with
      | nil => exact h2.elim
      | cons u us =>
        obtain ⟨⟨mb, b, e1, e2⟩, h4⟩ := h2
        exact ⟨⟨mb, b, by rw [hm c (by simp)]; exact e1, e2⟩, ih (fun j hj => hm j (by simp [hj])) us h4⟩
  · rw [hm]; exact h

theorem All2.ren {m m' : MM} {ρ : Nat → Nat} : ∀ {l : List SV} {vs : List Value}, All2 (SR m) l vs → (∀ j ∈ l.flatMap SV.ids, m' (ρ j) = m j) → All2 (SR m') (l.map (SV.ren ρ)) vs
  | [], [], _, _ => trivial
  | [], _ :: _, h, _ => h.elim
  | _ :: _, [], h, _ => h.elim
  | x :: l, v :: vs, ⟨h1, h2⟩, hm => ⟨h1.ren fun j hj => hm j (by simp [hj]), h2.ren fun j hj => hm j (by
      rw [List.flatMap_cons, List.mem_append]; exact .inr hj)⟩

theorem PR.ren {m m' : MM} {ρ : Nat → Nat} {pre : List SV} {n : Nat} {f : Nat → Bool} {cs : List Value} (h : PR m pre n f cs) (hm : ∀ j ∈ pre.flatMap SV.ids, m' (ρ j) = m j) : PR m' (pre.map (SV.ren ρ)) n f cs := by
  obtain ⟨vs, a, b, c⟩ := h
  exact ⟨vs, a.ren hm, b, c⟩

theorem AR.ren {m m' : MM} {ρ : Nat → Nat} {x : AV} {v : Value} (h : AR m x v) (hm : ∀ j ∈ x.ids, m' (ρ j) = m j) : AR m' (x.ren ρ) v := by
  cases x with
  | s x => exact SR.ren h hm
  | pb pre n f => obtain ⟨cs, e, hp⟩ := h; exact ⟨cs, e, hp.ren hm⟩

theorem TR.ren {m m' : MM} {ρ : Nat → Nat} {x : TV} {v : Value} (h : TR m x v) (hm : ∀ j ∈ x.ids, m' (ρ j) = m j) : TR m' (x.ren ρ) v := by
  cases x with
  | av x => exact AR.ren h hm
  | tup l =>
    obtain ⟨vs, e, hv⟩ := h
    refine ⟨vs, e, ?_⟩
    clear e
    induction l generalizing vs with
    | nil => cases vs with
      | nil => trivial
      | cons _ _ => exact hv.elim
    | cons x l ih => cases vs with
      | nil => exact hv.elim
      | cons u us =>
        simp only [TV.ids, List.flatMap_cons, List.mem_append] at hm ih
        exact ⟨AR.ren hv.1 fun j hj => hm j (.inl hj), ih (fun j hj => hm j (.inr hj)) us hv.2⟩

theorem map_fix {α : Type} {f : α → α} : ∀ {l : List α}, (∀ x ∈ l, f x = x) → l.map f = l
  | [], _ => rfl
  | x :: l, h => by rw [List.map_cons, h x (by simp), map_fix fun y hy => h y (by simp [hy])]

theorem SV.ren_id {ρ : Nat → Nat} {x : SV} (h : ∀ j ∈ x.ids, ρ j = j) : x.ren ρ = x := by
  cases x <;> simp only [SV.ren, SV.ids, List.mem_singleton, forall_eq] at h ⊢ <;> try rw [h]
  rw [map_fix h]

theorem AV.ren_id {ρ : Nat → Nat} {x : AV} (h : ∀ j ∈ x.ids, ρ j = j) : x.ren ρ = x := by
  cases x with
  | s x => simp only [AV.ren]; rw [SV.ren_id h]
  | pb pre n f =>
    simp only [AV.ren]
    rw [map_fix fun x hx => SV.ren_id fun j hj => h j (List.mem_flatMap.2 ⟨x, hx, hj⟩)]

theorem TV.ren_id {ρ : Nat → Nat} {x : TV} (h : ∀ j ∈ x.ids, ρ j = j) : x.ren ρ = x := by
  cases x with
  | av x => simp only [TV.ren]; rw [AV.ren_id h]
  | tup l =>
    simp only [TV.ren]
    rw [map_fix fun x hx => AV.ren_id fun j hj => h j (List.mem_flatMap.2 ⟨x, hx, hj⟩)]

theorem SlotR.sub {m m' : MM} {s : Slot} {v : Value} (h : SlotR m s v) (hm : ∀ j ∈ s.v.ids, m' j = m j) : SlotR m' s v := by
  refine ⟨fun c => ?_, h.2⟩
  have := (h.1 c).ren (ρ := fun j => j) hm
  rwa [TV.ren_id fun _ _ => rfl] at this

theorem OR.ren {cmp : Cmp} {m m' : MM} {ρ : Nat → Nat} {mb : MB} {o : AO} {w : World} (h : OR cmp m mb o w) (hm : ∀ j ∈ o.ids, m' (ρ j) = m j) (hl : o.isLoop = true → ∀ j ∈ o.ids, ρ j = j) : OR cmp m' mb (o.ren ρ) w := by
  cases o <;> simp only [OR, AO.ren] at h ⊢ <;> try exact h
  · obtain ⟨b, cs, h1, h2, h3, h4⟩ := h
    exact ⟨b, cs, h1, h2, h3, h4.ren hm⟩
  · rename_i sl ps asg body st
    obtain ⟨b, lo, h1, h2, h3, h4⟩ := h
    refine ⟨b, lo, h1, h2, fun t s hs => (h3 t s hs).sub fun j hj => ?_, h4⟩
    have hj' : j ∈ AO.ids (.loop sl ps asg body st) := List.mem_flatMap.2 ⟨s, Sto.vals_get hs, hj⟩
    have := hm j hj'
    rwa [hl rfl j hj'] at this

theorem OR.sub {cmp : Cmp} {m m' : MM} {mb : MB} {o : AO} {w : World} (h : OR cmp m mb o w) (hm : ∀ j ∈ o.ids, m' j = m j) : OR cmp m' mb o w := by
  have := h.ren (ρ := fun j => j) hm fun _ _ _ => rfl
  have e : o.ren (fun j => j) = o := by
    cases o <;> simp only [AO.ren]
    rw [map_fix fun x hx => SV.ren_id fun _ _ => rfl]
  rwa [e] at this

end Go.Proofs.Yteekkjfjpoaihaa.Eng

/- The engine, part 22: a run over a state with unknowns: which way each test goes is told ahead, and owed; another way to see a state. -/
import Derived.Test.YteekkjfjpoaihaaEv
set_option linter.all false
namespace Go.Proofs.Yteekkjfjpoaihaa.Eng
open Go

noncomputable def xopO (Γ : Cal → Option Spec) (b0 : Nat) (x : XOp) (sl : Nat → Option Slot) (hp : Nat → Option HO) (os : List Bool) : Option (Bool × Ef × List Bool) :=
  match guardC sl x.g with
  | none => none
  | some c =>
    match xi Γ x.x (fun y => (evalX sl y).v) hp (b0 + x.off) with
    | some e =>
      match e.upd, e.news with
      | [], [] => some (!c || (opc sl x.x && e.vc), ⟨x.dst, ⟨c, e.val⟩, [], b0 + x.off, [], bif c then e.rd else some []⟩, os)
      | _, _ => match x.g with
        | none => some (c && (opc sl x.x && e.vc && updOk hp e.upd && newsOk hp (b0 + x.off) e.news), ⟨x.dst, ⟨true, e.val⟩, e.upd, b0 + x.off, e.news, e.rd⟩, os)
        | some _ => match os with
          | true :: os => some (c && (opc sl x.x && e.vc && updOk hp e.upd && newsOk hp (b0 + x.off) e.news), ⟨x.dst, ⟨true, e.val⟩, e.upd, b0 + x.off, e.news, e.rd⟩, os)
          | false :: os => some (!c, ⟨x.dst, ⟨false, anyT⟩, [], b0 + x.off, [], some []⟩, os)
          | [] => none
    | none => match c with
      | false => some (true, ⟨x.dst, ⟨false, anyT⟩, [], b0 + x.off, [], some []⟩, os)
      | true => none

noncomputable def xopsO (Γ : Cal → Option Spec) (b0 : Nat) (l : List XOp) : St → List Bool → Option (Bool × St × List Ef × List Bool) :=
  List.rec (fun S os => some (true, S, [], os)) (fun x _ ih S os => match xopO Γ b0 x S.sl.get S.hp.get os with
    | some (v, e, os') => match ih (S.app e) os' with
      | some (v', S'', l, os'') => some (v && v', S'', e :: l, os'')
      | none => none
    | none => none) l
theorem xopsO_nil (Γ : Cal → Option Spec) (b0 : Nat) (S : St) (os : List Bool) : xopsO Γ b0 [] S os = some (true, S, [], os) := rfl
theorem xopsO_cons (Γ : Cal → Option Spec) (b0 : Nat) (x : XOp) (r : List XOp) (S : St) (os : List Bool) : xopsO Γ b0 (x :: r) S os = (match xopO Γ b0 x S.sl.get S.hp.get os with
    | some (v, e, os') => match xopsO Γ b0 r (S.app e) os' with
      | some (v', S'', l, os'') => some (v && v', S'', e :: l, os'')
      | none => none
    | none => none) := rfl

/-- the run: what is owed, how it ends, the state, what is left of the tellings -/
noncomputable def orunStep (Γ : Cal → Option Spec) (inr : Bool) (rec : XC → St → List Bool → Option (Bool × XE × St × List Bool)) (c : XC) (S : St) (os : List Bool) : Option (Bool × XE × St × List Bool) :=
  match c with
  | .skip => some (true, .n, S, os)
  | .label _ => some (true, .n, S, os)
  | .ret => some (true, .r, S, os)
  | .exit id => some (true, .x id, S, os)
  | .reg ops tot => match xopsO Γ S.nx ops S os with
    | some (v, S', _, os') => some (v, .n, { S' with nx := S'.nx + tot }, os')
    | none => none
  | .regD ops tot chk => match xopsO Γ S.nx ops S os with
    | some (v, S', E, os') => some (v && chk.all (okAt E), .n, { S' with nx := S'.nx + tot }, os')
    | none => none
  | .seq a b => match rec a S os with
    | some (v, .n, S1, os1) => match rec b S1 os1 with
      | some (v', e, S2, os2) => some (v && v', e, S2, os2)
      | none => none
    | some (v, e, S1, os1) => some (v, e, S1, os1)
    | none => none
  | .cond c a b => match evalX S.sl.get c with
    | ⟨cc, .av (.s (.bool t))⟩ => match os with
      | true :: os1 => match rec a S os1 with
        | some (v, e, S1, os2) => some (cc && (t && v), e, S1, os2)
        | none => none
      | false :: os1 => match rec b S os1 with
        | some (v, e, S1, os2) => some (cc && (!t && v), e, S1, os2)
        | none => none
      | [] => none
    | _ => none
  | .block id b => match rec b S os with
    | some (v, e, S1, os1) => some (v, e.unblock id, S1, os1)
    | none => none
  | .loop b => match rec b S os with
    | some (v, .n, S1, os1) => match rec (.loop b) S1 os1 with
      | some (v', e, S2, os2) => some (v && v', e, S2, os2)
      | none => none
    | some (v, e, S1, os1) => some (v, e, S1, os1)
    | none => none
  | .scope b => rec b S os
  | .rf f ps asg body => match inr with
    | true => none
    | false => match rfRun Γ f ps asg body S with
      | some (e, S1) => some (true, e, S1, os)
      | none => none

noncomputable def orun (Γ : Cal → Option Spec) (inr : Bool) (k : Nat) : XC → St → List Bool → Option (Bool × XE × St × List Bool) := Nat.rec (fun _ _ _ => none) (fun _ ih c S os => orunStep Γ inr ih c S os) k
theorem orun_zero (Γ : Cal → Option Spec) (inr : Bool) (c : XC) (S : St) (os : List Bool) : orun Γ inr 0 c S os = none := rfl
theorem orun_succ (Γ : Cal → Option Spec) (inr : Bool) (k : Nat) (c : XC) (S : St) (os : List Bool) : orun Γ inr (k + 1) c S os = orunStep Γ inr (orun Γ inr k) c S os := rfl

section
variable {P : Program} {T : Tab} {r : Option Nat} {Γ : Cal → Option Spec} {nt kp : Nat}

theorem xopO_snd {b0 : Nat} {x : XOp} {sl : Nat → Option Slot} {hp : Nat → Option HO} {os os' : List Bool} {v : Bool} {e : Ef} (h : xopO Γ b0 x sl hp os = some (v, e, os')) (hv : v = true) : xopF Γ b0 x sl hp = some (true, e) := by
  unfold xopO at h
  unfold xopF
  split at h
  · cases h
  · rename_i c hc
    simp only [hc]
    split at h
    · rename_i ef hx
      simp only [hx]
      split at h
      · rename_i h1 h2
        rw [h1, h2]
        simp only [Option.some.injEq, Prod.mk.injEq] at h
        obtain ⟨rfl, rfl, _⟩ := h
        rw [hv]
      · rename_i hne
        have key : ∀ {β : Type} (a b : β), (match ef.upd, ef.news with | [], [] => a | _, _ => b) = b := by
          intro β a b
          split
          · rename_i h1 h2; exact absurd h2 (hne h1)
          · rfl
        split at h
        · simp only [Option.some.injEq, Prod.mk.injEq] at h
          obtain ⟨rfl, rfl, _⟩ := h
          simp only [Bool.and_eq_true] at hv
          obtain ⟨rfl, h3, h4⟩ := hv
          simp only [h3, h4, Bool.and_self]
        · split at h
          · simp only [Option.some.injEq, Prod.mk.injEq] at h
            obtain ⟨rfl, rfl, _⟩ := h
            simp only [Bool.and_eq_true] at hv
            obtain ⟨rfl, h3, h4⟩ := hv
            simp only [h3, h4, Bool.and_self]
          · simp only [Option.some.injEq, Prod.mk.injEq] at h
            obtain ⟨rfl, rfl, _⟩ := h
            simp only [Bool.not_eq_true'] at hv
            subst hv
            split
            · rename_i h1 h2; exact absurd h2 (hne h1)
            · rfl
          · cases h
    · rename_i hx
      simp only [hx]
      split at h
      · simp only [Option.some.injEq, Prod.mk.injEq] at h
        obtain ⟨_, rfl, _⟩ := h
        rfl
      · cases h

theorem xopsO_snd {b0 : Nat} : ∀ {l : List XOp} {S S' : St} {os os' : List Bool} {v : Bool} {E : List Ef}, xopsO Γ b0 l S os = some (v, S', E, os') → v = true → xops Γ b0 l S = some (true, S', E)
  | [], S, S', os, os', v, E, h, _ => by
    simp only [xopsO_nil, Option.some.injEq, Prod.mk.injEq] at h
    obtain ⟨_, rfl, rfl, _⟩ := h
    rfl
  | x :: l, S, S', os, os', v, E, h, hv => by
    rw [xopsO_cons] at h
    split at h
    case h_2 => cases h
    rename_i v1 e os1 hx
    split at h
    case h_2 => cases h
    rename_i v2 S2 l2 os2 hr
    simp only [Option.some.injEq, Prod.mk.injEq] at h
    obtain ⟨rfl, rfl, rfl, _⟩ := h
    simp only [Bool.and_eq_true] at hv
    rw [xops_cons, xopO_snd hx hv.1]
    simp only
    rw [xopsO_snd hr hv.2]
    rfl

theorem orun_snd (hE : EnvOK P T Γ) {inr : Bool} (hr : inr = false → r = none) : ∀ (k : Nat) (c : XC) (S S' : St) (os os' : List Bool) (e : XE) (v : Bool), orun Γ inr k c S os = some (v, e, S', os') → v = true →
    Exec P T r nt kp c S e S' ∧ ∀ b, c = .loop b → ∃ j, LoopX (Exec P T r nt kp b) j S e S' := by
  intro k
  induction k with
  | zero => intro c S S' os os' e v h; simp [orun_zero] at h
  | succ k ih =>
    intro c S S' os os' e v h hv
    rw [orun_succ] at h
    cases c with
    | skip => simp only [orunStep] at h; cases h; exact ⟨exec_skip, fun b hb => (by cases hb)⟩
    | label l => simp only [orunStep] at h; cases h; exact ⟨exec_label, fun b hb => (by cases hb)⟩
    | ret => simp only [orunStep] at h; cases h; exact ⟨exec_ret, fun b hb => (by cases hb)⟩
    | exit id => simp only [orunStep] at h; cases h; exact ⟨exec_exit, fun b hb => (by cases hb)⟩
    | reg ops tot =>
      simp only [orunStep] at h
      split at h
      case h_2 => cases h
      rename_i v1 S1 E os1 hx
      cases h
      exact ⟨exec_reg hE (xopsO_snd hx hv), fun b hb => (by cases hb)⟩
    | regD ops tot chk =>
      simp only [orunStep] at h
      split at h
      case h_2 => cases h
      rename_i v1 S1 E os1 hx
      simp only [Option.some.injEq, Prod.mk.injEq] at h
      obtain ⟨rfl, rfl, rfl, _⟩ := h
      simp only [Bool.and_eq_true] at hv
      exact ⟨exec_regD hE (xopsO_snd hx hv.1) hv.2, fun b hb => (by cases hb)⟩
    | seq a b =>
      simp only [orunStep] at h
      refine ⟨?_, fun b hb => (by cases hb)⟩
      split at h
      · rename_i v1 S1 os1 h1
        split at h
        case h_2 => cases h
        rename_i v2 e2 S2 os2 h2
        simp only [Option.some.injEq, Prod.mk.injEq] at h
        obtain ⟨rfl, rfl, rfl, _⟩ := h
        simp only [Bool.and_eq_true] at hv
        exact exec_seq (ih _ _ _ _ _ _ _ h1 hv.1).1 (ih _ _ _ _ _ _ _ h2 hv.2).1
      · rename_i v1 e1 S1 os1 hne h1
        cases h
        refine exec_seq_x (ih _ _ _ _ _ _ _ h1 hv).1 ?_
        rintro rfl
        exact hne rfl
      · cases h
    | cond c a b =>
      simp only [orunStep] at h
      refine ⟨?_, fun b hb => (by cases hb)⟩
      split at h
      case h_2 => cases h
      rename_i cc t ht
      split at h
      · split at h
        case h_2 => cases h
        rename_i v1 e1 S1 os1 h1
        simp only [Option.some.injEq, Prod.mk.injEq] at h
        obtain ⟨rfl, rfl, rfl, _⟩ := h
        simp only [Bool.and_eq_true] at hv
        obtain ⟨rfl, rfl, hv⟩ := hv
        exact exec_cond ht (ih _ _ _ _ _ _ _ h1 hv).1
      · split at h
        case h_2 => cases h
        rename_i v1 e1 S1 os1 h1
        simp only [Option.some.injEq, Prod.mk.injEq] at h
        obtain ⟨rfl, rfl, rfl, _⟩ := h
        simp only [Bool.and_eq_true, Bool.not_eq_true'] at hv
        obtain ⟨rfl, rfl, hv⟩ := hv
        exact exec_cond ht (ih _ _ _ _ _ _ _ h1 hv).1
      · cases h
    | block id b =>
      simp only [orunStep] at h
      refine ⟨?_, fun b hb => (by cases hb)⟩
      split at h
      case h_2 => cases h
      rename_i v1 e1 S1 os1 h1
      cases h
      exact exec_block (ih _ _ _ _ _ _ _ h1 hv).1
    | loop b =>
      simp only [orunStep] at h
      have key : ∃ j, LoopX (Exec P T r nt kp b) j S e S' := by
        split at h
        · rename_i v1 S1 os1 h1
          split at h
          case h_2 => cases h
          rename_i v2 e2 S2 os2 h2
          simp only [Option.some.injEq, Prod.mk.injEq] at h
          obtain ⟨rfl, rfl, rfl, _⟩ := h
          simp only [Bool.and_eq_true] at hv
          obtain ⟨j, hj⟩ := (ih _ _ _ _ _ _ _ h2 hv.2).2 b rfl
          exact ⟨j + 1, .step (ih _ _ _ _ _ _ _ h1 hv.1).1 hj⟩
        · rename_i v1 e1 S1 os1 hne h1
          cases h
          refine ⟨0, .done (ih _ _ _ _ _ _ _ h1 hv).1 ?_⟩
          rintro rfl
          exact hne rfl
        · cases h
      refine ⟨?_, fun b' hb => by cases hb; exact key⟩
      obtain ⟨j, hj⟩ := key
      exact exec_loop hj
    | scope b =>
      simp only [orunStep] at h
      exact ⟨exec_scope (ih _ _ _ _ _ _ _ h hv).1, fun b hb => (by cases hb)⟩
    | rf f ps asg body =>
      simp only [orunStep] at h
      cases inr with
      | true => cases h
      | false =>
        cases hr rfl
        simp only at h
        split at h
        case h_2 => cases h
        rename_i e1 S1 h1
        cases h
        exact ⟨rfRun_snd hE h1, fun b hb => (by cases hb)⟩

/-! ### another way to see a state -/

theorem SR.unren {m m' : MM} {ρ : Nat → Nat} {x : SV} {v : Value} (h : SR m (x.ren ρ) v) (hm : ∀ j ∈ x.ids, m' j = m (ρ j)) : SR m' x v := by
  cases x <;> simp only [SR, SV.ren, SV.ids, List.mem_singleton, forall_eq] at h hm ⊢ <;> try exact h
  · rw [hm]; exact h
  · rw [hm]; exact h
  · rw [hm]; exact h
  · rw [hm]; exact h
  · obtain ⟨vs, h1, h2⟩ := h
    refine ⟨vs, h1, ?_⟩
    clear h1
    rename_i f caps
    induction caps generalizing vs with
    | nil => cases vs with
      | nil => trivial
      | cons _ _ => exact h2.elim
    | cons c caps ih => cases vs with
      | nil => exact h2.elim
      | cons u us =>
        obtain ⟨⟨mb, b, e1, e2⟩, h4⟩ := h2
        exact ⟨⟨mb, b, by rw [hm c (by simp)]; exact e1, e2⟩, ih (fun j hj => hm j (by simp [hj])) us h4⟩
  · rw [hm]; exact h

theorem All2.unren {m m' : MM} {ρ : Nat → Nat} : ∀ {l : List SV} {vs : List Value}, All2 (SR m) (l.map (SV.ren ρ)) vs → (∀ j ∈ l.flatMap SV.ids, m' j = m (ρ j)) → All2 (SR m') l vs
  | [], [], _, _ => trivial
  | [], _ :: _, h, _ => h.elim
  | _ :: _, [], h, _ => h.elim
  | x :: l, v :: vs, ⟨h1, h2⟩, hm => ⟨SR.unren h1 fun j hj => hm j (by simp [hj]), All2.unren h2 fun j hj => hm j (by
      rw [List.flatMap_cons, List.mem_append]; exact .inr hj)⟩

theorem AR.unren {m m' : MM} {ρ : Nat → Nat} {x : AV} {v : Value} (h : AR m (x.ren ρ) v) (hm : ∀ j ∈ x.ids, m' j = m (ρ j)) : AR m' x v := by
  cases x with
  | s x => exact SR.unren h hm
  | pb pre n f => obtain ⟨cs, e, vs, a, b, c⟩ := h; exact ⟨cs, e, vs, All2.unren a hm, b, c⟩

theorem TR.unren {m m' : MM} {ρ : Nat → Nat} {x : TV} {v : Value} (h : TR m (x.ren ρ) v) (hm : ∀ j ∈ x.ids, m' j = m (ρ j)) : TR m' x v := by
  cases x with
  | av x => exact AR.unren h hm
  | tup l =>
    obtain ⟨vs, e, hv⟩ := h
    refine ⟨vs, e, ?_⟩
    clear e
    induction l generalizing vs with
    | nil => cases vs with
      | nil => trivial
      | cons _ _ => exact hv.elim
    | cons x l ih => cases vs with
      | nil => exact hv.elim
      | cons u us =>
        simp only [TV.ids, List.flatMap_cons, List.mem_append] at hm ih
        exact ⟨AR.unren hv.1 fun j hj => hm j (.inl hj), ih (fun j hj => hm j (.inr hj)) us hv.2⟩

theorem OR.unren {cmp : Cmp} {m m' : MM} {ρ : Nat → Nat} {mb : MB} {o : AO} {w : World} (h : OR cmp m mb (o.ren ρ) w) (hm : ∀ j ∈ o.ids, m' j = m (ρ j)) (hl : o.isLoop = false) : OR cmp m' mb o w := by
  cases o <;> simp only [OR, AO.ren] at h ⊢ <;> try exact h
  · obtain ⟨b, cs, h1, h2, h3, vs, a, b', c⟩ := h
    exact ⟨b, cs, h1, h2, h3, vs, All2.unren a hm, b', c⟩
  · cases hl

/-- a state told by lists: its slots, its objects (ids 0, 1, ..), which of the other state's ids these are -/
def mkSt (ts : List (Nat × Slot)) (hs : List HO) (nx : Nat) (df : List Nat) : St := ⟨.al ts, .al (hs.zipIdx.map fun p => (p.2, p.1)), nx, df⟩

theorem alGet_zipIdx : ∀ (l : List HO) (n j : Nat), alGet ((l.zipIdx n).map fun p => (p.2, p.1)) j = if n ≤ j then l[j - n]? else none
  | [], n, j => by simp [alGet_nil]
  | x :: l, n, j => by
    rw [List.zipIdx_cons, List.map_cons, alGet_cons, alGet_zipIdx l (n + 1) j]
    by_cases h : n = j
    · subst h
      simp
    · rw [beqF h, cond_false]
      by_cases h2 : n + 1 ≤ j
      · rw [if_pos h2, if_pos (by omega), show j - n = (j - (n + 1)) + 1 by omega]
        rfl
      · rw [if_neg h2, if_neg (by omega)]

theorem mkSt_hp (ts : List (Nat × Slot)) (hs : List HO) (nx : Nat) (df : List Nat) (j : Nat) : (mkSt ts hs nx df).hp.get j = hs[j]? := by
  show alGet _ j = _
  rw [alGet_zipIdx]
  simp

def TV.idsLt (n : Nat) (x : TV) : Bool := x.ids.all fun j => Nat.blt j n
def AO.idsLt (n : Nat) (x : AO) : Bool := x.ids.all fun j => Nat.blt j n
def nodupB : List Nat → Bool
  | [] => true
  | x :: l => !(l.any (Nat.beq x)) && nodupB l

theorem nodupB_spec : ∀ {l : List Nat}, nodupB l = true → l.Nodup
  | [], _ => List.nodup_nil
  | x :: l, h => by
    simp only [nodupB, Bool.and_eq_true, Bool.not_eq_true', ← Bool.not_eq_true, any_beq] at h
    exact List.nodup_cons.2 ⟨h.1, nodupB_spec h.2⟩

def keepsK : Nat → List Nat → Nat → Bool
  | 0, _, _ => true
  | k + 1, [], _ => false
  | k + 1, x :: l, i => Nat.beq x i && keepsK k l (i + 1)

theorem keepsK_spec : ∀ {k : Nat} {l : List Nat} {i : Nat}, keepsK k l i = true → ∀ j, j < k → l[j]? = some (i + j)
  | 0, _, _, _, j, h => by omega
  | k + 1, [], _, h, _, _ => by simp [keepsK] at h
  | k + 1, x :: l, i, h, j, hj => by
    simp only [keepsK, Bool.and_eq_true] at h
    cases j with
    | zero => rw [Nat.eq_of_beq_eq_true h.1]; rfl
    | succ j =>
      have := keepsK_spec h.2 j (by omega)
      simp only [List.getElem?_cons_succ, this]
      congr 1
      omega

/-- the shape's own conditions, which hold of the state told, whatever its unknowns -/
def mkOk (ts : List (Nat × Slot)) (hs : List HO) (ids : List Nat) (kp : Nat) : Bool :=
  ts.all (fun p => p.2.v.idsLt hs.length) && hs.all (fun h => h.o.idsLt hs.length && !h.o.isLoop) && nodupB ids && Nat.beq ids.length hs.length && keepsK kp ids 0

theorem weak_mk {S : St} {ts : List (Nat × Slot)} {hs : List HO} {nx : Nat} {df : List Nat} {ids : List Nat} (hok : mkOk ts hs ids kp = true)
    (hts : ∀ p ∈ ts, S.sl.get p.1 = some ⟨p.2.c, p.2.v.ren fun j => ids.getD j 0⟩) (hhs : ∀ j h, hs[j]? = some h → S.hp.get (ids.getD j 0) = some (h.ren fun j => ids.getD j 0)) (hdf : S.df = df.map fun j => ids.getD j 0) (hdl : ∀ j ∈ df, j < hs.length) :
    Weak T kp S (mkSt ts hs nx df) := by
  intro ctx nt m a w hR
  simp only [mkOk, Bool.and_eq_true] at hok
  obtain ⟨⟨⟨⟨h1, h2⟩, h3⟩, h4⟩, h5⟩ := hok
  have hlen := Nat.eq_of_beq_eq_true h4
  have hnod := nodupB_spec h3
  have hget : ∀ j, j < hs.length → ids[j]? = some (ids.getD j 0) := fun j hj => by
    have : j < ids.length := by omega
    simp [this]
  let m2 : MM := fun j => if j < hs.length then m (ids.getD j 0) else none
  have hm2 : ∀ j, j < hs.length → m2 j = m (ids.getD j 0) := fun j hj => by simp only [m2, if_pos hj]
  refine ⟨m2, fun id mb hid hmb => ?_, fun t s hts' => ?_, hR.size, ?_, ?_⟩
  · have := keepsK_spec h5 id hid
    have hl : id < ids.length := (List.getElem?_eq_some_iff.1 this).1
    rw [hm2 id (by omega)]
    have e : ids.getD id 0 = id := by rw [List.getD_eq_getElem?_getD, this]; simp
    rw [e]
    exact hmb
  · have hm := alGet_mem hts'
    have := hts _ hm
    have hs1 := hR.slot t _ this
    refine ⟨fun c => TR.unren (hs1.1 c) fun j hj => hm2 j ?_, hs1.2⟩
    have := List.all_eq_true.1 (List.all_eq_true.1 h1 _ hm) j hj
    exact Nat.le_of_ble_eq_true this
  · refine ⟨fun id ho hid => ?_, fun id id' ho ho' mb mb' b hne hid hid' hro hl hl' hm hm' hb => ?_, fun id hid => ?_, hR.heap.os, hR.heap.tape, hR.heap.output, hR.heap.size, hR.heap.same0⟩
    · rw [mkSt_hp] at hid
      have hlt := (List.getElem?_eq_some_iff.1 hid).1
      obtain ⟨mb, g1, g2, g3, g4⟩ := hR.heap.obj _ _ (hhs id ho hid)
      have hin := List.all_eq_true.1 h2 ho (List.mem_of_getElem? hid)
      simp only [Bool.and_eq_true, Bool.not_eq_true'] at hin
      have hlive : (ho.ren fun j => ids.getD j 0).live = ho.live := by
        unfold HO.live HO.ren
        cases ho.o <;> rfl
      exact ⟨mb, by rw [hm2 id hlt]; exact g1, OR.unren g2 (fun j hj => hm2 j (Nat.le_of_ble_eq_true (List.all_eq_true.1 hin.1 j hj))) hin.2, fun hl => g3 (by rw [hlive]; exact hl), fun hro hl => g4 hro (by rw [hlive]; exact hl)⟩
    · rw [mkSt_hp] at hid hid'
      have hlt := (List.getElem?_eq_some_iff.1 hid).1
      have hlt' := (List.getElem?_eq_some_iff.1 hid').1
      rw [hm2 id hlt] at hm
      rw [hm2 id' hlt'] at hm'
      have hlive : ∀ ho : HO, (ho.ren fun j => ids.getD j 0).live = ho.live := by
        intro ho
        unfold HO.live HO.ren
        cases ho.o <;> rfl
      refine hR.heap.dist _ _ _ _ mb mb' b (fun e => hne ?_) (hhs id ho hid) (hhs id' ho' hid') hro (by rw [hlive]; exact hl) (by rw [hlive]; exact hl') hm hm' hb
      have e1 := hget id hlt
      have e2 := hget id' hlt'
      rw [← e] at e2
      exact (List.getElem?_inj (by omega) hnod).1 (e1.trans e2.symm)
    · rw [mkSt_hp, List.getElem?_eq_none_iff] at hid
      simp only [m2, if_neg (by omega : ¬ id < hs.length)]
  · show All2 _ df a.defers
    have := hR.df
    rw [hdf] at this
    revert this hdl
    generalize a.defers = ds
    clear hdf
    induction df generalizing ds with
    | nil => intro _ h; cases ds with
      | nil => trivial
      | cons _ _ => exact h.elim
    | cons x df ih =>
      intro hd h
      cases ds with
      | nil => exact h.elim
      | cons d ds =>
        obtain ⟨⟨mb, b, e1, e2⟩, h2⟩ := h
        exact ⟨⟨mb, b, by rw [hm2 x (hd x (by simp))]; exact e1, e2⟩, ih ds (fun j hj => hd j (by simp [hj])) h2⟩

/-- what is looked at, of a run -/
noncomputable def view (ts ids : List Nat) (q : Option (Bool × XE × St × List Bool)) : Option (Bool × XE × List (Option Slot) × List (Option HO) × List Nat) :=
  q.map fun q => (q.1, q.2.1, ts.map q.2.2.1.sl.get, ids.map q.2.2.1.hp.get, q.2.2.1.df)

theorem exec_view (hE : EnvOK P T Γ) {inr : Bool} (hr : inr = false → r = none) {k : Nat} {c : XC} {S : St} {os : List Bool} {ob : Bool} {e : XE} {ts : List (Nat × Slot)} {hs : List HO} {nx : Nat} {df ids : List Nat}
    (hv : view (ts.map (·.1)) ids (orun Γ inr k c S os) = some (ob, e, ts.map (fun p => some ⟨p.2.c, p.2.v.ren fun j => ids.getD j 0⟩), hs.map (fun h => some (h.ren fun j => ids.getD j 0)), df.map fun j => ids.getD j 0))
    (hob : ob = true) (hok : mkOk ts hs ids kp = true) (hdl : df.all (fun j => Nat.blt j hs.length) = true) : Exec P T r nt kp c S e (mkSt ts hs nx df) := by
  unfold view at hv
  obtain ⟨⟨v, e1, S1, os1⟩, h1, h2⟩ := Option.map_eq_some_iff.1 hv
  simp only [Prod.mk.injEq] at h2
  obtain ⟨rfl, rfl, h3, h4, h5⟩ := h2
  refine (orun_snd hE hr k c S S1 os os1 e1 v h1 hob).1.post (weak_mk (ids := ids) hok (fun p hp => ?_) (fun j h hj => ?_) h5 fun j hj => Nat.le_of_ble_eq_true (List.all_eq_true.1 hdl j hj))
  · rw [List.map_map] at h3
    exact List.map_inj_left.1 h3 p hp
  · have hok' := hok
    simp only [mkOk, Bool.and_eq_true] at hok'
    have hlen := Nat.eq_of_beq_eq_true hok'.1.2
    have hlt : j < hs.length := (List.getElem?_eq_some_iff.1 hj).1
    have := congrArg (fun l => l[j]?) h4
    simp only [List.getElem?_map, hj, Option.map_some] at this
    have e : ids[j]? = some (ids.getD j 0) := by
      have : j < ids.length := by omega
      simp [this]
    rw [e] at this
    simpa using this

end
end Go.Proofs.Yteekkjfjpoaihaa.Eng

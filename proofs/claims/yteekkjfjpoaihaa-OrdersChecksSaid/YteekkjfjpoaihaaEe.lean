/- The engine, part 5: one operation of the executor is sound: what reads, makes and writes memory. -/
import Derived.Test.YteekkjfjpoaihaaEd
set_option linter.all false
namespace Go.Proofs.Yteekkjfjpoaihaa.Eng
open Go

section
variable {P : Program} {T : Tab} {cmp : Cmp} {r : Option Nat} {Γ : Cal → Option Spec}

theorem nbeq {a b : Nat} : (Nat.beq a b = true) ↔ a = b := ⟨Nat.eq_of_beq_eq_true, beqT⟩

theorem cell_at {w : World} {b : Nat} {cs : List Value} {ty : TypeId} {fr : Nat × Nat} (h : w.heap[b]? = some (.cells cs.toArray ty fr)) (i : Nat) : w.cell? ⟨b, i, none⟩ = cs[i]? := by
  simp [World.cell?, h]
theorem cell_atA {w : World} {b : Nat} {cs : Array Value} {ty : TypeId} {fr : Nat × Nat} (h : w.heap[b]? = some (.cells cs ty fr)) (i : Nat) : w.cell? ⟨b, i, none⟩ = cs[i]? := by
  simp [World.cell?, h]

theorem PR.get_lo {m : MM} {pre : List SV} {n : Nat} {f : Nat → Bool} {cs : List Value} (h : PR m pre n f cs) {i : Nat} (hi : i < pre.length) : ∃ v, cs[i]? = some v ∧ SR m (pre.getD i .any) v := by
  obtain ⟨vs, h1, _, rfl⟩ := h
  have e : pre[i]? = some (pre.getD i .any) := by simp [List.getD, hi]
  obtain ⟨v, h2, h3⟩ := h1.get e
  refine ⟨v, ?_, h3⟩
  rw [List.getElem?_append_left (by rw [h1.length]; exact hi)]
  exact h2

theorem PR.get_hi {m : MM} {pre : List SV} {n : Nat} {f : Nat → Bool} {cs : List Value} (h : PR m pre n f cs) {i : Nat} (hi : i < n) : cs[pre.length + i]? = some (.bool (f i)) := by
  obtain ⟨vs, h1, _, rfl⟩ := h
  rw [List.getElem?_append_right (by rw [h1.length]; omega), h1.length]
  simp only [Nat.add_sub_cancel_left]
  exact bcells_get n f i hi

theorem PR.sub_hi {m : MM} {pre : List SV} {n : Nat} {f : Nat → Bool} {cs : List Value} (h : PR m pre n f cs) {o q : Nat} (ho : pre.length ≤ o) (hq : o - pre.length + q ≤ n) : PR m [] q (fun j => f (o - pre.length + j)) ((cs.drop o).take q) := by
  refine ⟨[], trivial, by simp, ?_⟩
  apply List.ext_getElem?
  intro i
  simp only [List.nil_append, List.getElem?_take, List.getElem?_drop]
  by_cases hi : i < q
  · rw [if_pos hi, bcells_get _ _ _ hi]
    have := h.get_hi (i := o - pre.length + i) (by omega)
    rw [← this]
    congr 1
    omega
  · rw [if_neg hi]
    simp [bcells, hi]

theorem PR.sub_lo {m : MM} {pre : List SV} {n : Nat} {f : Nat → Bool} {cs : List Value} (h : PR m pre n f cs) {o p : Nat} (ho : o + p ≤ pre.length) : PR m ((pre.drop o).take p) 0 ff ((cs.drop o).take p) := by
  obtain ⟨vs, h1, h2, rfl⟩ := h
  refine ⟨(vs.drop o).take p, (h1.drop o).take p, fun v hv => h2 v (List.mem_of_mem_drop (List.mem_of_mem_take hv)), ?_⟩
  have hl := h1.length
  simp only [bcells, List.range_zero, List.map_nil, List.append_nil]
  rw [List.drop_append_of_le_length (by omega), List.take_append_of_le_length (by simp; omega)]

/-- what a load gives -/
theorem ld_one {m : MM} {mb : MB} {b : Nat} {o : AO} {w : World} {base off : Nat} {vc : Bool} {v : AV} (ho : OR cmp m mb o w) (hb : mb.b = some b) (h : ldO .one o base off = some (vc, v)) (hvc : vc = true) :
    ∃ u, w.cell? ⟨b, mb.base + (base + off), none⟩ = some u ∧ AR m v u := by
  cases o <;> simp only [ldO, reduceCtorEq] at h
  case row ty pre n f =>
    obtain ⟨b', cs, h1, h2, h3, h4⟩ := ho
    rw [hb] at h1
    cases h1
    rw [h2, Nat.zero_add, cell_at h3]
    cases hlt : Nat.blt base pre.length with
    | true =>
      simp only [hlt, cond_true, Option.some.injEq, Prod.mk.injEq] at h
      obtain ⟨rfl, rfl⟩ := h
      have hlt2 : base + off < pre.length := by simpa using hvc
      exact h4.get_lo hlt2
    | false =>
      simp only [hlt, cond_false, Option.some.injEq, Prod.mk.injEq] at h
      obtain ⟨rfl, rfl⟩ := h
      have hge : pre.length ≤ base := by
        have hn : ¬ (Nat.blt base pre.length = true) := by rw [hlt]; exact Bool.false_ne_true
        rw [Nat.blt_eq] at hn
        omega
      simp only [decide_eq_true_eq] at hvc
      have := h4.get_hi hvc
      rw [show pre.length + (base - pre.length + off) = base + off by omega] at this
      exact ⟨_, this, rfl⟩
  case ivec ty k sz l =>
    simp only [Option.some.injEq, Prod.mk.injEq] at h
    obtain ⟨rfl, rfl⟩ := h
    simp only [decide_eq_true_eq] at hvc
    rcases ho with ⟨h1, _⟩ | ⟨b', cur, h1, h2, h3, h4, h5, h6⟩
    · rw [hb] at h1; cases h1
    · rw [hb] at h1
      cases h1
      rw [h2, Nat.zero_add, cell_atA h3]
      exact ⟨_, h6 _ hvc, rfl⟩
  case xvec k sz l =>
    simp only [Option.some.injEq, Prod.mk.injEq] at h
    obtain ⟨rfl, rfl⟩ := h
    simp only [decide_eq_true_eq] at hvc
    rcases ho with ⟨h1, _⟩ | ⟨b', h1, h2⟩
    · rw [hb] at h1; cases h1
    · rw [hb] at h1
      cases h1
      exact ⟨_, h2 _ hvc, rfl⟩

theorem intsPR {m : MM} {k : IntKind} {p : Nat} {g : Nat → Int} {cs : List Value} (hl : cs.length = p) (h : ∀ j, j < p → cs[j]? = some (.int k (g j))) : PR m ((List.range p).map fun j => .int k (g j)) 0 ff cs := by
  have e : cs = (List.range p).map fun j => Value.int k (g j) := by
    apply List.ext_getElem?
    intro i
    by_cases hi : i < p
    · rw [h i hi]; simp [hi]
    · rw [List.getElem?_eq_none (by omega)]; simp [hi]
  refine ⟨cs, ?_, ?_, by simp [bcells]⟩
  · rw [e]
    exact All2.map _ _ _ fun x _ => rfl
  · rw [e]
    intro v hv
    simp at hv
    obtain ⟨i, _, rfl⟩ := hv
    rfl

theorem ld_many {m : MM} {mb : MB} {b : Nat} {o : AO} {w : World} {p q base off : Nat} {vc : Bool} {v : AV} (ho : OR cmp m mb o w) (hb : mb.b = some b) (h : ldO (.many p q) o base off = some (vc, v)) (hvc : vc = true) :
    ∃ cs : List Value, cs.length = p + q ∧ (∀ j u, cs[j]? = some u → w.cell? ⟨b, mb.base + (base + off) + j, none⟩ = some u) ∧ AR m v (.agg cs.toArray) := by
  cases o <;> simp only [ldO, Bool.cond_eq_ite, reduceCtorEq] at h
  case row ty pre n f =>
    obtain ⟨b', cs, h1, h2, h3, h4⟩ := ho
    rw [hb] at h1
    cases h1
    have hlen := h4.length
    rw [h2, Nat.zero_add]
    split at h
    · rename_i hcond
      simp only [Bool.and_eq_true, nbeq] at hcond
      obtain ⟨⟨rfl, rfl⟩, rfl⟩ := hcond
      simp only [Option.some.injEq, Prod.mk.injEq] at h
      obtain ⟨rfl, rfl⟩ := h
      simp only [decide_eq_true_eq] at hvc
      subst hvc
      refine ⟨cs, hlen, fun j u hu => ?_, cs, rfl, h4⟩
      rw [cell_at h3]
      simpa using hu
    · rename_i hcond
      split at h
      · rename_i hc2
        simp only [Bool.and_eq_true, nbeq, Nat.ble_eq] at hc2
        obtain ⟨rfl, hge⟩ := hc2
        simp only [Option.some.injEq, Prod.mk.injEq] at h
        obtain ⟨rfl, rfl⟩ := h
        simp only [decide_eq_true_eq] at hvc
        have hs := h4.sub_hi (o := base + off) (q := q) (by omega) (by omega)
        refine ⟨(cs.drop (base + off)).take q, by simp; omega, fun j u hu => ?_, _, rfl, ?_⟩
        · rw [cell_at h3]
          rw [List.getElem?_take, List.getElem?_drop] at hu
          split at hu
          · exact hu
          · cases hu
        · rw [show base - pre.length + off = base + off - pre.length by omega]
          exact hs
      · split at h
        · rename_i hc3
          simp only [nbeq] at hc3
          subst hc3
          simp only [Option.some.injEq, Prod.mk.injEq] at h
          obtain ⟨rfl, rfl⟩ := h
          simp only [decide_eq_true_eq] at hvc
          refine ⟨(cs.drop (base + off)).take p, by simp; omega, fun j u hu => ?_, _, rfl, h4.sub_lo hvc⟩
          rw [cell_at h3]
          rw [List.getElem?_take, List.getElem?_drop] at hu
          split at hu
          · exact hu
          · cases hu
        · cases h
  case ivec ty k sz l =>
    split at h
    case isFalse => cases h
    rename_i hc
    simp only [nbeq] at hc
    subst hc
    simp only [Option.some.injEq, Prod.mk.injEq] at h
    obtain ⟨rfl, rfl⟩ := h
    simp only [decide_eq_true_eq] at hvc
    rcases ho with ⟨h1, hl, _⟩ | ⟨b', cur, h1, h2, h3, h4, h5, h6⟩
    · rw [hb] at h1; cases h1
    · rw [hb] at h1
      cases h1
      rw [h2, Nat.zero_add]
      refine ⟨(List.range p).map fun j => .int k (l.getD (base + off + j) 0), by simp, fun j u hu => ?_, _, rfl, intsPR (by simp) (fun j hj => by simp [hj])⟩
      rw [cell_atA h3]
      by_cases hj : j < p
      · simp [hj] at hu
        rw [h6 _ (by omega), ← hu]
        simp [List.getD]
      · simp [hj] at hu
  case xvec k sz l =>
    split at h
    case isFalse => cases h
    rename_i hc
    simp only [nbeq] at hc
    subst hc
    simp only [Option.some.injEq, Prod.mk.injEq] at h
    obtain ⟨rfl, rfl⟩ := h
    simp only [decide_eq_true_eq] at hvc
    rcases ho with ⟨h1, hl, _⟩ | ⟨b', h1, h2⟩
    · rw [hb] at h1; cases h1
    · rw [hb] at h1
      cases h1
      refine ⟨(List.range p).map fun j => .int k (l.getD (base + off + j) 0), by simp, fun j u hu => ?_, _, rfl, intsPR (by simp) (fun j hj => by simp [hj])⟩
      by_cases hj : j < p
      · simp [hj] at hu
        rw [Nat.add_assoc, h2 _ (by omega), ← hu]
        simp [List.getD]
      · simp [hj] at hu

/-- the shape of a type -/
theorem lk_one (hT : TOK P T) {t : TypeId} (h : lkT T t = some .one) : (∀ w, (isAgg t).run P w = .ok false w) ∧ sizeT T t = some 1 := by
  unfold lkT zOf at h
  cases ht : T t with
  | none => simp [ht] at h
  | some ti =>
    simp only [ht, Option.bind_some] at h
    cases hz : ti.z with
    | none => simp [hz] at h
    | some z =>
      have hs := hT.shape t ti z ht hz
      cases z with
      | pb => simp [hz, lkOf] at h
      | s x =>
        refine ⟨fun w => ?_, by simp [sizeT, ht, hs.1]⟩
        have hd := hs.2.2
        simp only [isAgg, Sem.run_bind, run_underlying (hT.und t ti ht), Result.andThen_ok]
        cases hdd : ti.d <;> simp [hdd, isAggD] at hd ⊢

theorem lk_many (hT : TOK P T) {t : TypeId} {p q : Nat} (h : lkT T t = some (.many p q)) : (∀ w, (isAgg t).run P w = .ok true w) ∧ sizeT T t = some (p + q) := by
  unfold lkT zOf at h
  cases ht : T t with
  | none => simp [ht] at h
  | some ti =>
    simp only [ht, Option.bind_some] at h
    cases hz : ti.z with
    | none => simp [hz] at h
    | some z =>
      have hs := hT.shape t ti z ht hz
      cases z with
      | s x => simp [hz, lkOf] at h
      | pb pre n f =>
        simp [hz, lkOf] at h
        obtain ⟨rfl, rfl⟩ := h
        refine ⟨fun w => ?_, by simp [sizeT, ht, hs.1]⟩
        have hd := hs.2.2
        simp only [isAgg, Sem.run_bind, run_underlying (hT.und t ti ht), Result.andThen_ok]
        cases hdd : ti.d <;> simp [hdd, isAggD] at hd ⊢

theorem snd_ld (hT : TOK P T) {o : Oper} {t : TypeId} {y : Operand} {y' : XO} {k : LK} (ho : o.op = .load t y) (hk : lkT T t = some k) (hc : cO y = some y') : Snd P cmp r Γ o (.ld k y') := by
  refine snd_pure (by simp [ho]) fun ctx m hp w a ev base e hE hH hx hvc => ?_
  have hv := hE y y' hc (by simp [need, XI.opnds])
  simp only [xi] at hx
  split at hx
  case h_2 => cases hx
  rename_i id b' o' hb
  rw [hb] at hv
  split at hx
  case h_2 => cases hx
  rename_i hob hho
  obtain ⟨mb, bb, h1, h2, hv⟩ := hv
  obtain ⟨mb', h1', hor, _⟩ := hH.obj id hob hho
  rw [h1] at h1'
  cases h1'
  cases hl : ldO k hob.o b' o' with
  | none => simp [hl] at hx
  | some rv =>
    simp only [hl, Option.map_some, Option.some.injEq] at hx
    subst hx
    cases k with
    | one =>
      obtain ⟨u, hu1, hu2⟩ := ld_one hor h2 hl hvc
      refine ⟨rfl, rfl, u, ?_, hu2⟩
      simp [execOp, ho, hv, Instr.loadAt, Instr.sureAddr, loadVar, (lk_one hT hk).1, hu1]
    | many p q =>
      obtain ⟨cs, hcl, hcells, hu2⟩ := ld_many hor h2 hl hvc
      refine ⟨rfl, rfl, .agg cs.toArray, ?_, hu2⟩
      have hrun := run_loadCells_list (P := P) w ⟨bb, mb.base + (b' + o'), none⟩ cs (fun j u hj => by rw [addr_add]; exact hcells j u hj)
      rw [hcl] at hrun
      simp [execOp, ho, hv, Instr.loadAt, Instr.sureAddr, loadVar, (lk_many hT hk).1, T_size hT (lk_many hT hk).2, hrun]

end
end Go.Proofs.Yteekkjfjpoaihaa.Eng

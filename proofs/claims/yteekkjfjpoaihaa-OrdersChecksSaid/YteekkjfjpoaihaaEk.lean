/- The engine, part 11: parts of values, function values, lengths, min and max, make. -/
import Derived.Test.YteekkjfjpoaihaaEj
set_option linter.all false
namespace Go.Proofs.Yteekkjfjpoaihaa.Eng
open Go

section
variable {P : Program} {T : Tab} {cmp : Cmp} {r : Option Nat} {Γ : Cal → Option Spec}

/-- a part of an aggregate value -/
theorem part_snd (hT : TOK P T) {m : MM} {pre : List SV} {n : Nat} {f : Nat → Bool} {cs : List Value} {t : TypeId} {k : LK} {base off : Nat} {vc : Bool} {v : AV} {ty : TypeId} (hp : PR m pre n f cs) (hk : lkT T t = some k)
    (h : ldO k (.row ty pre n f) base off = some (vc, v)) (hvc : vc = true) (w : World) : ∃ u, (part t cs.toArray (base + off)).run P w = .ok u w ∧ AR m v u := by
  have hlen := hp.length
  cases k with
  | one =>
    have hr : ∀ u, cs[base + off]? = some u → (part t cs.toArray (base + off)).run P w = .ok u w := fun u hu => by
      simp [part, (lk_one hT hk).1, hu]
    simp only [ldO, Bool.cond_eq_ite] at h
    split at h
    · simp only [Option.some.injEq, Prod.mk.injEq] at h
      obtain ⟨rfl, rfl⟩ := h
      rw [Nat.blt_eq] at hvc
      obtain ⟨u, h1, h2⟩ := hp.get_lo hvc
      exact ⟨u, hr u h1, h2⟩
    · rename_i hlt
      simp only [Option.some.injEq, Prod.mk.injEq] at h
      obtain ⟨rfl, rfl⟩ := h
      rw [Nat.blt_eq] at hlt
      simp only [decide_eq_true_eq] at hvc
      have := hp.get_hi hvc
      rw [show pre.length + (base - pre.length + off) = base + off by omega] at this
      exact ⟨_, hr _ this, rfl⟩
  | many p q =>
    have hr : (part t cs.toArray (base + off)).run P w = .ok (.agg ((cs.drop (base + off)).take (p + q)).toArray) w := by
      have e : cs.toArray.extract (base + off) (base + off + (p + q)) = ((cs.drop (base + off)).take (p + q)).toArray := by
        simp [List.extract_eq_take_drop]
      simp [part, (lk_many hT hk).1, T_size hT (lk_many hT hk).2, e]
    simp only [ldO, Bool.cond_eq_ite] at h
    split at h
    · rename_i hc
      simp only [Bool.and_eq_true, nbeq] at hc
      obtain ⟨⟨rfl, rfl⟩, rfl⟩ := hc
      simp only [Option.some.injEq, Prod.mk.injEq] at h
      obtain ⟨rfl, rfl⟩ := h
      simp only [decide_eq_true_eq] at hvc
      subst hvc
      refine ⟨_, hr, _, rfl, ?_⟩
      simp only [Nat.zero_add, Nat.add_zero, List.drop_zero]
      rw [List.take_of_length_le (by omega)]
      exact hp
    · split at h
      · rename_i hc2
        simp only [Bool.and_eq_true, nbeq, Nat.ble_eq] at hc2
        obtain ⟨rfl, hge⟩ := hc2
        simp only [Option.some.injEq, Prod.mk.injEq] at h
        obtain ⟨rfl, rfl⟩ := h
        simp only [decide_eq_true_eq] at hvc
        have hs := hp.sub_hi (o := base + off) (q := q) (by omega) (by omega)
        refine ⟨_, hr, _, rfl, ?_⟩
        rw [show base - pre.length + off = base + off - pre.length by omega, Nat.zero_add]
        exact hs
      · split at h
        · rename_i hc3
          simp only [nbeq] at hc3
          subst hc3
          simp only [Option.some.injEq, Prod.mk.injEq] at h
          obtain ⟨rfl, rfl⟩ := h
          simp only [decide_eq_true_eq] at hvc
          exact ⟨_, hr, _, rfl, hp.sub_lo hvc⟩
        · cases h

theorem snd_fld (hT : TOK P T) {o : Oper} {t : TypeId} {y : Operand} {y' : XO} {f : Nat} {q : Field} {fs : Array Field} {s b : Nat} {z : Option AV} {k : LK} (ho : o.op = .field t y f) (hc : cO y = some y')
    (ht : T t = some ⟨.struct fs, s, b, z⟩) (hq : fs[f]? = some q) (hk : lkT T q.type = some k) : Snd P cmp r Γ o (.fld q.offset k y') := by
  refine snd_pure (by simp [ho]) fun ctx m hp w a ev base e hE hH hx hvc => ?_
  have hv := hE y y' hc (by simp [need, XI.opnds])
  simp only [xi] at hx
  split at hx
  case h_2 => cases hx
  rename_i pre n g hb
  rw [hb] at hv
  obtain ⟨cs, hv, hpr⟩ := hv
  cases hl : ldO k (.row 0 pre n g) q.offset 0 with
  | none => simp [hl] at hx
  | some rv =>
    simp only [hl, Option.bind_some, pureE, Option.some.injEq] at hx
    subst hx
    obtain ⟨u, h1, h2⟩ := part_snd hT hpr hk hl hvc w
    refine ⟨rfl, rfl, u, ?_, h2⟩
    rw [Nat.add_zero] at h1
    simp [execOp, ho, hv, Instr.field, run_underlying (T_struct hT ht), hq, asAgg, h1]

theorem snd_idx (hT : TOK P T) {o : Oper} {t e' : TypeId} {y i : Operand} {y' i' : XO} {k n : Nat} {s b : Nat} {z : Option AV} {lk : LK} (ho : o.op = .index t y i) (hc : cO y = some y') (hi : cO i = some i')
    (ht : T t = some ⟨.array k e', s, b, z⟩) (hn : sizeT T e' = some n) (hk : lkT T e' = some lk) : Snd P cmp r Γ o (.idx k n lk y' i') := by
  refine snd_pure (by simp [ho]) fun ctx m hp w a ev base e hE hH hx hvc => ?_
  have hv := hE y y' hc (by simp [need, XI.opnds])
  have hiv := hE i i' hi (by simp [need, XI.opnds])
  simp only [xi] at hx
  split at hx
  case h_2 => cases hx
  rename_i pre mm g kk aa hb hb2
  rw [hb] at hv
  rw [hb2, TR_int] at hiv
  obtain ⟨cs, hv, hpr⟩ := hv
  cases hl : ldO lk (.row 0 pre mm g) 0 (aa.toNat * n) with
  | none => simp [hl] at hx
  | some rv =>
    simp only [hl, Option.bind_some, pureE, Option.some.injEq] at hx
    subst hx
    simp only [Bool.and_eq_true, decide_eq_true_eq] at hvc
    obtain ⟨u, h1, h2⟩ := part_snd hT hpr hk hl hvc.1.1 w
    refine ⟨rfl, rfl, u, ?_, h2⟩
    have hc2 : 0 ≤ aa ∧ aa < (k : Int) := ⟨hvc.1.2, hvc.2⟩
    rw [Nat.zero_add] at h1
    simp [execOp, ho, hv, hiv, Instr.index, asIntOf, run_underlying (T_und hT ht), T_size hT hn, hc2, h1]

theorem cOs_spec : ∀ {l : List Operand} {l' : List XO}, cOs l = some l' → l'.length = l.length ∧ ∀ (m : MM) (ev : XO → TV) (a : Act), (∀ y xo, cO y = some xo → xo ∈ l' → TR m (ev xo) (a.eval y)) → All2 (TR m) (l'.map ev) (l.map a.eval)
  | [], l', h => by simp [cOs] at h; subst h; exact ⟨rfl, fun _ _ _ _ => trivial⟩
  | x :: l, l', h => by
    simp only [cOs, Option.bind_eq_some_iff, Option.map_eq_some_iff] at h
    obtain ⟨y, h1, r, h2, rfl⟩ := h
    obtain ⟨h3, h4⟩ := cOs_spec h2
    exact ⟨by simp [h3], fun m ev a hE => ⟨hE x y h1 (by simp), h4 m ev a fun q xo e hm => hE q xo e (by simp [hm])⟩⟩

theorem allIds_spec {m : MM} : ∀ {l : List TV} {ids : List Nat} {vs : List Value}, allIds l = some ids → All2 (TR m) l vs → All2 (fun id x => ∃ mb b, m id = some mb ∧ mb.b = some b ∧ x = Value.pointer (some ⟨b, mb.base + (0 + 0), none⟩)) ids vs
  | [], ids, [], h, _ => by simp [allIds] at h; subst h; trivial
  | [], _, _ :: _, _, h => h.elim
  | tv :: l, ids, vs, h, hv => by
    unfold allIds at h
    split at h
    · rename_i e; cases e
    · rename_i id rest e
      cases e
      cases hr : allIds l with
      | none => simp [hr] at h
      | some r =>
        simp [hr] at h
        subst h
        cases vs with
        | nil => exact hv.elim
        | cons v vs => exact ⟨hv.1, allIds_spec hr hv.2⟩
    · cases h

theorem snd_mkf {o : Oper} {f : FuncId} {first caps : Array Operand} {l : List XO} (ho : o.op = .makeFunc (.func f) first caps) (hf : first.size = 0) (hl : cOs caps.toList = some l) : Snd P cmp r Γ o (.mkf f l) := by
  refine snd_pure (by simp [ho]) fun ctx m hp w a ev base e hE hH hx hvc => ?_
  simp only [xi] at hx
  cases hi : allIds (l.map ev) with
  | none => simp [hi] at hx
  | some ids =>
    simp only [hi, Option.bind_some, pureE, Option.some.injEq] at hx
    subst hx
    obtain ⟨_, h2⟩ := cOs_spec hl
    have h3 := allIds_spec hi (h2 m ev a fun y xo e hm => hE y xo e (by simpa [need, XI.opnds] using hm))
    have hf0 : first = #[] := Array.eq_empty_of_size_eq_zero hf
    subst hf0
    refine ⟨rfl, rfl, .func (.func f) #[] (caps.map a.eval), by simp [execOp, ho, Instr.makeFunc], _, ?_, h3⟩
    rw [← Array.toList_map]

theorem snd_len (hT : TOK P T) {o : Oper} {c : Call} {y : Operand} {y' : XO} {t e' : TypeId} {s b : Nat} {z : Option AV} (ho : o.op = .call c) (hcal : c.callee = .builtin .len) (hargs : c.args = #[y]) (hat : c.argTypes = #[t]) (ht : T t = some ⟨.slice e', s, b, z⟩)
    (hc : cO y = some y') : Snd P cmp r Γ o (.len y') := by
  refine snd_pure (by simp [ho]) fun ctx m hp w a ev base e hE hH hx hvc => ?_
  have hv := hE y y' hc (by simp [need, XI.opnds])
  have hex : ∀ {v' : Value}, (Builtin.len_ #[t] o.type #[a.eval y]).run P w = .ok v' w → (execOp a.eval o).run P w = .ok (.value v') w := fun hr => by
    simp [execOp, ho, resolve, hcal, invoke, builtin, hargs, hat, hr]
  have hu := T_und hT ht
  simp only [xi] at hx
  split at hx
  · rename_i h1
    rw [h1] at hv
    simp only [pureE, Option.some.injEq] at hx
    subst hx
    refine ⟨rfl, rfl, _, hex ?_, rfl⟩
    obtain ⟨mb, _, _, ⟨_, h, _, h4, _⟩ | ⟨b, o', _, h, _⟩⟩ := hv
    · simp [Builtin.len_, run_underlying hu, h, goInt, h4]
    · simp [Builtin.len_, run_underlying hu, h, goInt]
  · rename_i h1
    rw [h1] at hv
    simp only [pureE, Option.some.injEq] at hx
    subst hx
    obtain ⟨mb, b, cc, _, _, h⟩ := hv
    exact ⟨rfl, rfl, _, hex (by simp [Builtin.len_, run_underlying hu, h, goInt]), rfl⟩
  · rename_i h1
    rw [h1] at hv
    simp only [pureE, Option.some.injEq] at hx
    subst hx
    have h : a.eval y = .slice none 0 0 := hv
    exact ⟨rfl, rfl, _, hex (by simp [Builtin.len_, run_underlying hu, h, goInt]), rfl⟩
  · cases hx

theorem snd_lenM (hT : TOK P T) {o : Oper} {c : Call} {y : Operand} {y' : XO} {t k' e' : TypeId} {s b : Nat} {z : Option AV} (ho : o.op = .call c) (hcal : c.callee = .builtin .len) (hargs : c.args = #[y]) (hat : c.argTypes = #[t]) (ht : T t = some ⟨.map k' e', s, b, z⟩)
    (hc : cO y = some y') : Snd P cmp r Γ o (.lenM y') := by
  refine snd_pure (by simp [ho]) fun ctx m hp w a ev base e hE hH hx hvc => ?_
  have hv := hE y y' hc (by simp [need, XI.opnds])
  have hex : ∀ {v' : Value}, (Builtin.len_ #[t] o.type #[a.eval y]).run P w = .ok v' w → (execOp a.eval o).run P w = .ok (.value v') w := fun hr => by
    simp [execOp, ho, resolve, hcal, invoke, builtin, hargs, hat, hr]
  have hu := T_und hT ht
  simp only [xi] at hx
  split at hx
  · rename_i h1
    rw [h1] at hv
    simp only [pureE, Option.some.injEq] at hx
    subst hx
    have h : a.eval y = .map none := hv
    exact ⟨rfl, rfl, _, hex (by simp [Builtin.len_, run_underlying hu, h, goInt]), rfl⟩
  · rename_i id h1
    rw [h1] at hv
    split at hx
    case h_2 => cases hx
    rename_i ro kk vk ents hho
    simp only [Option.some.injEq] at hx
    subst hx
    obtain ⟨mb, b, g1, g2, h⟩ := hv
    obtain ⟨mb', g1', hor, _⟩ := hH.obj id _ hho
    rw [g1] at g1'
    cases g1'
    obtain ⟨b', es, clock, k1, k2, k3⟩ := hor
    rw [g2] at k1
    cases k1
    have hl := k3.length
    refine ⟨rfl, rfl, .int .i64 ents.length, hex ?_, rfl⟩
    have hg : (getObj b).run P w = .ok (.map es clock) w := by simp [getObj, Sem.run, k2]
    simp only [Array.length_toList] at hl
    simp [Builtin.len_, run_underlying hu, h, goInt, hg, hl]
  · cases hx

theorem allInts_spec {m : MM} : ∀ {l : List TV} {k : IntKind} {q : List Int} {vs : List Value}, allInts l = some (k, q) → All2 (TR m) l vs → vs = q.map (Value.int k)
  | [], k, q, vs, h, _ => by simp [allInts] at h
  | [tv], k, q, vs, h, hv => by
    match vs, hv with
    | [v], hv =>
      unfold allInts at h
      split at h
      · rename_i e
        cases e
        cases h
        have : v = .int k _ := hv.1
        rw [this]; rfl
      · rename_i h1 e
        cases e
        simp [allInts] at h
      · cases h
  | tv :: tv' :: l, k, q, vs, h, hv => by
    match vs, hv with
    | v :: vs, hv =>
      unfold allInts at h
      split at h
      · rename_i e; cases e
      · rename_i k' a rest h1 e
        cases e
        cases hr : allInts (tv' :: l) with
        | none => simp [hr] at h
        | some kq =>
          obtain ⟨k2, q2⟩ := kq
          simp only [hr, Option.bind_some] at h
          split at h
          case isFalse => cases h
          rename_i hk
          subst hk
          cases h
          have e1 : v = .int _ a := hv.1
          rw [e1, allInts_spec hr hv.2]
          rfl
      · cases h

theorem run_min_fold (k : IntKind) (w : World) : ∀ (q : List Int) (a : Int), ((q.map (Value.int k)).foldlM Builtin.min2 (.int k a)).run P w = .ok (.int k (q.foldl min a)) w
  | [], a => by simp
  | b :: q, a => by
    have e : (if b < a then b else a) = min a b := by omega
    simp [List.foldlM_cons, Builtin.min2, run_min_fold k w q, e]

theorem run_max_fold (k : IntKind) (w : World) : ∀ (q : List Int) (a : Int), ((q.map (Value.int k)).foldlM Builtin.max2 (.int k a)).run P w = .ok (.int k (q.foldl max a)) w
  | [], a => by simp
  | b :: q, a => by
    have e : (if a < b then b else a) = max a b := by omega
    simp [List.foldlM_cons, Builtin.max2, run_max_fold k w q, e]

theorem snd_mn {o : Oper} {c : Call} {l : List XO} (ho : o.op = .call c) (hcal : c.callee = .builtin .min) (hl : cOs c.args.toList = some l) : Snd P cmp r Γ o (.mn l) := by
  refine snd_pure (by simp [ho]) fun ctx m hp w a ev base e hE hH hx hvc => ?_
  simp only [xi] at hx
  split at hx
  case h_2 => cases hx
  rename_i k x q hi
  simp only [pureE, Option.some.injEq] at hx
  subst hx
  obtain ⟨_, h2⟩ := cOs_spec hl
  have h3 := allInts_spec hi (h2 m ev a fun y xo e hm => hE y xo e (by simpa [need, XI.opnds] using hm))
  refine ⟨rfl, rfl, .int k (q.foldl min x), ?_, rfl⟩
  have hm : (Builtin.min_ c.argTypes o.type (c.args.map a.eval)).run P w = .ok (.int k (q.foldl min x)) w := by
    unfold Builtin.min_
    rw [Array.toList_map, h3]
    simp only [List.map_cons]
    exact run_min_fold k w q x
  simp [execOp, ho, resolve, hcal, invoke, builtin, hm]

theorem snd_mx {o : Oper} {c : Call} {l : List XO} (ho : o.op = .call c) (hcal : c.callee = .builtin .max) (hl : cOs c.args.toList = some l) : Snd P cmp r Γ o (.mx l) := by
  refine snd_pure (by simp [ho]) fun ctx m hp w a ev base e hE hH hx hvc => ?_
  simp only [xi] at hx
  split at hx
  case h_2 => cases hx
  rename_i k x q hi
  simp only [pureE, Option.some.injEq] at hx
  subst hx
  obtain ⟨_, h2⟩ := cOs_spec hl
  have h3 := allInts_spec hi (h2 m ev a fun y xo e hm => hE y xo e (by simpa [need, XI.opnds] using hm))
  refine ⟨rfl, rfl, .int k (q.foldl max x), ?_, rfl⟩
  have hm : (Builtin.max_ c.argTypes o.type (c.args.map a.eval)).run P w = .ok (.int k (q.foldl max x)) w := by
    unfold Builtin.max_
    rw [Array.toList_map, h3]
    simp only [List.map_cons]
    exact run_max_fold k w q x
  simp [execOp, ho, resolve, hcal, invoke, builtin, hm]

/-- make of a slice: the cells' zero is one cell -/
theorem run_mk (hT : TOK P T) {t e : TypeId} {s b : Nat} {z : Option AV} {ti : TI} {zv : Value} {i : TypeInfo} (ht : T t = some ⟨.slice e, s, b, z⟩) (he : T e = some ti) (hi : P.info? e = some i) (hs : ti.size = 1) (hb : ti.bytes ≤ 1000) (hz : i.zero = some zv) (hzc : zv.cells = #[zv])
    (n : Nat) (hn : n ≤ 1000000000) (k k' : IntKind) (w : World) : (Instr.makeSlice t (.int k n) (.int k' n)).run P w = .ok (.slice (some ⟨w.heap.size, 0, none⟩) n n) (w.alloc (.cells (List.replicate n zv).toArray e)) := by
  obtain ⟨i', h1, h2, h3, _⟩ := hT.info e ti he
  rw [hi] at h1
  cases h1
  have hbn : ti.bytes * n ≤ 1000 * 1000000000 := Nat.mul_le_mul hb hn
  have hbn' : ((i.bytes : Int) * (n : Int)) ≤ 1000 * 1000000000 := by
    rw [h3, ← Int.natCast_mul]
    omega
  have hr := run_make (P := P) w t e i zv (T_und hT ht) hi hz k k' n n (by omega) (by omega) (by omega) (by omega)
  rw [hr]
  have hrow : madeCells zv.cells (n * i.size) = (List.replicate n zv).toArray := by
    unfold madeCells
    rw [h2, hs, Nat.mul_one]
    exact zrow n (by rw [hzc]; exact Nat.one_pos) (fun j hj => by
      rw [hzc] at hj ⊢
      have hj0 : j = 0 := by
        have : j < 1 := hj
        omega
      subst hj0
      rfl)
  simp only [Int.toNat_natCast, hrow]

theorem sameO_eval {l c : Operand} (h : sameO l c = true) {a : Act} {k : IntKind} {n : Int} (hv : a.eval l = .int k n) : ∃ k', a.eval c = .int k' n := by
  unfold sameO at h
  split at h
  · have := eq_of_beq h
    subst this
    exact ⟨k, hv⟩
  · have := eq_of_beq h
    subst this
    have hv' : Value.int _ _ = Value.int k n := hv
    cases hv'
    exact ⟨_, rfl⟩
  · cases h

theorem snd_mkS (hT : TOK P T) {o : Oper} {t e' : TypeId} {l c : Operand} {x : XO} {s b : Nat} {z : Option AV} {k : IntKind} (ho : o.op = .makeSlice t l c) (hsame : sameO l c = true) (hc : cO l = some x) (ht : T t = some ⟨.slice e', s, b, z⟩)
    (he : T e' = some ⟨.int k, 1, 8, some (.s (.int k 0))⟩) : Snd P cmp r Γ o (.mkS e' k x) := by
  intro ctx m hp w a ev base e K Q hE hH hfr hup hx hvc hK
  have hv := hE l x hc (by simp [need, XI.opnds])
  simp only [xi] at hx
  split at hx
  case h_2 => cases hx
  rename_i kk aa hb
  rw [hb, TR_int] at hv
  simp only [Option.some.injEq] at hx
  subst hx
  simp only [Bool.and_eq_true, decide_eq_true_eq, bndL] at hvc
  obtain ⟨n, rfl⟩ := Int.eq_ofNat_of_zero_le hvc.1
  obtain ⟨k', hv'⟩ := sameO_eval hsame hv
  obtain ⟨i, h1, _, _, h4⟩ := hT.info e' _ he
  obtain ⟨zv, h5, h6⟩ := h4 _ rfl
  have hzv : zv = .int k 0 := h6 (fun _ => none)
  subst hzv
  have hm := hH.dom base (by simpa using hfr 0 (by simp))
  have hr := run_mk hT ht he h1 rfl (by simp) h5 rfl n (by simpa using hvc.2) kk k' w
  simp only [Int.ofNat_eq_natCast, Int.toNat_natCast] at hK hvc ⊢
  refine wpI (by simp [ho]) (v := .slice (some ⟨w.heap.size, 0, none⟩) n n) (w' := w.alloc (.cells (List.replicate n (.int k 0)).toArray e')) (by simp [execOp, ho, hv, hv', hr]) (hK _ _ (m.put base ⟨some w.heap.size, 0, n⟩) ?_ ?_)
  · exact ⟨_, m.put_same _ _, by simp, .inr ⟨_, 0, rfl, rfl, .inr (by simp)⟩⟩
  · refine Stp.new1 hm rfl rfl rfl rfl rfl (.inr ⟨_, _, rfl, rfl, heap_alloc_new w _, by simp, ?_, fun j hj => ?_⟩)
    · show n ≤ maxLen
      unfold maxLen
      omega
    · simp only [List.length_replicate] at hj
      simp [hj, List.getD]

theorem snd_mkSB (hT : TOK P T) {o : Oper} {t e' : TypeId} {l c : Operand} {x : XO} {s b : Nat} {z : Option AV} (ho : o.op = .makeSlice t l c) (hsame : sameO l c = true) (hc : cO l = some x) (ht : T t = some ⟨.slice e', s, b, z⟩)
    (he : T e' = some ⟨.bool, 1, 1, some (.s (.bool false))⟩) : Snd P cmp r Γ o (.mkSB e' x) := by
  intro ctx m hp w a ev base e K Q hE hH hfr hup hx hvc hK
  have hv := hE l x hc (by simp [need, XI.opnds])
  simp only [xi] at hx
  split at hx
  case h_2 => cases hx
  rename_i kk aa hb
  rw [hb, TR_int] at hv
  simp only [Option.some.injEq] at hx
  subst hx
  simp only [Bool.and_eq_true, decide_eq_true_eq, bndL] at hvc
  obtain ⟨n, rfl⟩ := Int.eq_ofNat_of_zero_le hvc.1
  obtain ⟨k', hv'⟩ := sameO_eval hsame hv
  obtain ⟨i, h1, _, _, h4⟩ := hT.info e' _ he
  obtain ⟨zv, h5, h6⟩ := h4 _ rfl
  have hzv : zv = .bool false := h6 (fun _ => none)
  subst hzv
  have hm := hH.dom base (by simpa using hfr 0 (by simp))
  have hr := run_mk hT ht he h1 rfl (by simp) h5 rfl n (by simpa using hvc.2) kk k' w
  simp only [Int.ofNat_eq_natCast, Int.toNat_natCast] at hK hvc ⊢
  refine wpI (by simp [ho]) (v := .slice (some ⟨w.heap.size, 0, none⟩) n n) (w' := w.alloc (.cells (List.replicate n (.bool false)).toArray e')) (by simp [execOp, ho, hv, hv', hr]) (hK _ _ (m.put base ⟨some w.heap.size, 0, n⟩) ?_ ?_)
  · exact ⟨_, m.put_same _ _, by simp, .inr ⟨_, 0, rfl, rfl, .inr (by simp)⟩⟩
  · refine Stp.new1 hm rfl rfl rfl rfl rfl ⟨_, _, rfl, rfl, heap_alloc_new w _, [], trivial, by simp, ?_⟩
    apply List.ext_getElem?
    intro j
    by_cases hj : j < n
    · rw [List.nil_append, bcells_get _ _ _ hj]; simp [hj, ff]
    · rw [List.getElem?_eq_none (by simp; omega), List.getElem?_eq_none (by simp [bcells_length]; omega)]

end
end Go.Proofs.Yteekkjfjpoaihaa.Eng

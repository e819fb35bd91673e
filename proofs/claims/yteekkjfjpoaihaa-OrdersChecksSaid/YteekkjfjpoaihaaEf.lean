/- The engine, part 6: stores. -/
import Derived.Test.YteekkjfjpoaihaaEe
set_option linter.all false
namespace Go.Proofs.Yteekkjfjpoaihaa.Eng
open Go

section
variable {P : Program} {T : Tab} {cmp : Cmp} {r : Option Nat} {Γ : Cal → Option Spec}

theorem splice_set {α : Type} (l : List α) (o : Nat) (v : α) (h : o < l.length) : l.take o ++ [v] ++ l.drop (o + 1) = l.set o v := by
  rw [List.set_eq_take_append_cons_drop, if_pos h]
  simp

theorem PR.set_lo {m : MM} {pre : List SV} {n : Nat} {f : Nat → Bool} {cs : List Value} (h : PR m pre n f cs) {i : Nat} {x : SV} {v : Value} (hi : i < pre.length) (hx : SR m x v) (hv : v.oneCell' = true) : PR m (pre.set i x) n f (cs.set i v) := by
  obtain ⟨vs, h1, h2, rfl⟩ := h
  refine ⟨vs.set i v, h1.set hx, fun u hu => ?_, ?_⟩
  · rcases List.mem_or_eq_of_mem_set hu with hu | rfl
    · exact h2 u hu
    · exact hv
  · rw [List.set_append_left _ _ (by rw [h1.length]; exact hi)]

theorem PR.set_hi {m : MM} {pre : List SV} {n : Nat} {f : Nat → Bool} {cs : List Value} (h : PR m pre n f cs) {i : Nat} {b : Bool} (hi : i < n) : PR m pre n (fun j => bif Nat.beq j i then b else f j) (cs.set (pre.length + i) (.bool b)) := by
  obtain ⟨vs, h1, h2, rfl⟩ := h
  refine ⟨vs, h1, h2, ?_⟩
  rw [List.set_append_right _ _ (by rw [h1.length]; omega), h1.length]
  congr 1
  rw [Nat.add_sub_cancel_left]
  apply List.ext_getElem?
  intro j
  by_cases hj : j < n
  · rw [bcells_get _ _ _ hj]
    by_cases hji : j = i
    · subst hji
      rw [List.getElem?_set_self (by rw [bcells_length]; exact hj)]
      simp
    · rw [List.getElem?_set_ne (fun e => hji e.symm), bcells_get _ _ _ hj, beqF hji]
      rfl
  · rw [List.getElem?_eq_none (by simp [bcells_length]; omega), List.getElem?_eq_none (by simp [bcells_length]; omega)]

theorem PR.none {m : MM} {n : Nat} {f : Nat → Bool} {cs : List Value} (h : PR m [] n f cs) : cs = bcells n f := by
  obtain ⟨vs, h1, _, rfl⟩ := h
  cases vs with
  | nil => rfl
  | cons _ _ => exact h1.elim

theorem cells_one {v : Value} (h : v.oneCell' = true) : v.cells = #[v] := by cases v <;> first | rfl | simp [Value.oneCell'] at h

theorem intsOf_get {k : IntKind} : ∀ {pre : List SV} {l : List Int}, intsOf k pre = some l → l.length = pre.length ∧ ∀ j, j < pre.length → pre[j]? = some (.int k (l.getD j 0))
  | [], l, h => by simp [intsOf] at h; subst h; simp
  | .int k' a :: r, l, h => by
    simp only [intsOf] at h
    split at h
    · rename_i hk
      subst hk
      cases hr : intsOf k r with
      | none => simp [hr] at h
      | some q =>
        simp [hr] at h
        subst h
        obtain ⟨h1, h2⟩ := intsOf_get hr
        refine ⟨by simp [h1], fun j hj => ?_⟩
        cases j with
        | zero => simp
        | succ j => simpa using h2 j (by simpa using hj)
    · cases h
  | .bool _ :: _, _, h => by simp [intsOf] at h
  | .nilp :: _, _, h => by simp [intsOf] at h
  | .ptr .. :: _, _, h => by simp [intsOf] at h
  | .nils :: _, _, h => by simp [intsOf] at h
  | .sl .. :: _, _, h => by simp [intsOf] at h
  | .vw .. :: _, _, h => by simp [intsOf] at h
  | .nilm :: _, _, h => by simp [intsOf] at h
  | .mp _ :: _, _, h => by simp [intsOf] at h
  | .nilf :: _, _, h => by simp [intsOf] at h
  | .fn .. :: _, _, h => by simp [intsOf] at h
  | .yield _ :: _, _, h => by simp [intsOf] at h
  | .any :: _, _, h => by simp [intsOf] at h

theorem PR.ints {m : MM} {k : IntKind} {pre : List SV} {f : Nat → Bool} {cs : List Value} {l : List Int} (h : PR m pre 0 f cs) (hl : intsOf k pre = some l) : cs = l.map (Value.int k) := by
  obtain ⟨h1, h2⟩ := intsOf_get hl
  have hlen := h.length
  apply List.ext_getElem?
  intro j
  by_cases hj : j < pre.length
  · obtain ⟨v, hv1, hv2⟩ := h.get_lo hj
    have e : pre.getD j .any = .int k (l.getD j 0) := by simp [List.getD, h2 j hj]
    rw [e] at hv2
    rw [hv1, show v = .int k (l.getD j 0) from hv2]
    simp [List.getD, h1, hj]
  · rw [List.getElem?_eq_none (by omega), List.getElem?_eq_none (by simp; omega)]

theorem setMany_length : ∀ (q : List Int) (l : List Int) (o : Nat), (setMany l o q).length = l.length
  | [], _, _ => rfl
  | a :: q, l, o => by simp [setMany, setMany_length q]

theorem setMany_get : ∀ (q : List Int) (l : List Int) (o j : Nat), o + q.length ≤ l.length → (setMany l o q).getD j 0 = if o ≤ j ∧ j < o + q.length then q.getD (j - o) 0 else l.getD j 0
  | [], l, o, j, _ => by simp [setMany]; omega
  | a :: q, l, o, j, h => by
    simp only [List.length_cons] at h
    simp only [setMany]
    rw [setMany_get q _ _ _ (by simp; omega)]
    by_cases h1 : o + 1 ≤ j ∧ j < o + 1 + q.length
    · rw [if_pos h1, if_pos (by simp; omega)]
      rw [show j - o = (j - (o + 1)) + 1 by omega]
      simp
    · rw [if_neg h1]
      by_cases h2 : j = o
      · subst h2
        rw [if_pos (by simp)]
        simp [List.getD, (by omega : j < l.length)]
      · rw [if_neg (by simp; omega)]
        have h3 : ¬ o = j := fun e => h2 e.symm
        simp only [List.getD, List.getElem?_set, h3, if_false]

/-- what a store makes of a world -/
structure Wr (w w' : World) (b : Nat) : Prop where
  size : w'.heap.size = w.heap.size
  other : ∀ k, k ≠ b → w'.heap[k]? = w.heap[k]?
  os : w'.os = w.os
  tape : w'.tape = w.tape
  output : w'.output = w.output

theorem Wr.setRow (w : World) (b : Nat) (cs : Array Value) : Wr w (w.setRow b cs) b :=
  ⟨by simp [World.setRow], fun k hk => setRow_other w b k cs hk, rfl, rfl, rfl⟩

theorem st_row (hT : TOK P T) {t : TypeId} {n : Nat} {w : World} {b o : Nat} {ty : TypeId} {cur vs : List Value} {val : Value} (hs : sizeT T t = some n) (hn : vs.length = n) (hval : val.cells = vs.toArray)
    (hg : w.heap[b]? = some (.cells cur.toArray ty (0, 0))) (hfit : o + vs.length ≤ cur.length) (h1 : ∀ v ∈ vs, Value.oneCell' v = true) :
    ∃ w', (storeVar t ⟨b, o, none⟩ val).run P w = .ok () w' ∧ Wr w w' b ∧ w'.heap[b]? = some (.cells (cur.take o ++ vs ++ cur.drop (o + vs.length)).toArray ty (0, 0)) := by
  have hst := run_storeCells_at P b o ty vs 0 cur.toArray w hg (by simpa using hfit) h1
  simp only [Nat.add_zero] at hst
  refine ⟨w.setRow b (cur.take o ++ vs ++ cur.drop (o + vs.length)).toArray, ?_, Wr.setRow w b _, setRow_heap w b cur.toArray _ ty (0, 0) hg⟩
  unfold storeVar
  simp only [Sem.run_bind, T_size hT hs, Result.andThen_ok, hval]
  rw [if_neg (by simp [hn])]
  exact hst

theorem st_snd (hT : TOK P T) {m : MM} {mb : MB} {b : Nat} {o o' : AO} {w : World} {k : LK} {t : TypeId} {base off : Nat} {vc : Bool} {v : AV} {val : Value} (hk : lkT T t = some k) (ho : OR cmp m mb o w) (hb : mb.b = some b)
    (h : stO k o base off v = some (vc, o')) (hvc : vc = true) (hv : AR m v val) :
    ∃ w', (storeVar t ⟨b, mb.base + (base + off), none⟩ val).run P w = .ok () w' ∧ Wr w w' b ∧ OR cmp m mb o' w' ∧ HO.live ⟨false, o'⟩ = true := by
  cases k with
  | one =>
    have hsz := (lk_one hT hk).2
    cases o <;> simp only [stO, reduceCtorEq] at h
    case row ty pre n f =>
      obtain ⟨b', cs, h1, h2, h3, h4⟩ := ho
      rw [hb] at h1
      cases h1
      have hlen := h4.length
      cases v with
      | pb => simp [stO] at h
      | s x =>
        simp only [stO, Bool.cond_eq_ite] at h
        have hxv : SR m x val := hv
        rw [h2, Nat.zero_add]
        split at h
        · rename_i hlt
          split at h
          case isFalse => cases h
          rename_i hkn
          simp only [Option.some.injEq, Prod.mk.injEq] at h
          obtain ⟨rfl, rfl⟩ := h
          rw [Nat.blt_eq] at hvc
          have h1c := hxv.one hkn
          obtain ⟨w', hr, hw, hh⟩ := st_row hT (vs := [val]) hsz rfl (cells_one h1c) h3 (o := base + off) (by simp; omega) (by simpa using h1c)
          refine ⟨w', hr, hw, ⟨b, _, hb, h2, hh, ?_⟩, rfl⟩
          rw [show (base + off + [val].length) = base + off + 1 from rfl, splice_set _ _ _ (by omega)]
          exact h4.set_lo hvc hxv h1c
        · rename_i hlt
          split at h
          case h_2 => cases h
          rename_i bb
          simp only [Option.some.injEq, Prod.mk.injEq] at h
          obtain ⟨rfl, rfl⟩ := h
          simp only [decide_eq_true_eq] at hvc
          rw [Nat.blt_eq] at hlt
          have hval : val = .bool bb := hxv
          subst hval
          obtain ⟨w', hr, hw, hh⟩ := st_row hT (vs := [.bool bb]) (val := .bool bb) hsz rfl rfl h3 (o := base + off) (by simp; omega) (by simp [Value.oneCell'])
          refine ⟨w', hr, hw, ⟨b, _, hb, h2, hh, ?_⟩, rfl⟩
          rw [show (base + off + [Value.bool bb].length) = base + off + 1 from rfl, splice_set _ _ _ (by omega)]
          have := h4.set_hi (b := bb) hvc
          rw [show pre.length + (base - pre.length + off) = base + off by omega] at this
          simp only [Bool.cond_eq_ite] at this
          exact this
    case ivec ty k sz l =>
      cases v with
      | pb => simp [stO] at h
      | s x =>
        cases x <;> simp only [stO, reduceCtorEq] at h
        rename_i k' a
        split at h
        case isFalse => cases h
        rename_i hkk
        subst hkk
        simp only [Option.some.injEq, Prod.mk.injEq] at h
        obtain ⟨rfl, rfl⟩ := h
        simp only [decide_eq_true_eq] at hvc
        have hval : val = .int k a := hv
        subst hval
        rcases ho with ⟨h1, hl, _⟩ | ⟨b', cur, h1, h2, h3, h4, h5, h6⟩
        · subst hl; simp at hvc
        · rw [hb] at h1
          cases h1
          rw [h2, Nat.zero_add]
          have hcur : base + off < cur.size := (Array.getElem?_eq_some_iff.1 (h6 _ hvc)).1
          obtain ⟨w', hr, hw, hh⟩ := st_row hT (vs := [.int k a]) (val := .int k a) (cur := cur.toList) hsz rfl rfl h3 (o := base + off) (by simp; omega) (by simp [Value.oneCell'])
          refine ⟨w', hr, hw, .inr ⟨b, _, hb, h2, hh, ?_, h5, fun j hj => ?_⟩, rfl⟩
          · simp; omega
          · rw [show (base + off + [Value.int k a].length) = base + off + 1 from rfl, splice_set _ _ _ (by simpa using hcur)]
            simp only [List.length_set] at hj
            simp only [List.getElem?_toArray, List.getElem?_set, List.getD]
            by_cases hji : base + off = j
            · simp [hji, (by omega : j < cur.size), hj]
            · simp only [hji, if_false]
              have := h6 j hj
              simpa [List.getD] using this
  | many p q =>
    have hsz := (lk_many hT hk).2
    cases o <;> simp only [stO, reduceCtorEq] at h
    case row ty pre n f =>
      obtain ⟨b', cs, h1, h2, h3, h4⟩ := ho
      rw [hb] at h1
      cases h1
      have hlen := h4.length
      cases v with
      | s => simp [stO] at h
      | pb pre' n' f' =>
        obtain ⟨cs', rfl, h4'⟩ := hv
        have hlen' := h4'.length
        simp only [stO, Bool.cond_eq_ite] at h
        rw [h2, Nat.zero_add]
        split at h
        · rename_i hc
          simp only [Bool.and_eq_true, nbeq] at hc
          obtain ⟨⟨⟨⟨⟨rfl, rfl⟩, rfl⟩, rfl⟩, hpl⟩, hkn⟩ := hc
          simp only [Option.some.injEq, Prod.mk.injEq] at h
          obtain ⟨rfl, rfl⟩ := h
          simp only [decide_eq_true_eq] at hvc
          subst hvc
          obtain ⟨w', hr, hw, hh⟩ := st_row hT (vs := cs') (val := .agg cs'.toArray) hsz (by omega) rfl h3 (o := 0 + 0) (by omega) h4'.one
          refine ⟨w', hr, hw, ⟨b, cs', hb, h2, ?_, h4'⟩, rfl⟩
          rw [hh]
          simp only [Nat.add_zero, List.take_zero, List.nil_append]
          rw [List.drop_eq_nil_of_le (by omega), List.append_nil]
        · split at h
          case isFalse => cases h
          rename_i hc
          simp only [Bool.and_eq_true, nbeq] at hc
          obtain ⟨⟨⟨⟨rfl, rfl⟩, rfl⟩, hpl⟩, rfl⟩ := hc
          have hpe : pre' = [] := List.eq_nil_of_length_eq_zero hpl
          subst hpe
          simp only [Option.some.injEq, Prod.mk.injEq] at h
          obtain ⟨rfl, rfl⟩ := h
          simp only [decide_eq_true_eq] at hvc
          subst hvc
          obtain ⟨w', hr, hw, hh⟩ := st_row hT (vs := cs') (val := .agg cs'.toArray) hsz (by simp at hlen'; omega) rfl h3 (o := pre.length + 0) (by simp at hlen'; omega) h4'.one
          refine ⟨w', hr, hw, ⟨b, _, hb, h2, hh, ?_⟩, rfl⟩
          rw [List.drop_eq_nil_of_le (by simp at hlen'; omega), List.append_nil, h4'.none]
          obtain ⟨vs, g1, g2, rfl⟩ := h4
          refine ⟨vs, g1, g2, ?_⟩
          rw [Nat.add_zero, ← g1.length, List.take_left]
    case ivec ty k sz l =>
      cases v with
      | s => simp [stO] at h
      | pb pre' n' f' =>
        simp only [stO, Bool.cond_eq_ite] at h
        split at h
        case isFalse => cases h
        rename_i hc
        simp only [Bool.and_eq_true, nbeq] at hc
        obtain ⟨⟨rfl, rfl⟩, hpl⟩ := hc
        cases hq : intsOf k pre' with
        | none => simp [hq] at h
        | some qs =>
          simp only [hq, Option.map_some, Option.some.injEq, Prod.mk.injEq] at h
          obtain ⟨rfl, rfl⟩ := h
          simp only [decide_eq_true_eq] at hvc
          obtain ⟨cs', rfl, h4'⟩ := hv
          have hcs := h4'.ints hq
          obtain ⟨hq1, _⟩ := intsOf_get hq
          have hcl : cs'.length = qs.length := by simp [hcs]
          rcases ho with ⟨h1, hl, hcap⟩ | ⟨b', cur, h1, h2, h3, h4, h5, h6⟩
          · rw [hb] at h1; cases h1
          · rw [hb] at h1
            cases h1
            rw [h2, Nat.zero_add]
            have hfit : base + off + cs'.length ≤ cur.size := by
              rcases Nat.eq_zero_or_pos qs.length with h0 | h0
              · rcases Nat.eq_zero_or_pos (base + off) with h00 | h00
                · omega
                · have := (Array.getElem?_eq_some_iff.1 (h6 (base + off - 1) (by omega))).1; omega
              · have := (Array.getElem?_eq_some_iff.1 (h6 (base + off + qs.length - 1) (by omega))).1; omega
            obtain ⟨w', hr, hw, hh⟩ := st_row hT (vs := cs') (val := .agg cs'.toArray) (cur := cur.toList) hsz (by omega) rfl h3 (o := base + off) (by simpa using hfit) h4'.one
            refine ⟨w', hr, hw, .inr ⟨b, _, hb, h2, hh, ?_, h5, fun j hj => ?_⟩, rfl⟩
            · simp; omega
            · rw [setMany_length] at hj
              rw [setMany_get _ _ _ _ (by omega)]
              simp only [List.getElem?_toArray, List.append_assoc]
              by_cases c1 : j < base + off
              · rw [if_neg (by omega), List.getElem?_append_left (by simp; omega), List.getElem?_take, if_pos c1]
                simpa using h6 j hj
              · rw [List.getElem?_append_right (by simp; omega)]
                simp only [List.length_take, Array.length_toList]
                rw [Nat.min_eq_left (by omega)]
                by_cases c2 : j < base + off + qs.length
                · rw [if_pos (by omega), List.getElem?_append_left (by omega), hcs]
                  simp [List.getD, (by omega : j - (base + off) < qs.length)]
                · rw [if_neg (by omega), List.getElem?_append_right (by omega), List.getElem?_drop]
                  rw [show base + off + cs'.length + (j - (base + off) - cs'.length) = j by omega]
                  simpa using h6 j hj

theorem Stp.upd1 {ctx : Ctx} {m : MM} {h : Nat → Option HO} {w w' : World} {base id : Nat} {ho : HO} {mb : MB} {b : Nat} (hH : HRel cmp ctx m h w) (hm : m id = some mb) (hb : mb.b = some b)
    (hw : Wr w w' b) (hor : OR cmp m mb ho.o w') : Stp cmp m m w w' [(id, ho)] base [] where
  ext := m.le_refl
  dom := fun _ _ h => .inl h
  size := Nat.le_of_eq hw.size.symm
  same := fun b' _ hne => hw.other b' fun e => hne (id, ho) (by simp) mb hm (by rw [hb, e])
  os := hw.os
  tape := hw.tape
  output := hw.output
  upd := fun u hu => by
    simp at hu
    subst hu
    exact ⟨mb, hm, hor⟩
  new := fun _ _ h => by simp at h
  ndist := fun _ _ _ _ _ h => by simp at h

theorem snd_st (hT : TOK P T) {o : Oper} {t : TypeId} {y z : Operand} {y' z' : XO} {k : LK} (ho : o.op = .store t y z) (hk : lkT T t = some k) (hc : cO y = some y') (hz : cO z = some z') : Snd P cmp r Γ o (.st k y' z') := by
  intro ctx m hp w a ev base e K Q hE hH hfr hup hx hvc hK
  have hv := hE y y' hc (by simp [need, XI.opnds])
  have hzv := hE z z' hz (by simp [need, XI.opnds])
  simp only [xi] at hx
  split at hx
  case h_2 => cases hx
  rename_i id b' o' v hb hbz
  rw [hb] at hv
  rw [hbz] at hzv
  split at hx
  case h_2 => cases hx
  rename_i ob hho
  obtain ⟨mb, bb, h1, h2, hv⟩ := hv
  obtain ⟨mb', h1', hor, _⟩ := hH.obj id _ hho
  rw [h1] at h1'
  cases h1'
  cases hl : stO k ob b' o' v with
  | none => simp [hl] at hx
  | some rv =>
    simp only [hl, Option.map_some, Option.some.injEq] at hx
    subst hx
    obtain ⟨w', hr, hw, hor', _⟩ := st_snd hT hk hor h2 hl hvc hzv
    refine wpSk (w' := w') (by simp [ho]) ?_ (hK _ _ m trivial (Stp.upd1 hH h1 h2 hw hor'))
    simp [execOp, ho, hv, Instr.storeAt, Instr.sureAddr, hr]

theorem rowOf_snd {m : MM} {ty : TypeId} {v : AV} {o : AO} {val : Value} (h : rowOf ty v = some o) (hv : AR m v val) : ∃ cs : List Value, val.cells = cs.toArray ∧
    ∀ mb b (w : World), mb.b = some b → mb.base = 0 → w.heap[b]? = some (.cells cs.toArray ty (0, 0)) → OR cmp m mb o w := by
  cases v with
  | s x =>
    simp only [rowOf] at h
    split at h
    case isFalse => cases h
    rename_i hk
    cases h
    have h1 := SR.one hv hk
    refine ⟨[val], cells_one h1, fun mb b w e1 e2 e3 => ⟨b, [val], e1, e2, e3, [val], ⟨hv, trivial⟩, by simpa using h1, by simp [bcells]⟩⟩
  | pb pre n f =>
    simp only [rowOf] at h
    split at h
    case isFalse => cases h
    cases h
    obtain ⟨cs, rfl, hp⟩ := hv
    exact ⟨cs, rfl, fun mb b w e1 e2 e3 => ⟨b, cs, e1, e2, e3, hp⟩⟩

theorem T_zero (hT : TOK P T) {t : TypeId} {z : AV} (h : zOf T t = some z) : ∃ zv, (∀ w, (zeroValue t).run P w = .ok zv w) ∧ ∀ m, AR m z zv := by
  unfold zOf at h
  cases ht : T t with
  | none => simp [ht] at h
  | some ti =>
    simp only [ht, Option.bind_some] at h
    obtain ⟨i, h1, _, _, h2⟩ := hT.info t ti ht
    obtain ⟨zv, h3, h4⟩ := h2 z h
    exact ⟨zv, fun w => by simp [zeroValue, typeInfo, h1, h3], h4⟩

/-- a new block for a new id -/
theorem new_row {ctx : Ctx} {m : MM} {h : Nat → Option HO} {w : World} {base : Nat} {ty : TypeId} {v : AV} {o : AO} {val : Value} (hH : HRel cmp ctx m h w) (hfr : h base = none) (hro : rowOf ty v = some o) (hv : AR m v val) :
    ∃ m', Stp cmp m m' w (w.alloc (.cells val.cells ty)) [] base [⟨false, o⟩] ∧ TR m' (.av (.s (.ptr base 0 0))) (.pointer (some ⟨w.heap.size, 0, none⟩)) := by
  have hm := hH.dom base hfr
  have hv' : AR (m.put base ⟨some w.heap.size, 0, val.cells.size⟩) v val := hv.le (MM.le_put hm)
  obtain ⟨cs, h1, h2⟩ := rowOf_snd (cmp := cmp) hro hv'
  refine ⟨m.put base ⟨some w.heap.size, 0, val.cells.size⟩, Stp.new1 hm rfl rfl rfl rfl rfl (h2 _ w.heap.size _ rfl rfl ?_), ⟨_, w.heap.size, m.put_same _ _, rfl, rfl⟩⟩
  rw [h1]
  exact heap_alloc_new w _

theorem snd_alloc (hT : TOK P T) {o : Oper} {t : TypeId} {z : AV} (ho : o.op = .alloc t) (hz : zOf T t = some z) : Snd P cmp r Γ o (.alloc t z) := by
  intro ctx m hp w a ev base e K Q hE hH hfr hup hx hvc hK
  simp only [xi] at hx
  cases hro : rowOf t z with
  | none => simp [hro] at hx
  | some ob =>
    simp only [hro, Option.map_some, Option.some.injEq] at hx
    subst hx
    obtain ⟨zv, h1, h2⟩ := T_zero hT hz
    obtain ⟨m', h3, h4⟩ := new_row hH (by simpa using hfr 0 (by simp)) hro (h2 m)
    refine wpI (by simp [ho]) ?_ (hK _ _ m' h4 h3)
    simp [execOp, ho, Instr.alloc, h1, newVar, newRow]

theorem snd_box {o : Oper} {t : TypeId} {y : Operand} {y' : XO} (ho : o.op = .box t y) (hc : cO y = some y') : Snd P cmp r Γ o (.box t y') := by
  intro ctx m hp w a ev base e K Q hE hH hfr hup hx hvc hK
  have hv := hE y y' hc (by simp [need, XI.opnds])
  simp only [xi] at hx
  split at hx
  case h_2 => cases hx
  rename_i v hb
  rw [hb] at hv
  cases hro : rowOf t v with
  | none => simp [hro] at hx
  | some ob =>
    simp only [hro, Option.map_some, Option.some.injEq] at hx
    subst hx
    obtain ⟨m', h3, h4⟩ := new_row hH (by simpa using hfr 0 (by simp)) hro hv
    refine wpI (by simp [ho]) ?_ (hK _ _ m' h4 h3)
    simp [execOp, ho, Instr.box, newVar, newRow]

end
end Go.Proofs.Yteekkjfjpoaihaa.Eng

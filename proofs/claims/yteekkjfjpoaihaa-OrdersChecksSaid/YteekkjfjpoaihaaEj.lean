/- The engine, part 10: equality, slicing, parts of values, maps, function values, min and max, make. -/
import Derived.Test.YteekkjfjpoaihaaEi
set_option linter.all false
namespace Go.Proofs.Yteekkjfjpoaihaa.Eng
open Go

section
variable {P : Program} {T : Tab} {cmp : Cmp} {r : Option Nat} {Γ : Cal → Option Spec}

theorem snd_bslB (hT : TOK P T) {o : Oper} {t e' : TypeId} {parts : Array (Nat × Operand)} {len : Nat} {n : Nat} {z : AV} {f0 : Nat → Bool} {s b : Nat} {zz : Option AV} {l : List (Nat × XO)} (ho : o.op = .buildSlice t len parts)
    (ht : T t = some ⟨.slice e', s, b, zz⟩) (hlen : len ≤ 1000) (hz : zOf T e' = some (.pb [] n f0)) (hn : n ≤ 1000) (hn0 : 0 < n) (hzf : zFalse (zOf T e') n = true) (hl : cPs some parts.toList = some l) : Snd P cmp r Γ o (.bslB e' n len l) := by
  intro ctx m hp w a ev base e K Q hE hH hfr hup hx hvc hK
  simp only [xi] at hx
  cases hb : bslBP n len ff (l.map fun p => (p.1, ev p.2)) with
  | none => simp [hb] at hx
  | some q =>
    simp only [hb, Option.map_some, Option.some.injEq] at hx
    subst hx
    obtain ⟨i, zv, h1, h2, h3⟩ := T_zinfo hT hz
    obtain ⟨cs0, rfl, hp0⟩ := h3 (fun _ => none)
    have hcs0 := hp0.none
    have hsz : i.size = n := by
      unfold zOf at hz
      cases hte : T e' with
      | none => simp [hte] at hz
      | some ti =>
        have hs := hT.shape e' ti _ hte (by simpa [hte] using hz)
        obtain ⟨i', h1', h5, _⟩ := hT.info e' ti hte
        rw [h1] at h1'
        cases h1'
        rw [h5, hs.1]; simp
    subst hsz
    have hff : ∀ j, j < i.size → f0 j = false := by rw [hz] at hzf; exact zFalse_spec hzf
    have hm := hH.dom base (by simpa using hfr 0 (by simp))
    have hszl : ¬ (2 ^ 24 < len * i.size) := by
      have : len * i.size ≤ 1000 * 1000 := Nat.mul_le_mul hlen hn
      omega
    have hzc : (Value.agg cs0.toArray).cells = (List.replicate i.size (Value.bool false)).toArray := by
      show cs0.toArray = _
      rw [hcs0]
      congr 1
      apply List.ext_getElem?
      intro j
      by_cases hj : j < i.size
      · rw [bcells_get _ _ _ hj, hff j hj]; simp [hj]
      · rw [List.getElem?_eq_none (by rw [bcells_length]; omega)]; simp [hj]
    have hrow : ∀ N, (Array.range N).map (fun j => (Value.agg cs0.toArray).cells[j % (Value.agg cs0.toArray).cells.size]!) = (bcells N ff).toArray := fun N => by
      rw [zrow (v := .bool false) N (by rw [hzc]; simpa using hn0) (fun j hj => by rw [hzc] at hj ⊢; simp at hj; simp [hj])]
      congr 1
      apply List.ext_getElem?
      intro j
      by_cases hj : j < N
      · rw [bcells_get _ _ _ hj]; simp [hj, ff]
      · rw [List.getElem?_eq_none (by simp; omega), List.getElem?_eq_none (by rw [bcells_length]; omega)]
    have hfill : ∀ (ps : List (Nat × Operand)) (l : List (Nat × XO)) (g q : Nat → Bool), cPs some ps = some l → (∀ y xo, cO y = some xo → xo ∈ l.map (·.2) → TR m (ev xo) (a.eval y)) → bslBP i.size len g (l.map fun p => (p.1, ev p.2)) = some q →
        Instr.fill (fun j => some (j * i.size, i.size)) (bcells (len * i.size) g).toArray (ps.map fun p => (p.1, a.eval p.2)) = some (bcells (len * i.size) q).toArray := by
      intro ps
      induction ps with
      | nil =>
        intro l g q hl _ hb
        simp [cPs] at hl
        subst hl
        simp [bslBP] at hb
        subst hb
        simp [Instr.fill]
      | cons p ps ih =>
        obtain ⟨ii, y⟩ := p
        intro l g q hl hE hb
        simp only [cPs, Option.bind_eq_some_iff, Option.map_eq_some_iff] at hl
        obtain ⟨i', h1, xo, h2, l', h3, rfl⟩ := hl
        cases h1
        have hv := hE y xo h2 (by simp)
        have hE' : ∀ y xo, cO y = some xo → xo ∈ l'.map (·.2) → TR m (ev xo) (a.eval y) := fun y xo e hm => hE y xo e (by simp at hm ⊢; exact .inr hm)
        simp only [List.map_cons] at hb ⊢
        unfold bslBP at hb
        split at hb
        · rename_i heq; cases heq
        · rename_i f' i'' n'' g'' rest e2
          simp only [List.cons.injEq, Prod.mk.injEq] at e2
          obtain ⟨⟨rfl, hev⟩, rfl⟩ := e2
          split at hb
          case isFalse => cases hb
          rename_i hc
          obtain ⟨rfl, hlt⟩ := hc
          rw [hev] at hv
          obtain ⟨cs2, hcs2, hp2⟩ := hv
          have hfit : ii * i.size + i.size ≤ len * i.size := by
            rw [← Nat.succ_mul]; exact Nat.mul_le_mul_right _ hlt
          rw [fill_step (v := a.eval y) (vs := bcells i.size g'') (off := ii * i.size) (sz := i.size) rfl (by rw [hcs2, hp2.none]; rfl) (bcells_length _ _) (by rw [bcells_length]; exact hfit)]
          rw [← ih l' _ q h3 hE' hb]
          congr 2
          apply List.ext_getElem?
          intro j
          by_cases hj : j < len * i.size
          · rw [bcells_get _ _ _ hj]
            by_cases c1 : j < ii * i.size
            · rw [List.append_assoc, List.getElem?_append_left (by simp only [List.length_append, List.length_take, List.length_drop, bcells_length]; omega), List.getElem?_take, if_pos c1, bcells_get _ _ _ hj]
              have : Nat.ble (ii * i.size) j = false := by
                cases hh : Nat.ble (ii * i.size) j with
                | false => rfl
                | true => rw [Nat.ble_eq] at hh; omega
              simp [this]
            · have hb1 : Nat.ble (ii * i.size) j = true := by rw [Nat.ble_eq]; omega
              rw [List.append_assoc, List.getElem?_append_right (by simp only [List.length_append, List.length_take, List.length_drop, bcells_length]; omega)]
              simp only [List.length_take, bcells_length]
              rw [Nat.min_eq_left (by omega)]
              by_cases c2 : j < ii * i.size + i.size
              · have hb2 : Nat.blt j (ii * i.size + i.size) = true := by rw [Nat.blt_eq]; omega
                rw [List.getElem?_append_left (by rw [bcells_length]; omega), bcells_get _ _ _ (by omega)]
                simp [hb1, hb2]
              · have hb2 : Nat.blt j (ii * i.size + i.size) = false := by
                  cases hh : Nat.blt j (ii * i.size + i.size) with
                  | false => rfl
                  | true => rw [Nat.blt_eq] at hh; omega
                rw [List.getElem?_append_right (by rw [bcells_length]; omega), bcells_length, List.getElem?_drop]
                rw [show ii * i.size + i.size + (j - ii * i.size - i.size) = j by omega, bcells_get _ _ _ hj]
                simp [hb1, hb2]
          · rw [List.getElem?_eq_none (by simp only [List.length_append, List.length_take, List.length_drop, bcells_length]; omega), List.getElem?_eq_none (by rw [bcells_length]; omega)]
        · cases hb
    have hf := hfill parts.toList l ff q hl (fun y xo e hm => hE y xo e (by simpa [need, XI.opnds] using hm)) hb
    have hrun : (Instr.buildSlice t len (parts.map fun (i, x) => (i, a.eval x))).run P w = .ok (.slice (some ⟨w.heap.size, 0, none⟩) len len) (w.alloc (.cells (bcells (len * i.size) q).toArray e')) := by
      have hfill' : Instr.fill (fun j => some (j * i.size, i.size)) (bcells (len * i.size) ff).toArray (parts.map fun (i, x) => (i, a.eval x)).toList = some (bcells (len * i.size) q).toArray := by
        simpa using hf
      rcases Nat.eq_zero_or_pos (len * i.size) with h0 | h0
      · rw [h0] at hfill'
        have hl0 : len = 0 := by
          rcases Nat.mul_eq_zero.1 h0 with h | h
          · exact h
          · omega
        subst hl0
        have hfill'' : Instr.fill (fun j => some (j * i.size, i.size)) #[] (parts.map fun (i, x) => (i, a.eval x)).toList = some (bcells 0 q).toArray := by simpa [bcells] using hfill'
        have hr0 : ∀ g : Nat → Value, (Array.range 0).map g = #[] := fun g => by simp
        simp only [Array.toList_map] at hfill''
        simp [Instr.buildSlice, run_underlying (T_und hT ht), sizeOf, typeInfo, h1, hr0, hfill'', newRow]
      · simp only [Instr.buildSlice, Sem.run_bind, run_underlying (T_und hT ht), Result.andThen_ok, sizeOf, typeInfo, run_program, h1, Sem.run_pure, if_neg hszl, if_neg (by omega : ¬ len * i.size = 0), zeroValue, h2, hrow, hfill', newRow, run_newObj_alloc]
    refine wpI (by simp [ho]) (v := .slice (some ⟨w.heap.size, 0, none⟩) len len) (w' := w.alloc (.cells (bcells (len * i.size) q).toArray e')) (by simp [execOp, ho, hrun]) (hK _ _ (m.put base ⟨some w.heap.size, 0, len⟩) ?_ ?_)
    · exact ⟨_, m.put_same _ _, by simp, .inr ⟨_, 0, rfl, rfl, .inr (by simp)⟩⟩
    · refine Stp.new1 hm rfl rfl rfl rfl rfl ⟨_, _, rfl, rfl, heap_alloc_new w _, [], trivial, by simp, by simp⟩

theorem run_eqGuard_bool (op : BinOp) (t : TypeId) (x y : Operand) (a b : Bool) (w : World) : (eqGuard op t x y (.bool a) (.bool b)).run P w = .ok () w := by
  unfold eqGuard
  split <;> simp
theorem run_eqGuard_slice (op : BinOp) (t : TypeId) (x y : Operand) (a b : Option Addr) (n c n' c' : Nat) (w : World) : (eqGuard op t x y (.slice a n c) (.slice b n' c')).run P w = .ok () w := by
  unfold eqGuard
  split <;> simp
theorem run_eqGuard_agg (op : BinOp) (t : TypeId) (x y : Operand) (a b : Array Value) (w : World) (h : P.eqGuardType P.depth t = false) : (eqGuard op t x y (.agg a) (.agg b)).run P w = .ok () w := by
  unfold eqGuard
  split <;> simp [h]

theorem run_equalIn_bool (d : Nat) {t : TypeId} (hu : P.underlying t = some .bool) (a b : Bool) (w : World) : (Op.equalIn (d + 1) t (.bool a) (.bool b)).run P w = .ok (a == b) w := by
  simp [Op.equalIn, run_underlying hu]
theorem run_equalIn_nil_nil (d : Nat) {t e : TypeId} (hu : P.underlying t = some (.slice e)) (w : World) : (Op.equalIn (d + 1) t (.slice none 0 0) (.slice none 0 0)).run P w = .ok true w := by
  simp [Op.equalIn, run_underlying hu]
theorem run_equalIn_nil_some (d : Nat) {t e : TypeId} (hu : P.underlying t = some (.slice e)) (a : Addr) (n c : Nat) (w : World) : (Op.equalIn (d + 1) t (.slice none 0 0) (.slice (some a) n c)).run P w = .ok false w := by
  simp [Op.equalIn, run_underlying hu]
theorem run_equalIn_some_nil (d : Nat) {t e : TypeId} (hu : P.underlying t = some (.slice e)) (a : Addr) (n c : Nat) (w : World) : (Op.equalIn (d + 1) t (.slice (some a) n c) (.slice none 0 0)).run P w = .ok false w := by
  simp [Op.equalIn, run_underlying hu]

theorem snd_eqv (hT : TOK P T) (hQ : EQOK P) {o : Oper} {op : BinOp} {neg : Bool} {t t' : TypeId} {x y : Operand} {x' y' : XO} {k : EK} (ho : o.op = .binOp op t x y t') (hop : (op = .eql ∧ neg = false) ∨ (op = .neq ∧ neg = true)) (hk : ekT T t = some k)
    (hx' : cO x = some x') (hy' : cO y = some y') : Snd P cmp r Γ o (.eqv k neg x' y') := by
  refine snd_pure (by simp [ho]) fun ctx m hp w a ev base e hE hH hx hvc => ?_
  have hxv := hE x x' hx' (by simp [need, XI.opnds])
  have hyv := hE y y' hy' (by simp [need, XI.opnds])
  simp only [xi] at hx
  cases hq : eqT k (ev x') (ev y') with
  | none => simp [hq] at hx
  | some rr =>
    obtain ⟨vc, bb⟩ := rr
    simp only [hq, Option.bind_some, pureE, Option.some.injEq] at hx
    subst hx
    have main : ((Op.equal t (a.eval x) (a.eval y)).run P w = .ok bb w) ∧ ((eqGuard op t x y (a.eval x) (a.eval y)).run P w = .ok () w) ∧
        (∀ op', (op' = .eql → binOp op' t (a.eval x) (a.eval y) = (do pure (.bool (← Op.equal t (a.eval x) (a.eval y))))) ∧ (op' = .neq → binOp op' t (a.eval x) (a.eval y) = (do pure (.bool (!(← Op.equal t (a.eval x) (a.eval y))))))) := by
      unfold eqT at hq
      split at hq
      · rename_i p q h1 h2
        rw [h1] at hxv
        rw [h2] at hyv
        have e1 : a.eval x = .bool p := hxv
        have e2 : a.eval y = .bool q := hyv
        simp only [Option.some.injEq, Prod.mk.injEq] at hq
        obtain ⟨_, rfl⟩ := hq
        have hu : P.underlying t = some .bool := by
          unfold ekT at hk
          split at hk
          · rename_i ht; exact T_und hT ht
          · cases hk
          · cases hz : alGet eqTab t <;> simp [hz] at hk
          · cases hk
        rw [e1, e2]
        refine ⟨run_equalIn_bool 9999 hu _ _ w, run_eqGuard_bool _ _ _ _ _ _ w, fun op' => ⟨fun h => by subst h; rfl, fun h => by subst h; rfl⟩⟩
      · rename_i p q h1 h2
        rw [h1] at hxv
        rw [h2] at hyv
        have hu : ∃ e', P.underlying t = some (.slice e') := by
          unfold ekT at hk
          split at hk
          · cases hk
          · rename_i e' _ _ _ ht; exact ⟨e', T_und hT ht⟩
          · cases hz : alGet eqTab t <;> simp [hz] at hk
          · cases hk
        obtain ⟨e', hu⟩ := hu
        unfold eqNil at hq
        split at hq
        · simp only [Option.some.injEq, Prod.mk.injEq] at hq
          obtain ⟨_, rfl⟩ := hq
          have e1 : a.eval x = .slice none 0 0 := hxv
          have e2 : a.eval y = .slice none 0 0 := hyv
          rw [e1, e2]
          exact ⟨run_equalIn_nil_nil 9999 hu w, run_eqGuard_slice _ _ _ _ _ _ _ _ _ _ w, fun op' => ⟨fun h => by subst h; rfl, fun h => by subst h; rfl⟩⟩
        · rename_i id off sz len
          simp only [Option.some.injEq, Prod.mk.injEq] at hq
          obtain ⟨rfl, rfl⟩ := hq
          simp only [decide_eq_true_eq] at hvc
          have e1 : a.eval x = .slice none 0 0 := hxv
          obtain ⟨mb, _, _, ⟨_, _, _, h, _⟩ | ⟨b, o', _, e2, _⟩⟩ := hyv
          · omega
          · rw [e1, e2]
            exact ⟨run_equalIn_nil_some 9999 hu _ _ _ w, run_eqGuard_slice _ _ _ _ _ _ _ _ _ _ w, fun op' => ⟨fun h => by subst h; rfl, fun h => by subst h; rfl⟩⟩
        · rename_i id off sz len
          simp only [Option.some.injEq, Prod.mk.injEq] at hq
          obtain ⟨rfl, rfl⟩ := hq
          simp only [decide_eq_true_eq] at hvc
          have e2 : a.eval y = .slice none 0 0 := hyv
          obtain ⟨mb, _, _, ⟨_, _, _, h, _⟩ | ⟨b, o', _, e1, _⟩⟩ := hxv
          · omega
          · rw [e1, e2]
            exact ⟨run_equalIn_some_nil 9999 hu _ _ _ w, run_eqGuard_slice _ _ _ _ _ _ _ _ _ _ w, fun op' => ⟨fun h => by subst h; rfl, fun h => by subst h; rfl⟩⟩
        · cases hq
      · rename_i p n l n1 f rr n2 g h1 h2
        rw [h1] at hxv
        rw [h2] at hyv
        split at hq
        case isFalse => cases hq
        rename_i hcond
        obtain ⟨rfl, rfl, rfl, hl2⟩ := hcond
        split at hq
        · rename_i la lb hla hlb
          simp only [Option.some.injEq, Prod.mk.injEq] at hq
          obtain ⟨_, rfl⟩ := hq
          have hz : alGet eqTab t = some (l.length, n2) := by
            unfold ekT at hk
            split at hk
            · cases hk
            · cases hk
            · cases hz : alGet eqTab t with
              | none => simp [hz] at hk
              | some q =>
                simp [hz] at hk
                rw [← hk.1, ← hk.2]
            · cases hk
          have g1 := hQ.guard t _ _ hz
          have g2 := hQ.eq t _ _ hz
          have split2 : ∀ {pre : List SV} {ff' : Nat → Bool} {ll : List Int} {val : Value}, TR m (.av (.pb pre n2 ff')) val → intsOf .i64 pre = some ll → val = .agg (ll.map (Value.int .i64) ++ bcells n2 ff').toArray := by
            intro pre ff' ll val hv hll
            obtain ⟨cs, rfl, vs, k1, k2, rfl⟩ := hv
            have : vs = ll.map (Value.int .i64) := by
              have hp0 : PR m pre 0 ff (vs ++ bcells 0 ff) := ⟨vs, k1, k2, rfl⟩
              have := hp0.ints hll
              simpa [bcells] using this
            rw [this]
          have e1 := split2 hxv hla
          have e2 := split2 hyv hlb
          obtain ⟨la1, _⟩ := intsOf_get hla
          obtain ⟨lb1, _⟩ := intsOf_get hlb
          rw [e1, e2]
          exact ⟨g2 la lb f g w la1 (by omega), run_eqGuard_agg _ _ _ _ _ _ w g1, fun op' => ⟨fun h => by subst h; rfl, fun h => by subst h; rfl⟩⟩
        · cases hq
      · cases hq
    obtain ⟨m1, m2, m3⟩ := main
    rcases hop with ⟨rfl, rfl⟩ | ⟨rfl, rfl⟩
    · refine ⟨rfl, rfl, .bool bb, ?_, by simp [TR, AR, SR]⟩
      simp [execOp, ho, m2, (m3 .eql).1 rfl, m1]
    · refine ⟨rfl, rfl, .bool !bb, ?_, by simp [TR, AR, SR]⟩
      simp [execOp, ho, m2, (m3 .neq).2 rfl, m1]

theorem snd_slcA (hT : TOK P T) {o : Oper} {t e' : TypeId} {y : Operand} {y' : XO} {k n : Nat} {s b : Nat} {z : Option AV} {lo hi : Option Operand} {lo' hi' : Option XO} (ho : o.op = .slice t y lo hi none) (hc : cO y = some y') (hlo : cOpt lo = some lo') (hhi : cOpt hi = some hi')
    (ht : T t = some ⟨.array k e', s, b, z⟩) (hn : sizeT T e' = some n) : Snd P cmp r Γ o (.slcA k n y' lo' hi') := by
  refine snd_pure (by simp [ho]) fun ctx m hp w a ev base e hE hH hx hvc => ?_
  have hv := hE y y' hc (by simp [need, XI.opnds])
  simp only [xi] at hx
  split at hx
  case h_2 => cases hx
  rename_i id b' o' hb
  rw [hb] at hv
  obtain ⟨mb, bb, h1, h2, hv⟩ := hv
  simp only [pureE, Option.some.injEq] at hx
  subst hx
  have hlo0 : lo = none := by cases lo with | none => rfl | some q => simp [cOpt] at hlo
  have hhi0 : hi = none := by cases hi with | none => rfl | some q => simp [cOpt] at hhi
  subst hlo0
  subst hhi0
  refine ⟨rfl, rfl, .slice (some ⟨bb, mb.base + (b' + o'), none⟩) k k, ?_, mb, bb, k, h1, h2, rfl⟩
  simp [execOp, ho, hv, Instr.sliceAt, Instr.sureAddr, Instr.sliceBounds, run_underlying (T_und hT ht), T_size hT hn, addr_add]

theorem cOpt_some {x : Option Operand} {y : XO} (h : cOpt x = some (some y)) : ∃ z, x = some z ∧ cO z = some y := by
  cases x with
  | none => simp [cOpt] at h
  | some z => simp [cOpt] at h; exact ⟨z, rfl, h⟩
theorem cOpt_none {x : Option Operand} (h : cOpt x = some none) : x = none := by
  cases x with
  | none => rfl
  | some z => simp [cOpt] at h

theorem snd_slc (hT : TOK P T) {o : Oper} {t e' : TypeId} {y : Operand} {y' : XO} {n : Nat} {s b : Nat} {z : Option AV} {lo hi : Option Operand} {lo' hi' : Option XO} (ho : o.op = .slice t y lo hi none) (hc : cO y = some y') (hlo : cOpt lo = some lo') (hhi : cOpt hi = some hi')
    (ht : T t = some ⟨.slice e', s, b, z⟩) (hn : sizeT T e' = some n) : Snd P cmp r Γ o (.slc n y' lo' hi') := by
  refine snd_pure (by simp [ho]) fun ctx m hp w a ev base e hE hH hx hvc => ?_
  have hv := hE y y' hc (by simp [need, XI.opnds])
  have hlov : ∀ xo, lo' = some xo → ∃ q, lo = some q ∧ TR m (ev xo) (a.eval q) := by
    rintro xo rfl
    obtain ⟨q, h1, h2⟩ := cOpt_some hlo
    exact ⟨q, h1, hE q xo h2 (by simp [need, XI.opnds])⟩
  have hhiv : ∀ xo, hi' = some xo → ∃ q, hi = some q ∧ TR m (ev xo) (a.eval q) := by
    rintro xo rfl
    obtain ⟨q, h1, h2⟩ := cOpt_some hhi
    exact ⟨q, h1, hE q xo h2 (by simp [need, XI.opnds])⟩
  have hu := T_und hT ht
  have hsz := T_size hT hn
  simp only [xi] at hx
  split at hx
  · rename_i id off sz' len h1 h2 h3
    rw [h1] at hv
    split at hx
    case isFalse => cases hx
    rename_i hsz'
    subst hsz'
    simp only [Option.map_eq_none_iff] at h2 h3
    subst h2
    subst h3
    have := cOpt_none hlo
    subst this
    have := cOpt_none hhi
    subst this
    simp only [pureE, Option.some.injEq] at hx
    subst hx
    refine ⟨rfl, rfl, a.eval y, ?_, hv⟩
    obtain ⟨mb, _, _, ⟨_, h, _⟩ | ⟨b, o', _, h, _⟩⟩ := hv
    · simp [execOp, ho, h, Instr.sliceAt, Instr.slice, Instr.sliceBounds, hu, hsz, run_underlying hu]
    · simp [execOp, ho, h, Instr.sliceAt, Instr.slice, Instr.sliceBounds, hsz, run_underlying hu, Addr.add]
  · rename_i id off sz' len bk bb h1 h2 h3
    rw [h1] at hv
    split at hx
    case isFalse => cases hx
    rename_i hsz'
    subst hsz'
    simp only [Option.map_eq_none_iff, Option.map_eq_some_iff] at h2 h3
    subst h2
    obtain ⟨xo, rfl, h3⟩ := h3
    have := cOpt_none hlo
    subst this
    obtain ⟨q, rfl, hq⟩ := hhiv xo rfl
    rw [h3, TR_int] at hq
    simp only [pureE, Option.some.injEq] at hx
    subst hx
    simp only [Bool.and_eq_true, decide_eq_true_eq] at hvc
    obtain ⟨mb, hm, hcap, ⟨g1, g2, g3, g4, g5⟩ | ⟨b, o', g1, g2, g3⟩⟩ := hv
    · have hb0 : bb = 0 := by omega
      subst hb0
      refine ⟨rfl, rfl, .slice none 0 0, ?_, mb, hm, by simp; omega, .inl ⟨g1, rfl, g3, by simp, g5⟩⟩
      simp [execOp, ho, g2, hq, Instr.sliceAt, Instr.slice, Instr.sliceBounds, Instr.sliceBound, asIntOf, hsz, run_underlying hu]
    · have hbc : 0 ≤ bb ∧ bb ≤ ((mb.cap - off : Nat) : Int) := ⟨hvc.1, by omega⟩
      refine ⟨rfl, rfl, .slice (some ⟨b, o', none⟩) bb.toNat (mb.cap - off), ?_, mb, hm, by omega, .inr ⟨b, o', g1, rfl, ?_⟩⟩
      · simp [execOp, ho, g2, hq, Instr.sliceAt, Instr.slice, Instr.sliceBounds, Instr.sliceBound, asIntOf, hsz, run_underlying hu, hbc, Addr.add]
      · rcases g3 with g3 | g3
        · exact .inl ⟨by omega, g3.2⟩
        · exact .inr g3
  · rename_i id off sz' len ak aa h1 h2 h3
    rw [h1] at hv
    split at hx
    case isFalse => cases hx
    rename_i hsz'
    subst hsz'
    simp only [Option.map_eq_none_iff, Option.map_eq_some_iff] at h2 h3
    subst h3
    obtain ⟨xo, rfl, h2⟩ := h2
    have := cOpt_none hhi
    subst this
    obtain ⟨q, rfl, hq⟩ := hlov xo rfl
    rw [h2, TR_int] at hq
    simp only [pureE, Option.some.injEq] at hx
    subst hx
    simp only [Bool.and_eq_true, decide_eq_true_eq] at hvc
    obtain ⟨mb, hm, hcap, ⟨g1, g2, g3, g4, g5⟩ | ⟨b, o', g1, g2, g3⟩⟩ := hv
    · have hb0 : aa = 0 := by omega
      subst hb0
      refine ⟨rfl, rfl, .slice none 0 0, ?_, mb, hm, by simp; omega, .inl ⟨g1, rfl, by simpa using g3, by simpa using g4, g5⟩⟩
      simp [execOp, ho, g2, hq, Instr.sliceAt, Instr.slice, Instr.sliceBounds, Instr.sliceBound, asIntOf, hsz, run_underlying hu]
    · have hbc : 0 ≤ aa ∧ aa ≤ (len : Int) := ⟨hvc.1, hvc.2⟩
      obtain ⟨k, rfl⟩ := Int.eq_ofNat_of_zero_le hvc.1
      have hk : k ≤ len := by omega
      refine ⟨rfl, rfl, .slice (some (if mb.cap - off = k then ⟨b, o', none⟩ else ⟨b, o' + k * n, none⟩)) (len - k) (mb.cap - off - k), ?_, mb, hm, by simp; omega, ?_⟩
      · by_cases hck : mb.cap - off = k
        · simp [execOp, ho, g2, hq, Instr.sliceAt, Instr.slice, Instr.sliceBounds, Instr.sliceBound, asIntOf, hsz, run_underlying hu, hk, hck]
        · simp [execOp, ho, g2, hq, Instr.sliceAt, Instr.slice, Instr.sliceBounds, Instr.sliceBound, asIntOf, hsz, run_underlying hu, hk, hck, addr_add]
      · by_cases hck : mb.cap - off = k
        · rw [if_pos hck]
          refine .inr ⟨b, o', g1, by simp; omega, ?_⟩
          rcases Nat.eq_zero_or_pos k with h0 | h0
          · subst h0
            simp only [Int.toNat_natCast]
            rcases g3 with g3 | g3
            · exact .inl ⟨by omega, by omega⟩
            · exact .inr (by rw [g3, Nat.add_zero])
          · exact .inl ⟨by simp; omega, by simp; omega⟩
        · rw [if_neg hck]
          refine .inr ⟨b, o' + k * n, g1, by simp; omega, ?_⟩
          simp only [Int.toNat_natCast]
          rcases g3 with g3 | g3
          · exact .inl ⟨by omega, by omega⟩
          · exact .inr (by rw [g3, Nat.add_mul, Nat.add_assoc])
  · rename_i h1 h2 h3
    rw [h1] at hv
    have hv' : a.eval y = .slice none 0 0 := hv
    simp only [Option.map_eq_none_iff] at h2 h3
    subst h2
    subst h3
    have := cOpt_none hlo
    subst this
    have := cOpt_none hhi
    subst this
    simp only [pureE, Option.some.injEq] at hx
    subst hx
    refine ⟨rfl, rfl, .slice none 0 0, ?_, rfl⟩
    simp [execOp, ho, hv', Instr.sliceAt, Instr.slice, Instr.sliceBounds, hsz, run_underlying hu]
  · rename_i bk bb h1 h2 h3
    rw [h1] at hv
    have hv' : a.eval y = .slice none 0 0 := hv
    simp only [Option.map_eq_none_iff, Option.map_eq_some_iff] at h2 h3
    subst h2
    obtain ⟨xo, rfl, h3⟩ := h3
    have := cOpt_none hlo
    subst this
    obtain ⟨q, rfl, hq⟩ := hhiv xo rfl
    rw [h3, TR_int] at hq
    simp only [pureE, Option.some.injEq] at hx
    subst hx
    simp only [decide_eq_true_eq] at hvc
    subst hvc
    refine ⟨rfl, rfl, .slice none 0 0, ?_, rfl⟩
    simp [execOp, ho, hv', hq, Instr.sliceAt, Instr.slice, Instr.sliceBounds, Instr.sliceBound, asIntOf, hsz, run_underlying hu]
  · rename_i ak aa h1 h2 h3
    rw [h1] at hv
    have hv' : a.eval y = .slice none 0 0 := hv
    simp only [Option.map_eq_none_iff, Option.map_eq_some_iff] at h2 h3
    subst h3
    obtain ⟨xo, rfl, h2⟩ := h2
    have := cOpt_none hhi
    subst this
    obtain ⟨q, rfl, hq⟩ := hlov xo rfl
    rw [h2, TR_int] at hq
    simp only [pureE, Option.some.injEq] at hx
    subst hx
    simp only [decide_eq_true_eq] at hvc
    subst hvc
    refine ⟨rfl, rfl, .slice none 0 0, ?_, rfl⟩
    simp [execOp, ho, hv', hq, Instr.sliceAt, Instr.slice, Instr.sliceBounds, Instr.sliceBound, asIntOf, hsz, run_underlying hu]
  · cases hx

end
end Go.Proofs.Yteekkjfjpoaihaa.Eng

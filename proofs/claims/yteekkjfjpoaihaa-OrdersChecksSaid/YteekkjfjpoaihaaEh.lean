/- The engine, part 8: slices made and appended to. -/
import Derived.Test.YteekkjfjpoaihaaEg
set_option linter.all false
namespace Go.Proofs.Yteekkjfjpoaihaa.Eng
open Go

section
variable {P : Program} {T : Tab} {cmp : Cmp} {r : Option Nat} {Γ : Cal → Option Spec}

theorem zrow {z : Array Value} {v : Value} (N : Nat) (hz : 0 < z.size) (h : ∀ j, j < z.size → z[j]! = v) : (Array.range N).map (fun i => z[i % z.size]!) = (List.replicate N v).toArray := by
  apply Array.ext
  · simp
  · intro i h1 h2
    simp only [Array.getElem_map, Array.getElem_range, List.getElem_toArray, List.getElem_replicate]
    exact h _ (Nat.mod_lt _ hz)

/-- the zero of a type whose cells are ints -/
theorem intsT_zero (hT : TOK P T) {e : TypeId} {k : IntKind} {n : Nat} (h : intsT T e = some (k, n)) : ∃ i zv, P.info? e = some i ∧ i.size = n ∧ i.zero = some zv ∧ zv.cells = (List.replicate n (Value.int k 0)).toArray := by
  unfold intsT at h
  split at h
  · rename_i k' a hz
    split at h
    case isFalse => cases h
    rename_i ha
    subst ha
    cases h
    obtain ⟨i, zv, h1, h2, h3⟩ := T_zinfo hT hz
    have h4 : zv = .int k 0 := h3 (fun _ => none)
    subst h4
    unfold zOf at hz
    cases ht : T e with
    | none => simp [ht] at hz
    | some ti =>
      have hs := hT.shape e ti _ ht (by simpa [ht] using hz)
      obtain ⟨i', h1', h5, _⟩ := hT.info e ti ht
      rw [h1] at h1'
      cases h1'
      exact ⟨i, _, h1, by rw [h5]; exact hs.1, h2, rfl⟩
  · rename_i k' a rr f hz
    cases hq : intsOf k' (.int k' a :: rr) with
    | none => simp [hq] at h
    | some l =>
      simp only [hq, Option.bind_some] at h
      split at h
      case isFalse => cases h
      rename_i hall
      cases h
      obtain ⟨i, zv, h1, h2, h3⟩ := T_zinfo hT hz
      obtain ⟨cs, rfl, hp⟩ := h3 (fun _ => none)
      have hcs := hp.ints hq
      unfold zOf at hz
      cases ht : T e with
      | none => simp [ht] at hz
      | some ti =>
        have hs := hT.shape e ti _ ht (by simpa [ht] using hz)
        obtain ⟨i', h1', h5, _⟩ := hT.info e ti ht
        rw [h1] at h1'
        cases h1'
        obtain ⟨hl1, _⟩ := intsOf_get hq
        refine ⟨i, _, h1, by rw [h5, hs.1, hl1]; simp, h2, ?_⟩
        simp only [Value.cells, hcs]
        congr 1
        apply List.ext_getElem?
        intro j
        by_cases hj : j < l.length
        · have h0 : l[j] = 0 := by
            have := List.all_eq_true.1 hall l[j] (List.getElem_mem hj)
            simpa using this
          simp [hj, h0]
        · simp [hj]
  · cases h

theorem bsl_len {n : Nat} (k : IntKind) : ((List.replicate n (0 : Int)).map (Value.int k)) = List.replicate n (Value.int k 0) := by simp

theorem snd_bsl (hT : TOK P T) {o : Oper} {t e' : TypeId} {parts : Array (Nat × Operand)} {len : Nat} {k : IntKind} {n : Nat} {s b : Nat} {zz : Option AV} {l : List (Nat × XO)} (ho : o.op = .buildSlice t len parts)
    (ht : T t = some ⟨.slice e', s, b, zz⟩) (hlen : len ≤ 1000) (hi : intsT T e' = some (k, n)) (hn : n ≤ 1000) (hn0 : 0 < n) (hl : cPs some parts.toList = some l) : Snd P cmp r Γ o (.bsl e' k n len l) := by
  intro ctx m hp w a ev base e K Q hE hH hfr hup hx hvc hK
  simp only [xi] at hx
  cases hb : bslP k n (List.replicate (len * n) 0) (l.map fun p => (p.1, ev p.2)) with
  | none => simp [hb] at hx
  | some q =>
    simp only [hb, Option.map_some, Option.some.injEq] at hx
    subst hx
    obtain ⟨i, zv, h1, h2, h3, h4⟩ := intsT_zero hT hi
    subst h2
    obtain ⟨g1, g2⟩ := bsl_snd parts.toList l _ q hl (fun y xo e hm => hE y xo e (by simpa [need, XI.opnds] using hm)) hb
    have hm := hH.dom base (by simpa using hfr 0 (by simp))
    have hq : q.length = len * i.size := by rw [g2]; simp
    have hsz : ¬ (2 ^ 24 < len * i.size) := by
      have : len * i.size ≤ 1000 * 1000 := Nat.mul_le_mul hlen hn
      omega
    have hrow : ∀ N, (Array.range N).map (fun j => zv.cells[j % zv.cells.size]!) = (List.replicate N (Value.int k 0)).toArray := fun N => zrow N (by rw [h4]; simpa using hn0) (fun j hj => by
      rw [h4] at hj ⊢
      simp at hj
      simp [hj])
    have hrun : (Instr.buildSlice t len (parts.map fun (i, x) => (i, a.eval x))).run P w = .ok (.slice (some ⟨w.heap.size, 0, none⟩) len len) (w.alloc (.cells (q.map (Value.int k)).toArray e')) := by
      have hfill : Instr.fill (fun j => some (j * i.size, i.size)) (List.replicate (len * i.size) (Value.int k 0)).toArray (parts.map fun (i, x) => (i, a.eval x)).toList = some (q.map (Value.int k)).toArray := by
        rw [bsl_len] at g1
        simpa using g1
      rcases Nat.eq_zero_or_pos (len * i.size) with h0 | h0
      · rw [h0] at hfill
        have hfill' : Instr.fill (fun j => some (j * i.size, i.size)) #[] (parts.map fun (i, x) => (i, a.eval x)).toList = some (q.map (Value.int k)).toArray := hfill
        have hl0 : len = 0 := by
          rcases Nat.mul_eq_zero.1 h0 with h | h
          · exact h
          · omega
        subst hl0
        simp only [Nat.zero_mul] at *
        have hr0 : ∀ g : Nat → Value, (Array.range 0).map g = #[] := fun g => by simp
        simp only [Array.toList_map] at hfill'
        simp [Instr.buildSlice, run_underlying (T_und hT ht), sizeOf, typeInfo, h1, hr0, hfill', newRow]
      · simp only [Instr.buildSlice, Sem.run_bind, run_underlying (T_und hT ht), Result.andThen_ok, sizeOf, typeInfo, run_program, h1, Sem.run_pure, if_neg hsz, if_neg (by omega : ¬ len * i.size = 0), zeroValue, h3, hrow, hfill, newRow, run_newObj_alloc]
    refine wpI (by simp [ho]) (v := .slice (some ⟨w.heap.size, 0, none⟩) len len) (w' := w.alloc (.cells (q.map (Value.int k)).toArray e')) (by simp [execOp, ho, hrun]) (hK _ _ (m.put base ⟨some w.heap.size, 0, len⟩) ?_ ?_)
    · exact ⟨_, m.put_same _ _, by simp, .inr ⟨_, 0, rfl, rfl, .inr (by simp)⟩⟩
    · refine Stp.new1 hm rfl rfl rfl rfl rfl (.inr ⟨_, _, rfl, rfl, heap_alloc_new w _, by simp [hq], ?_, fun j hj => by simp [hj, List.getD]⟩)
      show len ≤ maxLen
      unfold maxLen
      omega

theorem zFalse_spec {n : Nat} {pre : List SV} {f : Nat → Bool} {k : Nat} (h : zFalse (some (.pb pre k f)) n = true) : ∀ j, j < n → f j = false := by
  induction n with
  | zero => intro j hj; omega
  | succ n ih =>
    simp only [zFalse, Bool.and_eq_true, Bool.not_eq_true'] at h
    intro j hj
    rcases Nat.lt_succ_iff_lt_or_eq.1 hj with h1 | h1
    · exact ih h.2 j h1
    · subst h1; exact h.1

/-- a slice read as a source of cells -/
theorem src_snd {ctx : Ctx} {m : MM} {h : Nat → Option HO} {w : World} {tv : TV} {val : Value} {k : IntKind} {sz : Nat} {vc : Bool} {q : List Int} {n : Nat} {rd : List Nat} (hH : HRel cmp ctx m h w)
    (hs : srcOf tv h k sz = some (vc, q, n, rd)) (hvc : vc = true) (hv : TR m tv val) :
    (val = .slice none 0 0 ∧ n = 0 ∧ q = []) ∨ ∃ ad c, val = .slice (some ad) n c ∧ q.length = n * sz ∧ ∀ j u, (q.map (Value.int k))[j]? = some u → w.cell? (ad.add j) = some u := by
  unfold srcOf at hs
  split at hs
  · simp only [Option.some.injEq, Prod.mk.injEq] at hs
    obtain ⟨_, rfl, rfl, _⟩ := hs
    exact .inl ⟨hv, rfl, rfl⟩
  · rename_i _ _ _ id off sz' len
    split at hs
    case isFalse => cases hs
    rename_i hsz
    subst hsz
    obtain ⟨mb, hm, hcap, hv⟩ := hv
    have both : ∀ (ho : HO) (k' : IntKind) (l : List Int), h id = some ho → (∃ ty sz'', ho.o = .ivec ty k' sz'' l) ∨ (∃ sz'', ho.o = .xvec k' sz'' l) → (off + len) * sz' ≤ l.length →
        (val = .slice none 0 0 ∧ len = 0 ∧ (l.drop (off * sz')).take (len * sz') = []) ∨ ∃ ad c, val = .slice (some ad) len c ∧ ((l.drop (off * sz')).take (len * sz')).length = len * sz' ∧
          ∀ j u, (((l.drop (off * sz')).take (len * sz')).map (Value.int k'))[j]? = some u → w.cell? (ad.add j) = some u := by
      intro ho k' l hho hk hle
      obtain ⟨mb', hm', hor, _⟩ := hH.obj id ho hho
      rw [hm] at hm'
      cases hm'
      rcases hv with ⟨h1, h2, h3, h4, h5⟩ | ⟨b, o', h1, h2, h3⟩
      · exact .inl ⟨h2, h4, by rw [h4]; simp⟩
      · refine .inr ⟨⟨b, o', none⟩, _, h2, ?_, ?_⟩
        · rw [Nat.add_mul] at hle
          simp
          omega
        · intro j u hu
          rw [Nat.add_mul] at hle
          by_cases hj : j < len * sz'
          · have hlen : 0 < len := by
              rcases Nat.eq_zero_or_pos len with h | h
              · rw [h] at hj; simp at hj
              · exact h
            have ho' : o' = mb.base + off * sz' := by rcases h3 with h | h <;> omega
            have hlj : off * sz' + j < l.length := by omega
            simp [hj, hlj] at hu
            rw [addr_add, ho', ← hu]
            have hget : l.getD (off * sz' + j) 0 = l[off * sz' + j] := by simp [List.getD, hlj]
            rcases hk with ⟨ty, sz'', hk⟩ | ⟨sz'', hk⟩
            · rw [hk] at hor
              rcases hor with ⟨g1, _⟩ | ⟨b', cur, g1, g2, g3, g4, g5, g6⟩
              · rw [h1] at g1; cases g1
              · rw [h1] at g1
                cases g1
                rw [cell_atA g3, g2, Nat.zero_add, g6 _ hlj, hget]
            · rw [hk] at hor
              rcases hor with ⟨g1, _⟩ | ⟨b', g1, g2⟩
              · rw [h1] at g1; cases g1
              · rw [h1] at g1
                cases g1
                rw [Nat.add_assoc, g2 _ hlj, hget]
          · rw [List.getElem?_eq_none (by simp; omega)] at hu
            cases hu
    split at hs
    · rename_i ro ty k' sz'' l hho
      split at hs
      case isFalse => cases hs
      rename_i hk
      subst hk
      simp only [Option.some.injEq, Prod.mk.injEq] at hs
      obtain ⟨rfl, rfl, rfl, _⟩ := hs
      exact both ⟨ro, .ivec ty k sz'' l⟩ _ l hho (.inl ⟨_, _, rfl⟩) (by simpa using hvc)
    · rename_i ro k' sz'' l hho
      split at hs
      case isFalse => cases hs
      rename_i hk
      subst hk
      simp only [Option.some.injEq, Prod.mk.injEq] at hs
      obtain ⟨rfl, rfl, rfl, _⟩ := hs
      exact both ⟨ro, .xvec k sz'' l⟩ _ l hho (.inr ⟨_, rfl⟩) (by simpa using hvc)
    · cases hs
  · cases hs

theorem run_append_zero (w : World) (t ty e : TypeId) (i : TypeInfo) (ht : P.underlying t = some (.slice e)) (hi : P.info? e = some i) (val : Value) (hs : (val = .slice none 0 0) ∨ ∃ ad c, val = .slice (some ad) 0 c) :
    (Builtin.append_ #[t, t] ty #[.slice none 0 0, val]).run P w = .ok (.slice none 0 0) w := by
  rcases hs with rfl | ⟨ad, c, rfl⟩
  · simp [Builtin.append_, run_underlying ht, sizeOf, typeInfo, hi, Builtin.lenOf, Builtin.firstCells]
  · simp [Builtin.append_, run_underlying ht, sizeOf, typeInfo, hi, Builtin.lenOf, Builtin.firstCells, loadCells, loadCellsFrom]

theorem map_int_one (k : IntKind) (q : List Int) : ∀ u ∈ q.map (Value.int k), Value.oneCell' u = true := by
  intro u hu
  simp at hu
  obtain ⟨x, _, rfl⟩ := hu
  rfl

/-- append onto a nil slice -/
theorem app_nil (hT : TOK P T) {m : MM} {w : World} {t ty e : TypeId} {k : IntKind} {sz n base : Nat} {val : Value} {q : List Int} (ht : P.underlying t = some (.slice e)) (hi : intsT T e = some (k, sz))
    (hby : ∀ i, P.info? e = some i → i.bytes ≤ 1000) (hn : n ≤ 1000000000) (hm : m base = none)
    (hsrc : (val = .slice none 0 0 ∧ n = 0 ∧ q = []) ∨ ∃ ad c, val = .slice (some ad) n c ∧ q.length = n * sz ∧ ∀ j u, (q.map (Value.int k))[j]? = some u → w.cell? (ad.add j) = some u) :
    ∃ v' w' mb, (Builtin.append_ #[t, t] ty #[.slice none 0 0, val]).run P w = .ok v' w' ∧ TR (m.put base mb) (.av (.s (.sl base 0 sz n))) v' ∧ Stp cmp m (m.put base mb) w w' [] base [⟨false, .ivec e k sz q⟩] := by
  obtain ⟨i, zv, h1, h2, h3, h4⟩ := intsT_zero hT hi
  have hb := hby i h1
  rcases Nat.eq_zero_or_pos n with h0 | h0
  · subst h0
    have hq : q = [] := by
      rcases hsrc with ⟨_, _, h⟩ | ⟨_, _, _, h, _⟩
      · exact h
      · exact List.eq_nil_of_length_eq_zero (by simpa using h)
    subst hq
    refine ⟨_, w, ⟨none, 0, 0⟩, run_append_zero w t ty e i ht h1 val (by rcases hsrc with ⟨h, _⟩ | ⟨ad, c, h, _⟩; exact .inl h; exact .inr ⟨ad, c, h⟩), ⟨_, m.put_same _ _, by simp, .inl ⟨rfl, rfl, rfl, rfl, rfl⟩⟩, ?_⟩
    exact {
      ext := MM.le_put hm
      dom := fun id x h => by
        unfold MM.put at h
        split at h
        · rename_i e'; exact .inr ⟨by omega, by simp; omega⟩
        · exact .inl h
      size := Nat.le_refl _
      same := fun _ _ _ => rfl
      os := rfl
      tape := rfl
      output := rfl
      upd := fun _ h => by cases h
      new := fun k' ho' h => by
        cases k' with
        | zero =>
          simp at h
          subst h
          exact ⟨_, m.put_same base _, .inl ⟨rfl, rfl, rfl⟩, fun b hb' => by cases hb'⟩
        | succ k' => simp at h
      ndist := fun k k' _ _ _ h h' hne => by simp at h h'; omega }
  · rcases hsrc with ⟨_, h, _⟩ | ⟨ad, c, rfl, hql, hqc⟩
    · omega
    · subst h2
      have hbytes : n * i.bytes ≤ 1000000000 * 1000 := Nat.mul_le_mul hn hb
      have hr := run_append_nil (P := P) w t ty e i zv ht h1 h3 ad n c (q.map (Value.int k)) (by simpa using hql) hqc h0 (by omega) (by omega)
      refine ⟨_, _, ⟨some w.heap.size, 0, grownCap w n 0 e⟩, hr, ⟨_, m.put_same _ _, by simpa using grownCap_ge w n 0 e, .inr ⟨_, 0, rfl, rfl, .inr (by simp)⟩⟩, ?_⟩
      refine Stp.new1 hm rfl rfl rfl rfl rfl (.inr ⟨_, _, rfl, rfl, heap_alloc_new w.drew _, ?_, grownCap_le_maxLen w n 0 e (by unfold maxLen; omega), fun j hj => ?_⟩)
      · have hge := grownCap_ge w n 0 e
        simp only [Array.size_append, List.size_toArray, size_zeroCells, h4, List.length_map, List.length_replicate, hql]
        rw [← Nat.add_mul]
        congr 1
        show n + (grownCap w n 0 e - n) = grownCap w n 0 e
        omega
      · rw [Array.getElem?_append_left (by simpa using hj)]
        simp [hj, List.getD]

end
end Go.Proofs.Yteekkjfjpoaihaa.Eng

/- A part of the proof of topChains_holds. -/
import Derived.Test.YteekkjfjpoaihaaOt01
set_option linter.all false
namespace Go.Proofs.Yteekkjfjpoaihaa.Eng
open Go
section
variable {P : Program} {T : Tab} {cmp : Cmp} {r : Option Nat} {Γ : Cal → Option Spec}
theorem fold_put : ∀ (vs : List Value) (off i : Nat) (cs : List Value), off + i + vs.length ≤ cs.length →
    (vs.zipIdx i).foldl (fun (c : Array Value) (x : Value × Nat) => c.setIfInBounds (off + x.2) x.1) cs.toArray = (cs.take (off + i) ++ vs ++ cs.drop (off + i + vs.length)).toArray
  | [], off, i, cs, _ => by simp
  | v :: vs, off, i, cs, h => by
    simp only [List.length_cons] at h
    simp only [List.zipIdx_cons, List.foldl_cons]
    have e : cs.toArray.setIfInBounds (off + i) v = (cs.set (off + i) v).toArray := by simp
    rw [e, fold_put vs off (i + 1) (cs.set (off + i) v) (by simp; omega)]
    have := list_seg_step cs (off + i) v vs (by omega)
    rw [show off + (i + 1) = off + i + 1 by omega, this]
    simp [Nat.add_comm]
theorem fill_step {place : Nat → Option (Nat × Nat)} {cs vs : List Value} {i off sz : Nat} {v : Value} {rest : List (Nat × Value)} (hp : place i = some (off, sz)) (hv : v.cells = vs.toArray) (hs : vs.length = sz) (hfit : off + sz ≤ cs.length) :
    Instr.fill place cs.toArray ((i, v) :: rest) = Instr.fill place (cs.take off ++ vs ++ cs.drop (off + sz)).toArray rest := by
  have hf := fold_put vs off 0 cs (by omega)
  simp only [Nat.add_zero, hs] at hf
  simp only [Instr.fill, hp, hv]
  rw [if_neg (by simp; omega)]
  congr 1
  rw [← Array.foldl_toList]
  simpa using hf
theorem bld_snd {m : MM} {place : Nat → Option (Nat × Nat)} {f : Nat → Option (Nat × Nat)} {ev : XO → TV} {a : Act} (hf : ∀ i q, f i = some q → place i = some q) :
    ∀ (ps : List (Nat × Operand)) (l : List ((Nat × Nat) × XO)) (pre : List SV) (n : Nat) (g : Nat → Bool) (cs : List Value) (v : AV), cPs f ps = some l → PR m pre n g cs →
      (∀ y xo, cO y = some xo → xo ∈ l.map (·.2) → TR m (ev xo) (a.eval y)) → bldP (.pb pre n g) (l.map fun p => (p.1, ev p.2)) = some v →
      ∃ cs' : List Value, Instr.fill place cs.toArray (ps.map fun p => (p.1, a.eval p.2)) = some cs'.toArray ∧ AR m v (.agg cs'.toArray)
  | [], l, pre, n, g, cs, v, hl, hp, hE, hb => by
    simp [cPs] at hl
    subst hl
    simp [bldP] at hb
    subst hb
    exact ⟨cs, by simp [Instr.fill], cs, rfl, hp⟩
  | (i, y) :: ps, l, pre, n, g, cs, v, hl, hp, hE, hb => by
    simp only [cPs, Option.bind_eq_some_iff, Option.map_eq_some_iff] at hl
    obtain ⟨⟨off, sz⟩, h1, xo, h2, l', h3, rfl⟩ := hl
    have hv := hE y xo h2 (by simp)
    have hE' : ∀ y xo, cO y = some xo → xo ∈ l'.map (·.2) → TR m (ev xo) (a.eval y) := fun y xo e hm => hE y xo e (by simp at hm ⊢; exact .inr hm)
    have hlen := hp.length
    simp only [List.map_cons] at hb ⊢
    unfold bldP at hb
    split at hb
    · rename_i heq; cases heq
    · rename_i pre' n' g' o' sz' x rest e1 e2
      cases e1
      simp only [List.cons.injEq, Prod.mk.injEq] at e2
      obtain ⟨⟨⟨rfl, rfl⟩, hev⟩, rfl⟩ := e2
      split at hb
      case isFalse => cases hb
      rename_i hc
      obtain ⟨rfl, hlt, hk⟩ := hc
      rw [hev] at hv
      have hxv : SR m x (a.eval y) := hv
      have h1c := hxv.one hk
      rw [fill_step (hf _ _ h1) (cells_one h1c) (vs := [a.eval y]) rfl (by omega), splice_set _ _ _ (by omega)]
      exact bld_snd hf ps l' _ _ _ _ v h3 (hp.set_lo hlt hxv h1c) hE' hb
    · rename_i pre' n' g' o' sz' n'' f'' rest e1 e2
      cases e1
      simp only [List.cons.injEq, Prod.mk.injEq] at e2
      obtain ⟨⟨⟨rfl, rfl⟩, hev⟩, rfl⟩ := e2
      split at hb
      case isFalse => cases hb
      rename_i hc
      obtain ⟨rfl, rfl, rfl⟩ := hc
      rw [hev] at hv
      obtain ⟨cs2, hcs2, hp2⟩ := hv
      have hl2 := hp2.length
      simp at hl2
      rw [fill_step (hf _ _ h1) (vs := cs2) (by rw [hcs2]; rfl) hl2 (by omega)]
      refine bld_snd hf ps l' _ _ _ _ v h3 ?_ hE' hb
      rw [List.drop_eq_nil_of_le (by omega), List.append_nil, hp2.none]
      obtain ⟨vs, g1, g2, rfl⟩ := hp
      exact ⟨vs, g1, g2, by rw [← g1.length, List.take_left]⟩
    · cases hb
theorem T_zinfo (hT : TOK P T) {t : TypeId} {z : AV} (h : zOf T t = some z) : ∃ i zv, P.info? t = some i ∧ i.zero = some zv ∧ ∀ m, AR m z zv := by
  unfold zOf at h
  cases ht : T t with
  | none => simp [ht] at h
  | some ti =>
    simp only [ht, Option.bind_some] at h
    obtain ⟨i, h1, _, _, h2⟩ := hT.info t ti ht
    obtain ⟨zv, h3, h4⟩ := h2 z h
    exact ⟨i, zv, h1, h3, h4⟩
theorem T_sinfo (hT : TOK P T) {t : TypeId} {n : Nat} (h : sizeT T t = some n) : ∃ i, P.info? t = some i ∧ i.size = n := by
  unfold sizeT at h
  cases ht : T t with
  | none => simp [ht] at h
  | some ti =>
    obtain ⟨i, h1, h2, _⟩ := hT.info t ti ht
    simp [ht] at h
    exact ⟨i, h1, by omega⟩
theorem places_of (hT : TOK P T) : ∀ (fs : List Field), fs.all (fun f => (T f.type).isSome) = true →
    ∃ places, fs.mapM (fun f => (P.info? f.type).map fun i => (f.offset, i.size)) = some places ∧
      ∀ (i : Nat) (q : Nat × Nat), ((fs[i]?).bind fun (f : Field) => (sizeT T f.type).map fun n => (f.offset, n)) = some q → places[i]? = some q
  | [], _ => ⟨[], by simp, fun i q h => by simp at h⟩
  | f :: fs, h => by
    simp only [List.all_cons, Bool.and_eq_true] at h
    obtain ⟨places, h1, h2⟩ := places_of hT fs h.2
    obtain ⟨ti, hti⟩ := Option.isSome_iff_exists.1 h.1
    obtain ⟨i, hi, hs, _⟩ := hT.info _ _ hti
    refine ⟨(f.offset, i.size) :: places, by simp [List.mapM_cons, hi, h1], fun j q hq => ?_⟩
    cases j with
    | zero =>
      simp [sizeT, hti] at hq
      simp [← hq, hs]
    | succ j => exact h2 j q (by simpa using hq)
theorem snd_bld_struct (hT : TOK P T) {o : Oper} {t : TypeId} {parts : Array (Nat × Operand)} {fs : Array Field} {s b : Nat} {zz : Option AV} {z : AV} {l : List ((Nat × Nat) × XO)} (ho : o.op = .build t parts) (hz : zOf T t = some z)
    (ht : T t = some ⟨.struct fs, s, b, zz⟩) (hall : fs.toList.all (fun f => (T f.type).isSome) = true) (hl : cPs (fun i => (fs[i]?).bind fun f => (sizeT T f.type).map fun n => (f.offset, n)) parts.toList = some l) : Snd P cmp r Γ o (.bld z l) := by
  refine snd_pure (by simp [ho]) fun ctx m hp w a ev base e hE hH hx hvc => ?_
  simp only [xi] at hx
  cases hb : bldP z (l.map fun p => (p.1, ev p.2)) with
  | none => simp [hb] at hx
  | some v =>
    simp only [hb, Option.bind_some, pureE, Option.some.injEq] at hx
    subst hx
    obtain ⟨i, zv, h1, h2, h3⟩ := T_zinfo hT hz
    have hsh := hT.shape t _ z ht (by unfold zOf at hz; rw [ht] at hz; simpa using hz)
    cases z with
    | s x => simp [isAggD] at hsh
    | pb pre n g =>
      obtain ⟨cs, rfl, hpr⟩ := h3 m
      obtain ⟨places, h4, h5⟩ := places_of hT fs.toList hall
      obtain ⟨cs', h6, h7⟩ := bld_snd (place := (places.toArray[·]?)) (fun i q hq => by simpa using h5 i q (by simpa using hq)) parts.toList l pre n g cs v hl hpr (fun y xo e hm => hE y xo e (by simpa [need, XI.opnds] using hm)) hb
      refine ⟨rfl, rfl, .agg cs'.toArray, ?_, h7⟩
      have hbu : P.built t (parts.map fun (i, x) => (i, a.eval x)).toList = some cs'.toArray := by
        unfold Program.built
        simp only [h1, T_struct hT ht, h2, h4]
        simpa [Value.cells] using h6
      simp [execOp, ho, run_build w t _ _ hbu]
theorem snd_bld_array (hT : TOK P T) {o : Oper} {t e' : TypeId} {parts : Array (Nat × Operand)} {k n : Nat} {s b : Nat} {zz : Option AV} {z : AV} {l : List ((Nat × Nat) × XO)} (ho : o.op = .build t parts) (hz : zOf T t = some z)
    (ht : T t = some ⟨.array k e', s, b, zz⟩) (hn : sizeT T e' = some n) (hl : cPs (fun i => some (i * n, n)) parts.toList = some l) : Snd P cmp r Γ o (.bld z l) := by
  refine snd_pure (by simp [ho]) fun ctx m hp w a ev base e hE hH hx hvc => ?_
  simp only [xi] at hx
  cases hb : bldP z (l.map fun p => (p.1, ev p.2)) with
  | none => simp [hb] at hx
  | some v =>
    simp only [hb, Option.bind_some, pureE, Option.some.injEq] at hx
    subst hx
    obtain ⟨i, zv, h1, h2, h3⟩ := T_zinfo hT hz
    have hsh := hT.shape t _ z ht (by unfold zOf at hz; rw [ht] at hz; simpa using hz)
    cases z with
    | s x => simp [isAggD] at hsh
    | pb pre n' g =>
      obtain ⟨cs, rfl, hpr⟩ := h3 m
      obtain ⟨ie, h4, h5⟩ := T_sinfo hT hn
      subst h5
      obtain ⟨cs', h6, h7⟩ := bld_snd (place := fun i => some (i * ie.size, ie.size)) (fun i q hq => by simpa using hq) parts.toList l pre n' g cs v hl hpr (fun y xo e hm => hE y xo e (by simpa [need, XI.opnds] using hm)) hb
      refine ⟨rfl, rfl, .agg cs'.toArray, ?_, h7⟩
      have hbu : P.built t (parts.map fun (i, x) => (i, a.eval x)).toList = some cs'.toArray := by
        unfold Program.built
        simp only [h1, T_und hT ht, h2, h4]
        simpa [Value.cells] using h6
      simp [execOp, ho, run_build w t _ _ hbu]
theorem set_map_many {k : IntKind} : ∀ (q : List Int) (l : List Int) (o : Nat), o + q.length ≤ l.length → (l.map (Value.int k)).take o ++ q.map (Value.int k) ++ (l.map (Value.int k)).drop (o + q.length) = (setMany l o q).map (Value.int k)
  | [], l, o, _ => by simp [setMany]
  | a :: q, l, o, h => by
    simp only [List.length_cons] at h
    have ih := set_map_many (k := k) q (l.set o a) (o + 1) (by simp; omega)
    have hs := list_seg_step (l.map (Value.int k)) o (.int k a) (q.map (Value.int k)) (by simp; omega)
    simp only [setMany, List.map_cons, List.length_cons]
    rw [← ih, List.map_set]
    simp only [List.length_map] at hs
    exact hs.symm
theorem bsl_snd {m : MM} {k : IntKind} {sz : Nat} {ev : XO → TV} {a : Act} :
    ∀ (ps : List (Nat × Operand)) (l : List (Nat × XO)) (c q : List Int), cPs some ps = some l →
      (∀ y xo, cO y = some xo → xo ∈ l.map (·.2) → TR m (ev xo) (a.eval y)) → bslP k sz c (l.map fun p => (p.1, ev p.2)) = some q →
      Instr.fill (fun i => some (i * sz, sz)) (c.map (Value.int k)).toArray (ps.map fun p => (p.1, a.eval p.2)) = some (q.map (Value.int k)).toArray ∧ q.length = c.length
  | [], l, c, q, hl, hE, hb => by
    simp [cPs] at hl
    subst hl
    simp [bslP] at hb
    subst hb
    exact ⟨by simp [Instr.fill], rfl⟩
  | (i, y) :: ps, l, c, q, hl, hE, hb => by
    simp only [cPs, Option.bind_eq_some_iff, Option.map_eq_some_iff] at hl
    obtain ⟨i', h1, xo, h2, l', h3, rfl⟩ := hl
    cases h1
    have hv := hE y xo h2 (by simp)
    have hE' : ∀ y xo, cO y = some xo → xo ∈ l'.map (·.2) → TR m (ev xo) (a.eval y) := fun y xo e hm => hE y xo e (by simp at hm ⊢; exact .inr hm)
    simp only [List.map_cons] at hb ⊢
    unfold bslP at hb
    split at hb
    · rename_i heq; cases heq
    · rename_i c' i'' k' x rest e2
      simp only [List.cons.injEq, Prod.mk.injEq] at e2
      obtain ⟨⟨rfl, hev⟩, rfl⟩ := e2
      split at hb
      case isFalse => cases hb
      rename_i hc
      obtain ⟨rfl, rfl, hlt⟩ := hc
      rw [hev] at hv
      have hval : a.eval y = .int k x := hv
      rw [hval, fill_step (v := .int k x) (vs := [.int k x]) (off := i * 1) (sz := 1) rfl rfl rfl (by simp; omega), Nat.mul_one, splice_set _ _ _ (by simpa using hlt), ← List.map_set]
      obtain ⟨g1, g2⟩ := bsl_snd ps l' _ q h3 hE' hb
      exact ⟨g1, by simpa using g2⟩
    · rename_i c' i'' pre fb rest e2
      simp only [List.cons.injEq, Prod.mk.injEq] at e2
      obtain ⟨⟨rfl, hev⟩, rfl⟩ := e2
      split at hb
      case isFalse => cases hb
      rename_i hc
      obtain ⟨rfl, hle⟩ := hc
      cases hq : intsOf k pre with
      | none => simp [hq] at hb
      | some qs =>
        simp only [hq, Option.bind_some] at hb
        rw [hev] at hv
        obtain ⟨cs2, hcs2, hp2⟩ := hv
        have hcs := hp2.ints hq
        obtain ⟨hq1, _⟩ := intsOf_get hq
        rw [Nat.add_mul, Nat.one_mul] at hle
        have hle' := hle
        rw [fill_step (v := a.eval y) (vs := qs.map (Value.int k)) (off := i * pre.length) (sz := pre.length) rfl (by rw [hcs2, hcs]; rfl) (by simpa using hq1) (by simpa using hle)]
        have hsm := fun c0 h0 => set_map_many (k := k) qs c0 (i * pre.length) h0
        simp only [hq1] at hsm
        rw [hsm _ hle']
        obtain ⟨g1, g2⟩ := bsl_snd ps l' _ q h3 hE' hb
        exact ⟨g1, by rw [g2, setMany_length]⟩
    · cases hb
end
end Go.Proofs.Yteekkjfjpoaihaa.Eng
namespace Go.Proofs.Yteekkjfjpoaihaa.Eng
open Go
section
variable {P : Program} {T : Tab} {cmp : Cmp} {r : Option Nat} {Γ : Cal → Option Spec}
theorem zrow {z : Array Value} {v : Value} (N : Nat) (hz : 0 < z.size) (h : ∀ j, j < z.size → z[j]! = v) : (Array.range N).map (fun i => z[i % z.size]!) = (List.replicate N v).toArray := by
  apply Array.ext
  · simp
  · intro i h1 h2
    simp only [Array.getElem_map, Array.getElem_range, List.getElem_toArray, List.getElem_replicate]
    exact h _ (Nat.mod_lt _ hz)
/-- the zero of a type whose cells are ints -/
theorem intsT_zero (hT : TOK P T) {e : TypeId} {k : IntKind} {n : Nat} (h : intsT T e = some (k, n)) : ∃ i zv, P.info? e = some i ∧ i.size = n ∧ i.zero = some zv ∧ zv.cells = (List.replicate n (Value.int k 0)).toArray := by
  unfold intsT at h
  split at h
  · rename_i k' a hz
    split at h
    case isFalse => cases h
    rename_i ha
    subst ha
    cases h
    obtain ⟨i, zv, h1, h2, h3⟩ := T_zinfo hT hz
    have h4 : zv = .int k 0 := h3 (fun _ => none)
    subst h4
    unfold zOf at hz
    cases ht : T e with
    | none => simp [ht] at hz
    | some ti =>
      have hs := hT.shape e ti _ ht (by simpa [ht] using hz)
      obtain ⟨i', h1', h5, _⟩ := hT.info e ti ht
      rw [h1] at h1'
      cases h1'
      exact ⟨i, _, h1, by rw [h5]; exact hs.1, h2, rfl⟩
  · rename_i k' a rr f hz
    cases hq : intsOf k' (.int k' a :: rr) with
    | none => simp [hq] at h
    | some l =>
      simp only [hq, Option.bind_some] at h
      split at h
      case isFalse => cases h
      rename_i hall
      cases h
      obtain ⟨i, zv, h1, h2, h3⟩ := T_zinfo hT hz
      obtain ⟨cs, rfl, hp⟩ := h3 (fun _ => none)
      have hcs := hp.ints hq
      unfold zOf at hz
      cases ht : T e with
      | none => simp [ht] at hz
      | some ti =>
        have hs := hT.shape e ti _ ht (by simpa [ht] using hz)
        obtain ⟨i', h1', h5, _⟩ := hT.info e ti ht
        rw [h1] at h1'
        cases h1'
        obtain ⟨hl1, _⟩ := intsOf_get hq
        refine ⟨i, _, h1, by rw [h5, hs.1, hl1]; simp, h2, ?_⟩
        simp only [Value.cells, hcs]
        congr 1
        apply List.ext_getElem?
        intro j
        by_cases hj : j < l.length
        · have h0 : l[j] = 0 := by
            have := List.all_eq_true.1 hall l[j] (List.getElem_mem hj)
            simpa using this
          simp [hj, h0]
        · simp [hj]
  · cases h
theorem bsl_len {n : Nat} (k : IntKind) : ((List.replicate n (0 : Int)).map (Value.int k)) = List.replicate n (Value.int k 0) := by simp
theorem snd_bsl (hT : TOK P T) {o : Oper} {t e' : TypeId} {parts : Array (Nat × Operand)} {len : Nat} {k : IntKind} {n : Nat} {s b : Nat} {zz : Option AV} {l : List (Nat × XO)} (ho : o.op = .buildSlice t len parts)
    (ht : T t = some ⟨.slice e', s, b, zz⟩) (hlen : len ≤ 1000) (hi : intsT T e' = some (k, n)) (hn : n ≤ 1000) (hn0 : 0 < n) (hl : cPs some parts.toList = some l) : Snd P cmp r Γ o (.bsl e' k n len l) := by
  intro ctx m hp w a ev base e K Q hE hH hfr hup hx hvc hK
  simp only [xi] at hx
  cases hb : bslP k n (List.replicate (len * n) 0) (l.map fun p => (p.1, ev p.2)) with
  | none => simp [hb] at hx
  | some q =>
    simp only [hb, Option.map_some, Option.some.injEq] at hx
    subst hx
    obtain ⟨i, zv, h1, h2, h3, h4⟩ := intsT_zero hT hi
    subst h2
    obtain ⟨g1, g2⟩ := bsl_snd parts.toList l _ q hl (fun y xo e hm => hE y xo e (by simpa [need, XI.opnds] using hm)) hb
    have hm := hH.dom base (by simpa using hfr 0 (by simp))
    have hq : q.length = len * i.size := by rw [g2]; simp
    have hsz : ¬ (2 ^ 24 < len * i.size) := by
      have : len * i.size ≤ 1000 * 1000 := Nat.mul_le_mul hlen hn
      omega
    have hrow : ∀ N, (Array.range N).map (fun j => zv.cells[j % zv.cells.size]!) = (List.replicate N (Value.int k 0)).toArray := fun N => zrow N (by rw [h4]; simpa using hn0) (fun j hj => by
      rw [h4] at hj ⊢
      simp at hj
      simp [hj])
    have hrun : (Instr.buildSlice t len (parts.map fun (i, x) => (i, a.eval x))).run P w = .ok (.slice (some ⟨w.heap.size, 0, none⟩) len len) (w.alloc (.cells (q.map (Value.int k)).toArray e')) := by
      have hfill : Instr.fill (fun j => some (j * i.size, i.size)) (List.replicate (len * i.size) (Value.int k 0)).toArray (parts.map fun (i, x) => (i, a.eval x)).toList = some (q.map (Value.int k)).toArray := by
        rw [bsl_len] at g1
        simpa using g1
      rcases Nat.eq_zero_or_pos (len * i.size) with h0 | h0
      · rw [h0] at hfill
        have hfill' : Instr.fill (fun j => some (j * i.size, i.size)) #[] (parts.map fun (i, x) => (i, a.eval x)).toList = some (q.map (Value.int k)).toArray := hfill
        have hl0 : len = 0 := by
          rcases Nat.mul_eq_zero.1 h0 with h | h
          · exact h
          · omega
        subst hl0
        simp only [Nat.zero_mul] at *
        have hr0 : ∀ g : Nat → Value, (Array.range 0).map g = #[] := fun g => by simp
        simp only [Array.toList_map] at hfill'
        simp [Instr.buildSlice, run_underlying (T_und hT ht), sizeOf, typeInfo, h1, hr0, hfill', newRow]
      · simp only [Instr.buildSlice, Sem.run_bind, run_underlying (T_und hT ht), Result.andThen_ok, sizeOf, typeInfo, run_program, h1, Sem.run_pure, if_neg hsz, if_neg (by omega : ¬ len * i.size = 0), zeroValue, h3, hrow, hfill, newRow, run_newObj_alloc]
    refine wpI (by simp [ho]) (v := .slice (some ⟨w.heap.size, 0, none⟩) len len) (w' := w.alloc (.cells (q.map (Value.int k)).toArray e')) (by simp [execOp, ho, hrun]) (hK _ _ (m.put base ⟨some w.heap.size, 0, len⟩) ?_ ?_)
    · exact ⟨_, m.put_same _ _, by simp, .inr ⟨_, 0, rfl, rfl, .inr (by simp)⟩⟩
    · refine Stp.new1 hm rfl rfl rfl rfl rfl (.inr ⟨_, _, rfl, rfl, heap_alloc_new w _, by simp [hq], ?_, fun j hj => by simp [hj, List.getD]⟩)
      show len ≤ maxLen
      unfold maxLen
      omega
theorem zFalse_spec {n : Nat} {pre : List SV} {f : Nat → Bool} {k : Nat} (h : zFalse (some (.pb pre k f)) n = true) : ∀ j, j < n → f j = false := by
  induction n with
  | zero => intro j hj; omega
  | succ n ih =>
    simp only [zFalse, Bool.and_eq_true, Bool.not_eq_true'] at h
    intro j hj
    rcases Nat.lt_succ_iff_lt_or_eq.1 hj with h1 | h1
    · exact ih h.2 j h1
    · subst h1; exact h.1
/-- a slice read as a source of cells -/
theorem src_snd {ctx : Ctx} {m : MM} {h : Nat → Option HO} {w : World} {tv : TV} {val : Value} {k : IntKind} {sz : Nat} {vc : Bool} {q : List Int} {n : Nat} {rd : List Nat} (hH : HRel cmp ctx m h w)
    (hs : srcOf tv h k sz = some (vc, q, n, rd)) (hvc : vc = true) (hv : TR m tv val) :
    (val = .slice none 0 0 ∧ n = 0 ∧ q = []) ∨ ∃ ad c, val = .slice (some ad) n c ∧ q.length = n * sz ∧ ∀ j u, (q.map (Value.int k))[j]? = some u → w.cell? (ad.add j) = some u := by
  unfold srcOf at hs
  split at hs
  · simp only [Option.some.injEq, Prod.mk.injEq] at hs
    obtain ⟨_, rfl, rfl, _⟩ := hs
    exact .inl ⟨hv, rfl, rfl⟩
  · rename_i _ _ _ id off sz' len
    split at hs
    case isFalse => cases hs
    rename_i hsz
    subst hsz
    obtain ⟨mb, hm, hcap, hv⟩ := hv
    have both : ∀ (ho : HO) (k' : IntKind) (l : List Int), h id = some ho → (∃ ty sz'', ho.o = .ivec ty k' sz'' l) ∨ (∃ sz'', ho.o = .xvec k' sz'' l) → (off + len) * sz' ≤ l.length →
        (val = .slice none 0 0 ∧ len = 0 ∧ (l.drop (off * sz')).take (len * sz') = []) ∨ ∃ ad c, val = .slice (some ad) len c ∧ ((l.drop (off * sz')).take (len * sz')).length = len * sz' ∧
          ∀ j u, (((l.drop (off * sz')).take (len * sz')).map (Value.int k'))[j]? = some u → w.cell? (ad.add j) = some u := by
      intro ho k' l hho hk hle
      obtain ⟨mb', hm', hor, _⟩ := hH.obj id ho hho
      rw [hm] at hm'
      cases hm'
      rcases hv with ⟨h1, h2, h3, h4, h5⟩ | ⟨b, o', h1, h2, h3⟩
      · exact .inl ⟨h2, h4, by rw [h4]; simp⟩
      · refine .inr ⟨⟨b, o', none⟩, _, h2, ?_, ?_⟩
        · rw [Nat.add_mul] at hle
          simp
          omega
        · intro j u hu
          rw [Nat.add_mul] at hle
          by_cases hj : j < len * sz'
          · have hlen : 0 < len := by
              rcases Nat.eq_zero_or_pos len with h | h
              · rw [h] at hj; simp at hj
              · exact h
            have ho' : o' = mb.base + off * sz' := by rcases h3 with h | h <;> omega
            have hlj : off * sz' + j < l.length := by omega
            simp [hj, hlj] at hu
            rw [addr_add, ho', ← hu]
            have hget : l.getD (off * sz' + j) 0 = l[off * sz' + j] := by simp [List.getD, hlj]
            rcases hk with ⟨ty, sz'', hk⟩ | ⟨sz'', hk⟩
            · rw [hk] at hor
              rcases hor with ⟨g1, _⟩ | ⟨b', cur, g1, g2, g3, g4, g5, g6⟩
              · rw [h1] at g1; cases g1
              · rw [h1] at g1
                cases g1
                rw [cell_atA g3, g2, Nat.zero_add, g6 _ hlj, hget]
            · rw [hk] at hor
              rcases hor with ⟨g1, _⟩ | ⟨b', g1, g2⟩
              · rw [h1] at g1; cases g1
              · rw [h1] at g1
                cases g1
                rw [Nat.add_assoc, g2 _ hlj, hget]
          · rw [List.getElem?_eq_none (by simp; omega)] at hu
            cases hu
    split at hs
    · rename_i ro ty k' sz'' l hho
      split at hs
      case isFalse => cases hs
      rename_i hk
      subst hk
      simp only [Option.some.injEq, Prod.mk.injEq] at hs
      obtain ⟨rfl, rfl, rfl, _⟩ := hs
      exact both ⟨ro, .ivec ty k sz'' l⟩ _ l hho (.inl ⟨_, _, rfl⟩) (by simpa using hvc)
    · rename_i ro k' sz'' l hho
      split at hs
      case isFalse => cases hs
      rename_i hk
      subst hk
      simp only [Option.some.injEq, Prod.mk.injEq] at hs
      obtain ⟨rfl, rfl, rfl, _⟩ := hs
      exact both ⟨ro, .xvec k sz'' l⟩ _ l hho (.inr ⟨_, rfl⟩) (by simpa using hvc)
    · cases hs
  · cases hs
theorem run_append_zero (w : World) (t ty e : TypeId) (i : TypeInfo) (ht : P.underlying t = some (.slice e)) (hi : P.info? e = some i) (val : Value) (hs : (val = .slice none 0 0) ∨ ∃ ad c, val = .slice (some ad) 0 c) :
    (Builtin.append_ #[t, t] ty #[.slice none 0 0, val]).run P w = .ok (.slice none 0 0) w := by
  rcases hs with rfl | ⟨ad, c, rfl⟩
  · simp [Builtin.append_, run_underlying ht, sizeOf, typeInfo, hi, Builtin.lenOf, Builtin.firstCells]
  · simp [Builtin.append_, run_underlying ht, sizeOf, typeInfo, hi, Builtin.lenOf, Builtin.firstCells, loadCells, loadCellsFrom]
theorem map_int_one (k : IntKind) (q : List Int) : ∀ u ∈ q.map (Value.int k), Value.oneCell' u = true := by
  intro u hu
  simp at hu
  obtain ⟨x, _, rfl⟩ := hu
  rfl
/-- append onto a nil slice -/
theorem app_nil (hT : TOK P T) {m : MM} {w : World} {t ty e : TypeId} {k : IntKind} {sz n base : Nat} {val : Value} {q : List Int} (ht : P.underlying t = some (.slice e)) (hi : intsT T e = some (k, sz))
    (hby : ∀ i, P.info? e = some i → i.bytes ≤ 1000) (hn : n ≤ 1000000000) (hm : m base = none)
    (hsrc : (val = .slice none 0 0 ∧ n = 0 ∧ q = []) ∨ ∃ ad c, val = .slice (some ad) n c ∧ q.length = n * sz ∧ ∀ j u, (q.map (Value.int k))[j]? = some u → w.cell? (ad.add j) = some u) :
    ∃ v' w' mb, (Builtin.append_ #[t, t] ty #[.slice none 0 0, val]).run P w = .ok v' w' ∧ TR (m.put base mb) (.av (.s (.sl base 0 sz n))) v' ∧ Stp cmp m (m.put base mb) w w' [] base [⟨false, .ivec e k sz q⟩] := by
  obtain ⟨i, zv, h1, h2, h3, h4⟩ := intsT_zero hT hi
  have hb := hby i h1
  rcases Nat.eq_zero_or_pos n with h0 | h0
  · subst h0
    have hq : q = [] := by
      rcases hsrc with ⟨_, _, h⟩ | ⟨_, _, _, h, _⟩
      · exact h
      · exact List.eq_nil_of_length_eq_zero (by simpa using h)
    subst hq
    refine ⟨_, w, ⟨none, 0, 0⟩, run_append_zero w t ty e i ht h1 val (by rcases hsrc with ⟨h, _⟩ | ⟨ad, c, h, _⟩; exact .inl h; exact .inr ⟨ad, c, h⟩), ⟨_, m.put_same _ _, by simp, .inl ⟨rfl, rfl, rfl, rfl, rfl⟩⟩, ?_⟩
    exact {
      ext := MM.le_put hm
      dom := fun id x h => by
        unfold MM.put at h
        split at h
        · rename_i e'; exact .inr ⟨by omega, by simp; omega⟩
        · exact .inl h
      size := Nat.le_refl _
      same := fun _ _ _ => rfl
      os := rfl
      tape := rfl
      output := rfl
      upd := fun _ h => by cases h
      new := fun k' ho' h => by
        cases k' with
        | zero =>
          simp at h
          subst h
          exact ⟨_, m.put_same base _, .inl ⟨rfl, rfl, rfl⟩, fun b hb' => by cases hb'⟩
        | succ k' => simp at h
      ndist := fun k k' _ _ _ h h' hne => by simp at h h'; omega }
  · rcases hsrc with ⟨_, h, _⟩ | ⟨ad, c, rfl, hql, hqc⟩
    · omega
    · subst h2
      have hbytes : n * i.bytes ≤ 1000000000 * 1000 := Nat.mul_le_mul hn hb
      have hr := run_append_nil (P := P) w t ty e i zv ht h1 h3 ad n c (q.map (Value.int k)) (by simpa using hql) hqc h0 (by omega) (by omega)
      refine ⟨_, _, ⟨some w.heap.size, 0, grownCap w n 0 e⟩, hr, ⟨_, m.put_same _ _, by simpa using grownCap_ge w n 0 e, .inr ⟨_, 0, rfl, rfl, .inr (by simp)⟩⟩, ?_⟩
      refine Stp.new1 hm rfl rfl rfl rfl rfl (.inr ⟨_, _, rfl, rfl, heap_alloc_new w.drew _, ?_, grownCap_le_maxLen w n 0 e (by unfold maxLen; omega), fun j hj => ?_⟩)
      · have hge := grownCap_ge w n 0 e
        simp only [Array.size_append, List.size_toArray, size_zeroCells, h4, List.length_map, List.length_replicate, hql]
        rw [← Nat.add_mul]
        congr 1
        show n + (grownCap w n 0 e - n) = grownCap w n 0 e
        omega
      · rw [Array.getElem?_append_left (by simpa using hj)]
        simp [hj, List.getD]
end
end Go.Proofs.Yteekkjfjpoaihaa.Eng
namespace Go.Proofs.Yteekkjfjpoaihaa.Eng
open Go
section
variable {P : Program} {T : Tab} {cmp : Cmp} {r : Option Nat} {Γ : Cal → Option Spec}
theorem Stp.withGone {ctx : Ctx} {m m' : MM} {h : Nat → Option HO} {w w' : World} {base id : Nat} {news : List HO} {ho : HO} (hH : HRel cmp ctx m h w) (hid : h id = some ho) (hs : Stp cmp m m' w w' [] base news) : Stp cmp m m' w w' [(id, ⟨false, .gone⟩)] base news where
  ext := hs.ext
  dom := hs.dom
  size := hs.size
  same := fun b hb _ => hs.same b hb (fun _ h => by cases h)
  os := hs.os
  tape := hs.tape
  output := hs.output
  upd := fun u hu => by
    simp at hu
    subst hu
    obtain ⟨mb, hm, _⟩ := hH.obj id ho hid
    exact ⟨mb, hm, trivial⟩
  new := fun k ho' hk => by
    obtain ⟨mb, h1, h2, h3⟩ := hs.new k ho' hk
    refine ⟨mb, h1, h2, fun b hb => ⟨(h3 b hb).1, .inl ?_⟩⟩
    rcases (h3 b hb).2 with h | ⟨_, h, _⟩
    · exact h
    · cases h
  ndist := hs.ndist
/-- append onto a row of one's own -/
theorem app_own (hT : TOK P T) {ctx : Ctx} {m : MM} {h : Nat → Option HO} {w : World} {t ty e : TypeId} {k : IntKind} {sz n len base id szo : Nat} {val dv : Value} {l q : List Int} (hH : HRel cmp ctx m h w) (ht : P.underlying t = some (.slice e)) (hi : intsT T e = some (k, sz))
    (hby : ∀ i, P.info? e = some i → i.bytes ≤ 1000) (hn : len + n ≤ 1000000000) (hm : m base = none) (hid : h id = some ⟨false, .ivec e k szo l⟩) (hdv : TR m (.av (.s (.sl id 0 sz len))) dv) (hlen : len * sz ≤ l.length)
    (hszo : szo = sz)
    (hsrc : (val = .slice none 0 0 ∧ n = 0 ∧ q = []) ∨ ∃ ad c, val = .slice (some ad) n c ∧ q.length = n * sz ∧ ∀ j u, (q.map (Value.int k))[j]? = some u → w.cell? (ad.add j) = some u) :
    ∃ v' w' mb, (Builtin.append_ #[t, t] ty #[dv, val]).run P w = .ok v' w' ∧ TR (m.put base mb) (.av (.s (.sl base 0 sz (len + n)))) v' ∧ Stp cmp m (m.put base mb) w w' [(id, ⟨false, .gone⟩)] base [⟨false, .ivec e k sz (l.take (len * sz) ++ q)⟩] := by
  subst hszo
  obtain ⟨mb, hmid, hcap, hdv⟩ := hdv
  obtain ⟨mb', hmid', hor, _⟩ := hH.obj id _ hid
  rw [hmid] at hmid'
  cases hmid'
  rcases hdv with ⟨h1, rfl, _, rfl, h5⟩ | ⟨b, o', hb, hdv, ho'⟩
  · obtain ⟨v', w', mbn, g1, g2, g3⟩ := app_nil (cmp := cmp) (ty := ty) hT ht hi hby (by omega) hm hsrc
    refine ⟨v', w', mbn, g1, by simpa using g2, ?_⟩
    simpa using g3.withGone hH hid
  · have hoo : o' = 0 := by
      rcases hor with ⟨g1, _⟩ | ⟨_, _, g1, g2, _⟩
      · rw [hb] at g1; cases g1
      · rcases ho' with h | h <;> omega
    subst hoo
    obtain ⟨i, zv, i1, i2, i3, i4⟩ := intsT_zero hT hi
    subst i2
    have hbi := hby i i1
    rcases hor with ⟨g1, _⟩ | ⟨b', cur, g1, g2, g3, g4, g5, g6⟩
    · rw [hb] at g1; cases g1
    · rw [hb] at g1
      cases g1
      rw [Nat.sub_zero] at hdv
      have hcur : len * i.size ≤ cur.size := by
        rw [g4]
        exact Nat.mul_le_mul_right _ (by omega)
      have htake : cur.toList.take (len * i.size) = (l.take (len * i.size)).map (Value.int k) := by
        apply List.ext_getElem?
        intro j
        by_cases hj : j < len * i.size
        · have := g6 j (by omega)
          have hjl : j < l.length := by omega
          simp only [List.getElem?_take, if_pos hj, List.getElem?_map]
          rw [show cur.toList[j]? = cur[j]? by simp, this]
          simp [List.getD, hjl]
        · rw [List.getElem?_take, if_neg hj, List.getElem?_eq_none (by simp; omega)]
      by_cases hroom : len + n ≤ mb.cap
      · -- in place
        have hql : q.length = n * i.size := by
          rcases hsrc with ⟨_, h2, h3⟩ | ⟨_, _, _, h, _⟩
          · rw [h2, h3]; simp
          · exact h
        have hfit : len * i.size + (q.map (Value.int k)).length ≤ cur.size := by
          rw [List.length_map, hql, g4, ← Nat.add_mul]
          exact Nat.mul_le_mul_right _ hroom
        have hrun : (Builtin.append_ #[t, t] ty #[dv, val]).run P w = .ok (.slice (some ⟨b, 0, none⟩) (len + n) mb.cap) (w.setRow b (cur.toList.take (len * i.size) ++ q.map (Value.int k) ++ cur.toList.drop (len * i.size + (q.map (Value.int k)).length)).toArray) := by
          rw [hdv]
          rcases hsrc with ⟨rfl, h2, h3⟩ | ⟨ad, c, rfl, _, hqc⟩
          · subst h2
            subst h3
            have hself := setRow_self w b cur e (0, 0) g3
            simp [Builtin.append_, run_underlying ht, sizeOf, typeInfo, i1, Builtin.lenOf, Builtin.firstCells, storeCells, hself]
            intro hlt
            omega
          · exact run_append_room w t ty e i ht i1 b len mb.cap cur g3 ad n c _ (by simpa using hql) hqc (map_int_one k q) hroom hfit
        refine ⟨_, _, ⟨some b, 0, mb.cap⟩, hrun, ⟨_, m.put_same _ _, by simpa using hroom, .inr ⟨b, 0, rfl, rfl, .inr (by simp)⟩⟩, ?_⟩
        have hw := Wr.setRow w b (cur.toList.take (len * i.size) ++ q.map (Value.int k) ++ cur.toList.drop (len * i.size + (q.map (Value.int k)).length)).toArray
        exact {
          ext := MM.le_put hm
          dom := fun id x h => by
            unfold MM.put at h
            split at h
            · rename_i e'; exact .inr ⟨by omega, by simp; omega⟩
            · exact .inl h
          size := Nat.le_of_eq hw.size.symm
          same := fun b' _ hne => hw.other b' fun e => hne (id, ⟨false, .gone⟩) (by simp) mb hmid (by rw [hb, e])
          os := rfl
          tape := rfl
          output := rfl
          upd := fun u hu => by
            simp at hu
            subst hu
            exact ⟨mb, hmid, trivial⟩
          new := fun k' ho' h => by
            cases k' with
            | zero =>
              simp at h
              subst h
              refine ⟨_, m.put_same base _, .inr ⟨b, _, rfl, rfl, setRow_heap w b cur _ e (0, 0) g3, ?_, g5, fun j hj => ?_⟩, fun b' hb' => ?_⟩
              · simp only [List.size_toArray, List.length_append, List.length_take, List.length_drop, Array.length_toList]
                omega
              · rw [htake, ← List.map_append, List.getElem?_toArray, List.getElem?_append_left (by simpa using hj)]
                simp only [List.getElem?_map, List.getD]
                rw [List.getElem?_eq_getElem hj]
                rfl
              · cases hb'
                refine ⟨?_, .inr ⟨(id, ⟨false, .gone⟩), by simp, rfl, mb, hmid, hb⟩⟩
                rw [hw.size]
                exact (Array.getElem?_eq_some_iff.1 g3).1
            | succ k' => simp at h
          ndist := fun k k' _ _ _ h h' hne => by simp at h h'; omega }
      · -- it grows
        rcases hsrc with ⟨_, h2, _⟩ | ⟨ad, c, rfl, hql, hqc⟩
        · omega
        · have hbytes : (len + n) * i.bytes ≤ 1000000000 * 1000 := Nat.mul_le_mul hn hbi
          have holds : ∀ j u, ((l.take (len * i.size)).map (Value.int k))[j]? = some u → w.cell? ((⟨b, 0, none⟩ : Addr).add j) = some u := by
            intro j u hu
            rw [← htake, List.getElem?_take] at hu
            split at hu
            · rw [addr_add, Nat.zero_add, cell_atA g3]
              simpa using hu
            · cases hu
          have hr := run_append_grow (P := P) w t ty e i zv ht i1 i3 ⟨b, 0, none⟩ len mb.cap _ (by simp; omega) holds ad n c (q.map (Value.int k)) (by simpa using hql) hqc (by omega) (by omega) (growslice_fits (by omega) (by omega))
          rw [hdv]
          refine ⟨_, _, ⟨some w.heap.size, 0, grownCap w (len + n) mb.cap e⟩, hr, ⟨_, m.put_same _ _, by simpa using grownCap_ge w (len + n) mb.cap e, .inr ⟨_, 0, rfl, rfl, .inr (by simp)⟩⟩, ?_⟩
          refine Stp.withGone hH hid (Stp.new1 hm rfl rfl rfl rfl rfl (.inr ⟨_, _, rfl, rfl, heap_alloc_new w.drew _, ?_, grownCap_le_maxLen w (len + n) mb.cap e (by unfold maxLen; omega), fun j hj => ?_⟩))
          · have hge := grownCap_ge w (len + n) mb.cap e
            simp only [Array.size_append, List.size_toArray, size_zeroCells, i4, List.length_map, List.length_replicate, List.length_take, hql]
            rw [Nat.min_eq_left hlen, ← Nat.add_mul, ← Nat.add_mul]
            congr 1
            show len + n + (grownCap w (len + n) mb.cap e - (len + n)) = grownCap w (len + n) mb.cap e
            omega
          · rw [Array.getElem?_append_left (by simpa using hj)]
            simp only [List.append_toArray, ← List.map_append, List.getElem?_toArray, List.getElem?_map, List.getD]
            rw [List.getElem?_eq_getElem hj]
            rfl
theorem snd_app (hT : TOK P T) {o : Oper} {c : Call} {t e' : TypeId} {y z : Operand} {y' z' : XO} {k : IntKind} {n : Nat} {s b : Nat} {zz : Option AV} {ti : TI} (ho : o.op = .call c) (hcal : c.callee = .builtin .append) (hargs : c.args = #[y, z]) (hat : c.argTypes = #[t, t])
    (ht : T t = some ⟨.slice e', s, b, zz⟩) (hi : intsT T e' = some (k, n)) (hti : T e' = some ti) (hby : ti.bytes ≤ 1000) (hc : cO y = some y') (hz : cO z = some z') : Snd P cmp r Γ o (.app e' k n y' z') := by
  intro ctx m hp w a ev base e K Q hE hH hfr hup hx hvc hK
  have hv := hE y y' hc (by simp [need, XI.opnds])
  have hzv := hE z z' hz (by simp [need, XI.opnds])
  have hbb : ∀ i, P.info? e' = some i → i.bytes ≤ 1000 := by
    intro i hi'
    obtain ⟨i', h1, _, h2, _⟩ := hT.info e' ti hti
    rw [hi'] at h1
    cases h1
    omega
  have hex : ∀ {v' : Value} {w' : World}, (Builtin.append_ #[t, t] o.type #[a.eval y, a.eval z]).run P w = .ok v' w' → (execOp a.eval o).run P w = .ok (.value v') w' := fun hr => by
    simp [execOp, ho, resolve, hcal, invoke, builtin, hargs, hat, hr]
  simp only [xi] at hx
  split at hx
  case h_2 => cases hx
  rename_i vc q nn rd hsrc
  split at hx
  · rename_i hnil
    simp only [Option.some.injEq] at hx
    subst hx
    simp only [Bool.and_eq_true, bndL, decide_eq_true_eq] at hvc
    have hs := src_snd hH hsrc hvc.1 hzv
    rw [hnil] at hv
    have hyv : a.eval y = .slice none 0 0 := hv
    rw [hyv] at hex
    obtain ⟨v', w', mb, g1, g2, g3⟩ := app_nil (cmp := cmp) (ty := o.type) hT (T_und hT ht) hi hbb hvc.2 (hH.dom base (by simpa using hfr 0 (by simp))) hs
    exact wpI (by simp [ho]) (hex g1) (hK _ _ _ g2 g3)
  · rename_i id off szz len hsl
    split at hx
    case h_2 => cases hx
    rename_i ty' k' szo l hid
    split at hx
    case isFalse => cases hx
    rename_i hcond
    obtain ⟨rfl, rfl, rfl, rfl, hszo⟩ := hcond
    simp only [Option.some.injEq] at hx
    subst hx
    simp only [Bool.and_eq_true, bndL, decide_eq_true_eq] at hvc
    have hs := src_snd hH hsrc hvc.1.1 hzv
    rw [hsl] at hv
    obtain ⟨v', w', mb, g1, g2, g3⟩ := app_own (cmp := cmp) (ty := o.type) hT hH (T_und hT ht) hi hbb hvc.2 (hH.dom base (by simpa using hfr 0 (by simp))) hid hv hvc.1.2 hszo hs
    exact wpI (by simp [ho]) (hex g1) (hK _ _ _ g2 g3)
  · cases hx
end
end Go.Proofs.Yteekkjfjpoaihaa.Eng
namespace Go.Proofs.Yteekkjfjpoaihaa.Eng
open Go
section
variable {P : Program} {T : Tab} {cmp : Cmp} {r : Option Nat} {Γ : Cal → Option Spec}
theorem snd_bslB (hT : TOK P T) {o : Oper} {t e' : TypeId} {parts : Array (Nat × Operand)} {len : Nat} {n : Nat} {z : AV} {f0 : Nat → Bool} {s b : Nat} {zz : Option AV} {l : List (Nat × XO)} (ho : o.op = .buildSlice t len parts)
    (ht : T t = some ⟨.slice e', s, b, zz⟩) (hlen : len ≤ 1000) (hz : zOf T e' = some (.pb [] n f0)) (hn : n ≤ 1000) (hn0 : 0 < n) (hzf : zFalse (zOf T e') n = true) (hl : cPs some parts.toList = some l) : Snd P cmp r Γ o (.bslB e' n len l) := by
  intro ctx m hp w a ev base e K Q hE hH hfr hup hx hvc hK
  simp only [xi] at hx
  cases hb : bslBP n len ff (l.map fun p => (p.1, ev p.2)) with
  | none => simp [hb] at hx
  | some q =>
    simp only [hb, Option.map_some, Option.some.injEq] at hx
    subst hx
    obtain ⟨i, zv, h1, h2, h3⟩ := T_zinfo hT hz
    obtain ⟨cs0, rfl, hp0⟩ := h3 (fun _ => none)
    have hcs0 := hp0.none
    have hsz : i.size = n := by
      unfold zOf at hz
      cases hte : T e' with
      | none => simp [hte] at hz
      | some ti =>
        have hs := hT.shape e' ti _ hte (by simpa [hte] using hz)
        obtain ⟨i', h1', h5, _⟩ := hT.info e' ti hte
        rw [h1] at h1'
        cases h1'
        rw [h5, hs.1]; simp
    subst hsz
    have hff : ∀ j, j < i.size → f0 j = false := by rw [hz] at hzf; exact zFalse_spec hzf
    have hm := hH.dom base (by simpa using hfr 0 (by simp))
    have hszl : ¬ (2 ^ 24 < len * i.size) := by
      have : len * i.size ≤ 1000 * 1000 := Nat.mul_le_mul hlen hn
      omega
    have hzc : (Value.agg cs0.toArray).cells = (List.replicate i.size (Value.bool false)).toArray := by
      show cs0.toArray = _
      rw [hcs0]
      congr 1
      apply List.ext_getElem?
      intro j
      by_cases hj : j < i.size
      · rw [bcells_get _ _ _ hj, hff j hj]; simp [hj]
      · rw [List.getElem?_eq_none (by rw [bcells_length]; omega)]; simp [hj]
    have hrow : ∀ N, (Array.range N).map (fun j => (Value.agg cs0.toArray).cells[j % (Value.agg cs0.toArray).cells.size]!) = (bcells N ff).toArray := fun N => by
      rw [zrow (v := .bool false) N (by rw [hzc]; simpa using hn0) (fun j hj => by rw [hzc] at hj ⊢; simp at hj; simp [hj])]
      congr 1
      apply List.ext_getElem?
      intro j
      by_cases hj : j < N
      · rw [bcells_get _ _ _ hj]; simp [hj, ff]
      · rw [List.getElem?_eq_none (by simp; omega), List.getElem?_eq_none (by rw [bcells_length]; omega)]
    have hfill : ∀ (ps : List (Nat × Operand)) (l : List (Nat × XO)) (g q : Nat → Bool), cPs some ps = some l → (∀ y xo, cO y = some xo → xo ∈ l.map (·.2) → TR m (ev xo) (a.eval y)) → bslBP i.size len g (l.map fun p => (p.1, ev p.2)) = some q →
        Instr.fill (fun j => some (j * i.size, i.size)) (bcells (len * i.size) g).toArray (ps.map fun p => (p.1, a.eval p.2)) = some (bcells (len * i.size) q).toArray := by
      intro ps
      induction ps with
      | nil =>
        intro l g q hl _ hb
        simp [cPs] at hl
        subst hl
        simp [bslBP] at hb
        subst hb
        simp [Instr.fill]
      | cons p ps ih =>
        obtain ⟨ii, y⟩ := p
        intro l g q hl hE hb
        simp only [cPs, Option.bind_eq_some_iff, Option.map_eq_some_iff] at hl
        obtain ⟨i', h1, xo, h2, l', h3, rfl⟩ := hl
        cases h1
        have hv := hE y xo h2 (by simp)
        have hE' : ∀ y xo, cO y = some xo → xo ∈ l'.map (·.2) → TR m (ev xo) (a.eval y) := fun y xo e hm => hE y xo e (by simp at hm ⊢; exact .inr hm)
        simp only [List.map_cons] at hb ⊢
        unfold bslBP at hb
        split at hb
        · rename_i heq; cases heq
        · rename_i f' i'' n'' g'' rest e2
          simp only [List.cons.injEq, Prod.mk.injEq] at e2
          obtain ⟨⟨rfl, hev⟩, rfl⟩ := e2
          split at hb
          case isFalse => cases hb
          rename_i hc
          obtain ⟨rfl, hlt⟩ := hc
          rw [hev] at hv
          obtain ⟨cs2, hcs2, hp2⟩ := hv
          have hfit : ii * i.size + i.size ≤ len * i.size := by
            rw [← Nat.succ_mul]; exact Nat.mul_le_mul_right _ hlt
          rw [fill_step (v := a.eval y) (vs := bcells i.size g'') (off := ii * i.size) (sz := i.size) rfl (by rw [hcs2, hp2.none]; rfl) (bcells_length _ _) (by rw [bcells_length]; exact hfit)]
          rw [← ih l' _ q h3 hE' hb]
          congr 2
          apply List.ext_getElem?
          intro j
          by_cases hj : j < len * i.size
          · rw [bcells_get _ _ _ hj]
            by_cases c1 : j < ii * i.size
            · rw [List.append_assoc, List.getElem?_append_left (by simp only [List.length_append, List.length_take, List.length_drop, bcells_length]; omega), List.getElem?_take, if_pos c1, bcells_get _ _ _ hj]
              have : Nat.ble (ii * i.size) j = false := by
                cases hh : Nat.ble (ii * i.size) j with
                | false => rfl
                | true => rw [Nat.ble_eq] at hh; omega
              simp [this]
            · have hb1 : Nat.ble (ii * i.size) j = true := by rw [Nat.ble_eq]; omega
              rw [List.append_assoc, List.getElem?_append_right (by simp only [List.length_append, List.length_take, List.length_drop, bcells_length]; omega)]
              simp only [List.length_take, bcells_length]
              rw [Nat.min_eq_left (by omega)]
              by_cases c2 : j < ii * i.size + i.size
              · have hb2 : Nat.blt j (ii * i.size + i.size) = true := by rw [Nat.blt_eq]; omega
                rw [List.getElem?_append_left (by rw [bcells_length]; omega), bcells_get _ _ _ (by omega)]
                simp [hb1, hb2]
              · have hb2 : Nat.blt j (ii * i.size + i.size) = false := by
                  cases hh : Nat.blt j (ii * i.size + i.size) with
                  | false => rfl
                  | true => rw [Nat.blt_eq] at hh; omega
                rw [List.getElem?_append_right (by rw [bcells_length]; omega), bcells_length, List.getElem?_drop]
                rw [show ii * i.size + i.size + (j - ii * i.size - i.size) = j by omega, bcells_get _ _ _ hj]
                simp [hb1, hb2]
          · rw [List.getElem?_eq_none (by simp only [List.length_append, List.length_take, List.length_drop, bcells_length]; omega), List.getElem?_eq_none (by rw [bcells_length]; omega)]
        · cases hb
    have hf := hfill parts.toList l ff q hl (fun y xo e hm => hE y xo e (by simpa [need, XI.opnds] using hm)) hb
    have hrun : (Instr.buildSlice t len (parts.map fun (i, x) => (i, a.eval x))).run P w = .ok (.slice (some ⟨w.heap.size, 0, none⟩) len len) (w.alloc (.cells (bcells (len * i.size) q).toArray e')) := by
      have hfill' : Instr.fill (fun j => some (j * i.size, i.size)) (bcells (len * i.size) ff).toArray (parts.map fun (i, x) => (i, a.eval x)).toList = some (bcells (len * i.size) q).toArray := by
        simpa using hf
      rcases Nat.eq_zero_or_pos (len * i.size) with h0 | h0
      · rw [h0] at hfill'
        have hl0 : len = 0 := by
          rcases Nat.mul_eq_zero.1 h0 with h | h
          · exact h
          · omega
        subst hl0
        have hfill'' : Instr.fill (fun j => some (j * i.size, i.size)) #[] (parts.map fun (i, x) => (i, a.eval x)).toList = some (bcells 0 q).toArray := by simpa [bcells] using hfill'
        have hr0 : ∀ g : Nat → Value, (Array.range 0).map g = #[] := fun g => by simp
        simp only [Array.toList_map] at hfill''
        simp [Instr.buildSlice, run_underlying (T_und hT ht), sizeOf, typeInfo, h1, hr0, hfill'', newRow]
      · simp only [Instr.buildSlice, Sem.run_bind, run_underlying (T_und hT ht), Result.andThen_ok, sizeOf, typeInfo, run_program, h1, Sem.run_pure, if_neg hszl, if_neg (by omega : ¬ len * i.size = 0), zeroValue, h2, hrow, hfill', newRow, run_newObj_alloc]
    refine wpI (by simp [ho]) (v := .slice (some ⟨w.heap.size, 0, none⟩) len len) (w' := w.alloc (.cells (bcells (len * i.size) q).toArray e')) (by simp [execOp, ho, hrun]) (hK _ _ (m.put base ⟨some w.heap.size, 0, len⟩) ?_ ?_)
    · exact ⟨_, m.put_same _ _, by simp, .inr ⟨_, 0, rfl, rfl, .inr (by simp)⟩⟩
    · refine Stp.new1 hm rfl rfl rfl rfl rfl ⟨_, _, rfl, rfl, heap_alloc_new w _, [], trivial, by simp, by simp⟩
theorem run_eqGuard_bool (op : BinOp) (t : TypeId) (x y : Operand) (a b : Bool) (w : World) : (eqGuard op t x y (.bool a) (.bool b)).run P w = .ok () w := by
  unfold eqGuard
  split <;> simp
theorem run_eqGuard_slice (op : BinOp) (t : TypeId) (x y : Operand) (a b : Option Addr) (n c n' c' : Nat) (w : World) : (eqGuard op t x y (.slice a n c) (.slice b n' c')).run P w = .ok () w := by
  unfold eqGuard
  split <;> simp
theorem run_eqGuard_agg (op : BinOp) (t : TypeId) (x y : Operand) (a b : Array Value) (w : World) (h : P.eqGuardType P.depth t = false) : (eqGuard op t x y (.agg a) (.agg b)).run P w = .ok () w := by
  unfold eqGuard
  split <;> simp [h]
theorem run_equalIn_bool (d : Nat) {t : TypeId} (hu : P.underlying t = some .bool) (a b : Bool) (w : World) : (Op.equalIn (d + 1) t (.bool a) (.bool b)).run P w = .ok (a == b) w := by
  simp [Op.equalIn, run_underlying hu]
theorem run_equalIn_nil_nil (d : Nat) {t e : TypeId} (hu : P.underlying t = some (.slice e)) (w : World) : (Op.equalIn (d + 1) t (.slice none 0 0) (.slice none 0 0)).run P w = .ok true w := by
  simp [Op.equalIn, run_underlying hu]
theorem run_equalIn_nil_some (d : Nat) {t e : TypeId} (hu : P.underlying t = some (.slice e)) (a : Addr) (n c : Nat) (w : World) : (Op.equalIn (d + 1) t (.slice none 0 0) (.slice (some a) n c)).run P w = .ok false w := by
  simp [Op.equalIn, run_underlying hu]
theorem run_equalIn_some_nil (d : Nat) {t e : TypeId} (hu : P.underlying t = some (.slice e)) (a : Addr) (n c : Nat) (w : World) : (Op.equalIn (d + 1) t (.slice (some a) n c) (.slice none 0 0)).run P w = .ok false w := by
  simp [Op.equalIn, run_underlying hu]
theorem snd_eqv (hT : TOK P T) (hQ : EQOK P) {o : Oper} {op : BinOp} {neg : Bool} {t t' : TypeId} {x y : Operand} {x' y' : XO} {k : EK} (ho : o.op = .binOp op t x y t') (hop : (op = .eql ∧ neg = false) ∨ (op = .neq ∧ neg = true)) (hk : ekT T t = some k)
    (hx' : cO x = some x') (hy' : cO y = some y') : Snd P cmp r Γ o (.eqv k neg x' y') := by
  refine snd_pure (by simp [ho]) fun ctx m hp w a ev base e hE hH hx hvc => ?_
  have hxv := hE x x' hx' (by simp [need, XI.opnds])
  have hyv := hE y y' hy' (by simp [need, XI.opnds])
  simp only [xi] at hx
  cases hq : eqT k (ev x') (ev y') with
  | none => simp [hq] at hx
  | some rr =>
    obtain ⟨vc, bb⟩ := rr
    simp only [hq, Option.bind_some, pureE, Option.some.injEq] at hx
    subst hx
    have main : ((Op.equal t (a.eval x) (a.eval y)).run P w = .ok bb w) ∧ ((eqGuard op t x y (a.eval x) (a.eval y)).run P w = .ok () w) ∧
        (∀ op', (op' = .eql → binOp op' t (a.eval x) (a.eval y) = (do pure (.bool (← Op.equal t (a.eval x) (a.eval y))))) ∧ (op' = .neq → binOp op' t (a.eval x) (a.eval y) = (do pure (.bool (!(← Op.equal t (a.eval x) (a.eval y))))))) := by
      unfold eqT at hq
      split at hq
      · rename_i p q h1 h2
        rw [h1] at hxv
        rw [h2] at hyv
        have e1 : a.eval x = .bool p := hxv
        have e2 : a.eval y = .bool q := hyv
        simp only [Option.some.injEq, Prod.mk.injEq] at hq
        obtain ⟨_, rfl⟩ := hq
        have hu : P.underlying t = some .bool := by
          unfold ekT at hk
          split at hk
          · rename_i ht; exact T_und hT ht
          · cases hk
          · cases hz : alGet eqTab t <;> simp [hz] at hk
          · cases hk
        rw [e1, e2]
        refine ⟨run_equalIn_bool 9999 hu _ _ w, run_eqGuard_bool _ _ _ _ _ _ w, fun op' => ⟨fun h => by subst h; rfl, fun h => by subst h; rfl⟩⟩
      · rename_i p q h1 h2
        rw [h1] at hxv
        rw [h2] at hyv
        have hu : ∃ e', P.underlying t = some (.slice e') := by
          unfold ekT at hk
          split at hk
          · cases hk
          · rename_i e' _ _ _ ht; exact ⟨e', T_und hT ht⟩
          · cases hz : alGet eqTab t <;> simp [hz] at hk
          · cases hk
        obtain ⟨e', hu⟩ := hu
        unfold eqNil at hq
        split at hq
        · simp only [Option.some.injEq, Prod.mk.injEq] at hq
          obtain ⟨_, rfl⟩ := hq
          have e1 : a.eval x = .slice none 0 0 := hxv
          have e2 : a.eval y = .slice none 0 0 := hyv
          rw [e1, e2]
          exact ⟨run_equalIn_nil_nil 9999 hu w, run_eqGuard_slice _ _ _ _ _ _ _ _ _ _ w, fun op' => ⟨fun h => by subst h; rfl, fun h => by subst h; rfl⟩⟩
        · rename_i id off sz len
          simp only [Option.some.injEq, Prod.mk.injEq] at hq
          obtain ⟨rfl, rfl⟩ := hq
          simp only [decide_eq_true_eq] at hvc
          have e1 : a.eval x = .slice none 0 0 := hxv
          obtain ⟨mb, _, _, ⟨_, _, _, h, _⟩ | ⟨b, o', _, e2, _⟩⟩ := hyv
          · omega
          · rw [e1, e2]
            exact ⟨run_equalIn_nil_some 9999 hu _ _ _ w, run_eqGuard_slice _ _ _ _ _ _ _ _ _ _ w, fun op' => ⟨fun h => by subst h; rfl, fun h => by subst h; rfl⟩⟩
        · rename_i id off sz len
          simp only [Option.some.injEq, Prod.mk.injEq] at hq
          obtain ⟨rfl, rfl⟩ := hq
          simp only [decide_eq_true_eq] at hvc
          have e2 : a.eval y = .slice none 0 0 := hyv
          obtain ⟨mb, _, _, ⟨_, _, _, h, _⟩ | ⟨b, o', _, e1, _⟩⟩ := hxv
          · omega
          · rw [e1, e2]
            exact ⟨run_equalIn_some_nil 9999 hu _ _ _ w, run_eqGuard_slice _ _ _ _ _ _ _ _ _ _ w, fun op' => ⟨fun h => by subst h; rfl, fun h => by subst h; rfl⟩⟩
        · cases hq
      · rename_i p n l n1 f rr n2 g h1 h2
        rw [h1] at hxv
        rw [h2] at hyv
        split at hq
        case isFalse => cases hq
        rename_i hcond
        obtain ⟨rfl, rfl, rfl, hl2⟩ := hcond
        split at hq
        · rename_i la lb hla hlb
          simp only [Option.some.injEq, Prod.mk.injEq] at hq
          obtain ⟨_, rfl⟩ := hq
          have hz : alGet eqTab t = some (l.length, n2) := by
            unfold ekT at hk
            split at hk
            · cases hk
            · cases hk
            · cases hz : alGet eqTab t with
              | none => simp [hz] at hk
              | some q =>
                simp [hz] at hk
                rw [← hk.1, ← hk.2]
            · cases hk
          have g1 := hQ.guard t _ _ hz
          have g2 := hQ.eq t _ _ hz
          have split2 : ∀ {pre : List SV} {ff' : Nat → Bool} {ll : List Int} {val : Value}, TR m (.av (.pb pre n2 ff')) val → intsOf .i64 pre = some ll → val = .agg (ll.map (Value.int .i64) ++ bcells n2 ff').toArray := by
            intro pre ff' ll val hv hll
            obtain ⟨cs, rfl, vs, k1, k2, rfl⟩ := hv
            have : vs = ll.map (Value.int .i64) := by
              have hp0 : PR m pre 0 ff (vs ++ bcells 0 ff) := ⟨vs, k1, k2, rfl⟩
              have := hp0.ints hll
              simpa [bcells] using this
            rw [this]
          have e1 := split2 hxv hla
          have e2 := split2 hyv hlb
          obtain ⟨la1, _⟩ := intsOf_get hla
          obtain ⟨lb1, _⟩ := intsOf_get hlb
          rw [e1, e2]
          exact ⟨g2 la lb f g w la1 (by omega), run_eqGuard_agg _ _ _ _ _ _ w g1, fun op' => ⟨fun h => by subst h; rfl, fun h => by subst h; rfl⟩⟩
        · cases hq
      · cases hq
    obtain ⟨m1, m2, m3⟩ := main
    rcases hop with ⟨rfl, rfl⟩ | ⟨rfl, rfl⟩
    · refine ⟨rfl, rfl, .bool bb, ?_, by simp [TR, AR, SR]⟩
      simp [execOp, ho, m2, (m3 .eql).1 rfl, m1]
    · refine ⟨rfl, rfl, .bool !bb, ?_, by simp [TR, AR, SR]⟩
      simp [execOp, ho, m2, (m3 .neq).2 rfl, m1]
theorem snd_slcA (hT : TOK P T) {o : Oper} {t e' : TypeId} {y : Operand} {y' : XO} {k n : Nat} {s b : Nat} {z : Option AV} {lo hi : Option Operand} {lo' hi' : Option XO} (ho : o.op = .slice t y lo hi none) (hc : cO y = some y') (hlo : cOpt lo = some lo') (hhi : cOpt hi = some hi')
    (ht : T t = some ⟨.array k e', s, b, z⟩) (hn : sizeT T e' = some n) : Snd P cmp r Γ o (.slcA k n y' lo' hi') := by
  refine snd_pure (by simp [ho]) fun ctx m hp w a ev base e hE hH hx hvc => ?_
  have hv := hE y y' hc (by simp [need, XI.opnds])
  simp only [xi] at hx
  split at hx
  case h_2 => cases hx
  rename_i id b' o' hb
  rw [hb] at hv
  obtain ⟨mb, bb, h1, h2, hv⟩ := hv
  simp only [pureE, Option.some.injEq] at hx
  subst hx
  have hlo0 : lo = none := by cases lo with | none => rfl | some q => simp [cOpt] at hlo
  have hhi0 : hi = none := by cases hi with | none => rfl | some q => simp [cOpt] at hhi
  subst hlo0
  subst hhi0
  refine ⟨rfl, rfl, .slice (some ⟨bb, mb.base + (b' + o'), none⟩) k k, ?_, mb, bb, k, h1, h2, rfl⟩
  simp [execOp, ho, hv, Instr.sliceAt, Instr.sureAddr, Instr.sliceBounds, run_underlying (T_und hT ht), T_size hT hn, addr_add]
theorem cOpt_some {x : Option Operand} {y : XO} (h : cOpt x = some (some y)) : ∃ z, x = some z ∧ cO z = some y := by
  cases x with
  | none => simp [cOpt] at h
  | some z => simp [cOpt] at h; exact ⟨z, rfl, h⟩
theorem cOpt_none {x : Option Operand} (h : cOpt x = some none) : x = none := by
  cases x with
  | none => rfl
  | some z => simp [cOpt] at h
theorem snd_slc (hT : TOK P T) {o : Oper} {t e' : TypeId} {y : Operand} {y' : XO} {n : Nat} {s b : Nat} {z : Option AV} {lo hi : Option Operand} {lo' hi' : Option XO} (ho : o.op = .slice t y lo hi none) (hc : cO y = some y') (hlo : cOpt lo = some lo') (hhi : cOpt hi = some hi')
    (ht : T t = some ⟨.slice e', s, b, z⟩) (hn : sizeT T e' = some n) : Snd P cmp r Γ o (.slc n y' lo' hi') := by
  refine snd_pure (by simp [ho]) fun ctx m hp w a ev base e hE hH hx hvc => ?_
  have hv := hE y y' hc (by simp [need, XI.opnds])
  have hlov : ∀ xo, lo' = some xo → ∃ q, lo = some q ∧ TR m (ev xo) (a.eval q) := by
    rintro xo rfl
    obtain ⟨q, h1, h2⟩ := cOpt_some hlo
    exact ⟨q, h1, hE q xo h2 (by simp [need, XI.opnds])⟩
  have hhiv : ∀ xo, hi' = some xo → ∃ q, hi = some q ∧ TR m (ev xo) (a.eval q) := by
    rintro xo rfl
    obtain ⟨q, h1, h2⟩ := cOpt_some hhi
    exact ⟨q, h1, hE q xo h2 (by simp [need, XI.opnds])⟩
  have hu := T_und hT ht
  have hsz := T_size hT hn
  simp only [xi] at hx
  split at hx
  · rename_i id off sz' len h1 h2 h3
    rw [h1] at hv
    split at hx
    case isFalse => cases hx
    rename_i hsz'
    subst hsz'
    simp only [Option.map_eq_none_iff] at h2 h3
    subst h2
    subst h3
    have := cOpt_none hlo
    subst this
    have := cOpt_none hhi
    subst this
    simp only [pureE, Option.some.injEq] at hx
    subst hx
    refine ⟨rfl, rfl, a.eval y, ?_, hv⟩
    obtain ⟨mb, _, _, ⟨_, h, _⟩ | ⟨b, o', _, h, _⟩⟩ := hv
    · simp [execOp, ho, h, Instr.sliceAt, Instr.slice, Instr.sliceBounds, hu, hsz, run_underlying hu]
    · simp [execOp, ho, h, Instr.sliceAt, Instr.slice, Instr.sliceBounds, hsz, run_underlying hu, Addr.add]
  · rename_i id off sz' len bk bb h1 h2 h3
    rw [h1] at hv
    split at hx
    case isFalse => cases hx
    rename_i hsz'
    subst hsz'
    simp only [Option.map_eq_none_iff, Option.map_eq_some_iff] at h2 h3
    subst h2
    obtain ⟨xo, rfl, h3⟩ := h3
    have := cOpt_none hlo
    subst this
    obtain ⟨q, rfl, hq⟩ := hhiv xo rfl
    rw [h3, TR_int] at hq
    simp only [pureE, Option.some.injEq] at hx
    subst hx
    simp only [Bool.and_eq_true, decide_eq_true_eq] at hvc
    obtain ⟨mb, hm, hcap, ⟨g1, g2, g3, g4, g5⟩ | ⟨b, o', g1, g2, g3⟩⟩ := hv
    · have hb0 : bb = 0 := by omega
      subst hb0
      refine ⟨rfl, rfl, .slice none 0 0, ?_, mb, hm, by simp; omega, .inl ⟨g1, rfl, g3, by simp, g5⟩⟩
      simp [execOp, ho, g2, hq, Instr.sliceAt, Instr.slice, Instr.sliceBounds, Instr.sliceBound, asIntOf, hsz, run_underlying hu]
    · have hbc : 0 ≤ bb ∧ bb ≤ ((mb.cap - off : Nat) : Int) := ⟨hvc.1, by omega⟩
      refine ⟨rfl, rfl, .slice (some ⟨b, o', none⟩) bb.toNat (mb.cap - off), ?_, mb, hm, by omega, .inr ⟨b, o', g1, rfl, ?_⟩⟩
      · simp [execOp, ho, g2, hq, Instr.sliceAt, Instr.slice, Instr.sliceBounds, Instr.sliceBound, asIntOf, hsz, run_underlying hu, hbc, Addr.add]
      · rcases g3 with g3 | g3
        · exact .inl ⟨by omega, g3.2⟩
        · exact .inr g3
  · rename_i id off sz' len ak aa h1 h2 h3
    rw [h1] at hv
    split at hx
    case isFalse => cases hx
    rename_i hsz'
    subst hsz'
    simp only [Option.map_eq_none_iff, Option.map_eq_some_iff] at h2 h3
    subst h3
    obtain ⟨xo, rfl, h2⟩ := h2
    have := cOpt_none hhi
    subst this
    obtain ⟨q, rfl, hq⟩ := hlov xo rfl
    rw [h2, TR_int] at hq
    simp only [pureE, Option.some.injEq] at hx
    subst hx
    simp only [Bool.and_eq_true, decide_eq_true_eq] at hvc
    obtain ⟨mb, hm, hcap, ⟨g1, g2, g3, g4, g5⟩ | ⟨b, o', g1, g2, g3⟩⟩ := hv
    · have hb0 : aa = 0 := by omega
      subst hb0
      refine ⟨rfl, rfl, .slice none 0 0, ?_, mb, hm, by simp; omega, .inl ⟨g1, rfl, by simpa using g3, by simpa using g4, g5⟩⟩
      simp [execOp, ho, g2, hq, Instr.sliceAt, Instr.slice, Instr.sliceBounds, Instr.sliceBound, asIntOf, hsz, run_underlying hu]
    · have hbc : 0 ≤ aa ∧ aa ≤ (len : Int) := ⟨hvc.1, hvc.2⟩
      obtain ⟨k, rfl⟩ := Int.eq_ofNat_of_zero_le hvc.1
      have hk : k ≤ len := by omega
      refine ⟨rfl, rfl, .slice (some (if mb.cap - off = k then ⟨b, o', none⟩ else ⟨b, o' + k * n, none⟩)) (len - k) (mb.cap - off - k), ?_, mb, hm, by simp; omega, ?_⟩
      · by_cases hck : mb.cap - off = k
        · simp [execOp, ho, g2, hq, Instr.sliceAt, Instr.slice, Instr.sliceBounds, Instr.sliceBound, asIntOf, hsz, run_underlying hu, hk, hck]
        · simp [execOp, ho, g2, hq, Instr.sliceAt, Instr.slice, Instr.sliceBounds, Instr.sliceBound, asIntOf, hsz, run_underlying hu, hk, hck, addr_add]
      · by_cases hck : mb.cap - off = k
        · rw [if_pos hck]
          refine .inr ⟨b, o', g1, by simp; omega, ?_⟩
          rcases Nat.eq_zero_or_pos k with h0 | h0
          · subst h0
            simp only [Int.toNat_natCast]
            rcases g3 with g3 | g3
            · exact .inl ⟨by omega, by omega⟩
            · exact .inr (by rw [g3, Nat.add_zero])
          · exact .inl ⟨by simp; omega, by simp; omega⟩
        · rw [if_neg hck]
          refine .inr ⟨b, o' + k * n, g1, by simp; omega, ?_⟩
          simp only [Int.toNat_natCast]
          rcases g3 with g3 | g3
          · exact .inl ⟨by omega, by omega⟩
          · exact .inr (by rw [g3, Nat.add_mul, Nat.add_assoc])
  · rename_i h1 h2 h3
    rw [h1] at hv
    have hv' : a.eval y = .slice none 0 0 := hv
    simp only [Option.map_eq_none_iff] at h2 h3
    subst h2
    subst h3
    have := cOpt_none hlo
    subst this
    have := cOpt_none hhi
    subst this
    simp only [pureE, Option.some.injEq] at hx
    subst hx
    refine ⟨rfl, rfl, .slice none 0 0, ?_, rfl⟩
    simp [execOp, ho, hv', Instr.sliceAt, Instr.slice, Instr.sliceBounds, hsz, run_underlying hu]
  · rename_i bk bb h1 h2 h3
    rw [h1] at hv
    have hv' : a.eval y = .slice none 0 0 := hv
    simp only [Option.map_eq_none_iff, Option.map_eq_some_iff] at h2 h3
    subst h2
    obtain ⟨xo, rfl, h3⟩ := h3
    have := cOpt_none hlo
    subst this
    obtain ⟨q, rfl, hq⟩ := hhiv xo rfl
    rw [h3, TR_int] at hq
    simp only [pureE, Option.some.injEq] at hx
    subst hx
    simp only [decide_eq_true_eq] at hvc
    subst hvc
    refine ⟨rfl, rfl, .slice none 0 0, ?_, rfl⟩
    simp [execOp, ho, hv', hq, Instr.sliceAt, Instr.slice, Instr.sliceBounds, Instr.sliceBound, asIntOf, hsz, run_underlying hu]
  · rename_i ak aa h1 h2 h3
    rw [h1] at hv
    have hv' : a.eval y = .slice none 0 0 := hv
    simp only [Option.map_eq_none_iff, Option.map_eq_some_iff] at h2 h3
    subst h3
    obtain ⟨xo, rfl, h2⟩ := h2
    have := cOpt_none hhi
    subst this
    obtain ⟨q, rfl, hq⟩ := hlov xo rfl
    rw [h2, TR_int] at hq
    simp only [pureE, Option.some.injEq] at hx
    subst hx
    simp only [decide_eq_true_eq] at hvc
    subst hvc
    refine ⟨rfl, rfl, .slice none 0 0, ?_, rfl⟩
    simp [execOp, ho, hv', hq, Instr.sliceAt, Instr.slice, Instr.sliceBounds, Instr.sliceBound, asIntOf, hsz, run_underlying hu]
  · cases hx
end
end Go.Proofs.Yteekkjfjpoaihaa.Eng
namespace Go.Proofs.Yteekkjfjpoaihaa.Eng
open Go
section
variable {P : Program} {T : Tab} {cmp : Cmp} {r : Option Nat} {Γ : Cal → Option Spec}
/-- a part of an aggregate value -/
theorem part_snd (hT : TOK P T) {m : MM} {pre : List SV} {n : Nat} {f : Nat → Bool} {cs : List Value} {t : TypeId} {k : LK} {base off : Nat} {vc : Bool} {v : AV} {ty : TypeId} (hp : PR m pre n f cs) (hk : lkT T t = some k)
    (h : ldO k (.row ty pre n f) base off = some (vc, v)) (hvc : vc = true) (w : World) : ∃ u, (part t cs.toArray (base + off)).run P w = .ok u w ∧ AR m v u := by
  have hlen := hp.length
  cases k with
  | one =>
    have hr : ∀ u, cs[base + off]? = some u → (part t cs.toArray (base + off)).run P w = .ok u w := fun u hu => by
      simp [part, (lk_one hT hk).1, hu]
    simp only [ldO, Bool.cond_eq_ite] at h
    split at h
    · simp only [Option.some.injEq, Prod.mk.injEq] at h
      obtain ⟨rfl, rfl⟩ := h
      rw [Nat.blt_eq] at hvc
      obtain ⟨u, h1, h2⟩ := hp.get_lo hvc
      exact ⟨u, hr u h1, h2⟩
    · rename_i hlt
      simp only [Option.some.injEq, Prod.mk.injEq] at h
      obtain ⟨rfl, rfl⟩ := h
      rw [Nat.blt_eq] at hlt
      simp only [decide_eq_true_eq] at hvc
      have := hp.get_hi hvc
      rw [show pre.length + (base - pre.length + off) = base + off by omega] at this
      exact ⟨_, hr _ this, rfl⟩
  | many p q =>
    have hr : (part t cs.toArray (base + off)).run P w = .ok (.agg ((cs.drop (base + off)).take (p + q)).toArray) w := by
      have e : cs.toArray.extract (base + off) (base + off + (p + q)) = ((cs.drop (base + off)).take (p + q)).toArray := by
        simp [List.extract_eq_take_drop]
      simp [part, (lk_many hT hk).1, T_size hT (lk_many hT hk).2, e]
    simp only [ldO, Bool.cond_eq_ite] at h
    split at h
    · rename_i hc
      simp only [Bool.and_eq_true, nbeq] at hc
      obtain ⟨⟨rfl, rfl⟩, rfl⟩ := hc
      simp only [Option.some.injEq, Prod.mk.injEq] at h
      obtain ⟨rfl, rfl⟩ := h
      simp only [decide_eq_true_eq] at hvc
      subst hvc
      refine ⟨_, hr, _, rfl, ?_⟩
      simp only [Nat.zero_add, Nat.add_zero, List.drop_zero]
      rw [List.take_of_length_le (by omega)]
      exact hp
    · split at h
      · rename_i hc2
        simp only [Bool.and_eq_true, nbeq, Nat.ble_eq] at hc2
        obtain ⟨rfl, hge⟩ := hc2
        simp only [Option.some.injEq, Prod.mk.injEq] at h
        obtain ⟨rfl, rfl⟩ := h
        simp only [decide_eq_true_eq] at hvc
        have hs := hp.sub_hi (o := base + off) (q := q) (by omega) (by omega)
        refine ⟨_, hr, _, rfl, ?_⟩
        rw [show base - pre.length + off = base + off - pre.length by omega, Nat.zero_add]
        exact hs
      · split at h
        · rename_i hc3
          simp only [nbeq] at hc3
          subst hc3
          simp only [Option.some.injEq, Prod.mk.injEq] at h
          obtain ⟨rfl, rfl⟩ := h
          simp only [decide_eq_true_eq] at hvc
          exact ⟨_, hr, _, rfl, hp.sub_lo hvc⟩
        · cases h
theorem snd_fld (hT : TOK P T) {o : Oper} {t : TypeId} {y : Operand} {y' : XO} {f : Nat} {q : Field} {fs : Array Field} {s b : Nat} {z : Option AV} {k : LK} (ho : o.op = .field t y f) (hc : cO y = some y')
    (ht : T t = some ⟨.struct fs, s, b, z⟩) (hq : fs[f]? = some q) (hk : lkT T q.type = some k) : Snd P cmp r Γ o (.fld q.offset k y') := by
  refine snd_pure (by simp [ho]) fun ctx m hp w a ev base e hE hH hx hvc => ?_
  have hv := hE y y' hc (by simp [need, XI.opnds])
  simp only [xi] at hx
  split at hx
  case h_2 => cases hx
  rename_i pre n g hb
  rw [hb] at hv
  obtain ⟨cs, hv, hpr⟩ := hv
  cases hl : ldO k (.row 0 pre n g) q.offset 0 with
  | none => simp [hl] at hx
  | some rv =>
    simp only [hl, Option.bind_some, pureE, Option.some.injEq] at hx
    subst hx
    obtain ⟨u, h1, h2⟩ := part_snd hT hpr hk hl hvc w
    refine ⟨rfl, rfl, u, ?_, h2⟩
    rw [Nat.add_zero] at h1
    simp [execOp, ho, hv, Instr.field, run_underlying (T_struct hT ht), hq, asAgg, h1]
theorem snd_idx (hT : TOK P T) {o : Oper} {t e' : TypeId} {y i : Operand} {y' i' : XO} {k n : Nat} {s b : Nat} {z : Option AV} {lk : LK} (ho : o.op = .index t y i) (hc : cO y = some y') (hi : cO i = some i')
    (ht : T t = some ⟨.array k e', s, b, z⟩) (hn : sizeT T e' = some n) (hk : lkT T e' = some lk) : Snd P cmp r Γ o (.idx k n lk y' i') := by
  refine snd_pure (by simp [ho]) fun ctx m hp w a ev base e hE hH hx hvc => ?_
  have hv := hE y y' hc (by simp [need, XI.opnds])
  have hiv := hE i i' hi (by simp [need, XI.opnds])
  simp only [xi] at hx
  split at hx
  case h_2 => cases hx
  rename_i pre mm g kk aa hb hb2
  rw [hb] at hv
  rw [hb2, TR_int] at hiv
  obtain ⟨cs, hv, hpr⟩ := hv
  cases hl : ldO lk (.row 0 pre mm g) 0 (aa.toNat * n) with
  | none => simp [hl] at hx
  | some rv =>
    simp only [hl, Option.bind_some, pureE, Option.some.injEq] at hx
    subst hx
    simp only [Bool.and_eq_true, decide_eq_true_eq] at hvc
    obtain ⟨u, h1, h2⟩ := part_snd hT hpr hk hl hvc.1.1 w
    refine ⟨rfl, rfl, u, ?_, h2⟩
    have hc2 : 0 ≤ aa ∧ aa < (k : Int) := ⟨hvc.1.2, hvc.2⟩
    rw [Nat.zero_add] at h1
    simp [execOp, ho, hv, hiv, Instr.index, asIntOf, run_underlying (T_und hT ht), T_size hT hn, hc2, h1]
theorem cOs_spec : ∀ {l : List Operand} {l' : List XO}, cOs l = some l' → l'.length = l.length ∧ ∀ (m : MM) (ev : XO → TV) (a : Act), (∀ y xo, cO y = some xo → xo ∈ l' → TR m (ev xo) (a.eval y)) → All2 (TR m) (l'.map ev) (l.map a.eval)
  | [], l', h => by simp [cOs] at h; subst h; exact ⟨rfl, fun _ _ _ _ => trivial⟩
  | x :: l, l', h => by
    simp only [cOs, Option.bind_eq_some_iff, Option.map_eq_some_iff] at h
    obtain ⟨y, h1, r, h2, rfl⟩ := h
    obtain ⟨h3, h4⟩ := cOs_spec h2
    exact ⟨by simp [h3], fun m ev a hE => ⟨hE x y h1 (by simp), h4 m ev a fun q xo e hm => hE q xo e (by simp [hm])⟩⟩
theorem allIds_spec {m : MM} : ∀ {l : List TV} {ids : List Nat} {vs : List Value}, allIds l = some ids → All2 (TR m) l vs → All2 (fun id x => ∃ mb b, m id = some mb ∧ mb.b = some b ∧ x = Value.pointer (some ⟨b, mb.base + (0 + 0), none⟩)) ids vs
  | [], ids, [], h, _ => by simp [allIds] at h; subst h; trivial
  | [], _, _ :: _, _, h => h.elim
  | tv :: l, ids, vs, h, hv => by
    unfold allIds at h
    split at h
    · rename_i e; cases e
    · rename_i id rest e
      cases e
      cases hr : allIds l with
      | none => simp [hr] at h
      | some r =>
        simp [hr] at h
        subst h
        cases vs with
        | nil => exact hv.elim
        | cons v vs => exact ⟨hv.1, allIds_spec hr hv.2⟩
    · cases h
theorem snd_mkf {o : Oper} {f : FuncId} {first caps : Array Operand} {l : List XO} (ho : o.op = .makeFunc (.func f) first caps) (hf : first.size = 0) (hl : cOs caps.toList = some l) : Snd P cmp r Γ o (.mkf f l) := by
  refine snd_pure (by simp [ho]) fun ctx m hp w a ev base e hE hH hx hvc => ?_
  simp only [xi] at hx
  cases hi : allIds (l.map ev) with
  | none => simp [hi] at hx
  | some ids =>
    simp only [hi, Option.bind_some, pureE, Option.some.injEq] at hx
    subst hx
    obtain ⟨_, h2⟩ := cOs_spec hl
    have h3 := allIds_spec hi (h2 m ev a fun y xo e hm => hE y xo e (by simpa [need, XI.opnds] using hm))
    have hf0 : first = #[] := Array.eq_empty_of_size_eq_zero hf
    subst hf0
    refine ⟨rfl, rfl, .func (.func f) #[] (caps.map a.eval), by simp [execOp, ho, Instr.makeFunc], _, ?_, h3⟩
    rw [← Array.toList_map]
theorem snd_len (hT : TOK P T) {o : Oper} {c : Call} {y : Operand} {y' : XO} {t e' : TypeId} {s b : Nat} {z : Option AV} (ho : o.op = .call c) (hcal : c.callee = .builtin .len) (hargs : c.args = #[y]) (hat : c.argTypes = #[t]) (ht : T t = some ⟨.slice e', s, b, z⟩)
    (hc : cO y = some y') : Snd P cmp r Γ o (.len y') := by
  refine snd_pure (by simp [ho]) fun ctx m hp w a ev base e hE hH hx hvc => ?_
  have hv := hE y y' hc (by simp [need, XI.opnds])
  have hex : ∀ {v' : Value}, (Builtin.len_ #[t] o.type #[a.eval y]).run P w = .ok v' w → (execOp a.eval o).run P w = .ok (.value v') w := fun hr => by
    simp [execOp, ho, resolve, hcal, invoke, builtin, hargs, hat, hr]
  have hu := T_und hT ht
  simp only [xi] at hx
  split at hx
  · rename_i h1
    rw [h1] at hv
    simp only [pureE, Option.some.injEq] at hx
    subst hx
    refine ⟨rfl, rfl, _, hex ?_, rfl⟩
    obtain ⟨mb, _, _, ⟨_, h, _, h4, _⟩ | ⟨b, o', _, h, _⟩⟩ := hv
    · simp [Builtin.len_, run_underlying hu, h, goInt, h4]
    · simp [Builtin.len_, run_underlying hu, h, goInt]
  · rename_i h1
    rw [h1] at hv
    simp only [pureE, Option.some.injEq] at hx
    subst hx
    obtain ⟨mb, b, cc, _, _, h⟩ := hv
    exact ⟨rfl, rfl, _, hex (by simp [Builtin.len_, run_underlying hu, h, goInt]), rfl⟩
  · rename_i h1
    rw [h1] at hv
    simp only [pureE, Option.some.injEq] at hx
    subst hx
    have h : a.eval y = .slice none 0 0 := hv
    exact ⟨rfl, rfl, _, hex (by simp [Builtin.len_, run_underlying hu, h, goInt]), rfl⟩
  · cases hx
theorem snd_lenM (hT : TOK P T) {o : Oper} {c : Call} {y : Operand} {y' : XO} {t k' e' : TypeId} {s b : Nat} {z : Option AV} (ho : o.op = .call c) (hcal : c.callee = .builtin .len) (hargs : c.args = #[y]) (hat : c.argTypes = #[t]) (ht : T t = some ⟨.map k' e', s, b, z⟩)
    (hc : cO y = some y') : Snd P cmp r Γ o (.lenM y') := by
  refine snd_pure (by simp [ho]) fun ctx m hp w a ev base e hE hH hx hvc => ?_
  have hv := hE y y' hc (by simp [need, XI.opnds])
  have hex : ∀ {v' : Value}, (Builtin.len_ #[t] o.type #[a.eval y]).run P w = .ok v' w → (execOp a.eval o).run P w = .ok (.value v') w := fun hr => by
    simp [execOp, ho, resolve, hcal, invoke, builtin, hargs, hat, hr]
  have hu := T_und hT ht
  simp only [xi] at hx
  split at hx
  · rename_i h1
    rw [h1] at hv
    simp only [pureE, Option.some.injEq] at hx
    subst hx
    have h : a.eval y = .map none := hv
    exact ⟨rfl, rfl, _, hex (by simp [Builtin.len_, run_underlying hu, h, goInt]), rfl⟩
  · rename_i id h1
    rw [h1] at hv
    split at hx
    case h_2 => cases hx
    rename_i ro kk vk ents hho
    simp only [Option.some.injEq] at hx
    subst hx
    obtain ⟨mb, b, g1, g2, h⟩ := hv
    obtain ⟨mb', g1', hor, _⟩ := hH.obj id _ hho
    rw [g1] at g1'
    cases g1'
    obtain ⟨b', es, clock, k1, k2, k3⟩ := hor
    rw [g2] at k1
    cases k1
    have hl := k3.length
    refine ⟨rfl, rfl, .int .i64 ents.length, hex ?_, rfl⟩
    have hg : (getObj b).run P w = .ok (.map es clock) w := by simp [getObj, Sem.run, k2]
    simp only [Array.length_toList] at hl
    simp [Builtin.len_, run_underlying hu, h, goInt, hg, hl]
  · cases hx
theorem allInts_spec {m : MM} : ∀ {l : List TV} {k : IntKind} {q : List Int} {vs : List Value}, allInts l = some (k, q) → All2 (TR m) l vs → vs = q.map (Value.int k)
  | [], k, q, vs, h, _ => by simp [allInts] at h
  | [tv], k, q, vs, h, hv => by
    match vs, hv with
    | [v], hv =>
      unfold allInts at h
      split at h
      · rename_i e
        cases e
        cases h
        have : v = .int k _ := hv.1
        rw [this]; rfl
      · rename_i h1 e
        cases e
        simp [allInts] at h
      · cases h
  | tv :: tv' :: l, k, q, vs, h, hv => by
    match vs, hv with
    | v :: vs, hv =>
      unfold allInts at h
      split at h
      · rename_i e; cases e
      · rename_i k' a rest h1 e
        cases e
        cases hr : allInts (tv' :: l) with
        | none => simp [hr] at h
        | some kq =>
          obtain ⟨k2, q2⟩ := kq
          simp only [hr, Option.bind_some] at h
          split at h
          case isFalse => cases h
          rename_i hk
          subst hk
          cases h
          have e1 : v = .int _ a := hv.1
          rw [e1, allInts_spec hr hv.2]
          rfl
      · cases h
theorem run_min_fold (k : IntKind) (w : World) : ∀ (q : List Int) (a : Int), ((q.map (Value.int k)).foldlM Builtin.min2 (.int k a)).run P w = .ok (.int k (q.foldl min a)) w
  | [], a => by simp
  | b :: q, a => by
    have e : (if b < a then b else a) = min a b := by omega
    simp [List.foldlM_cons, Builtin.min2, run_min_fold k w q, e]
theorem run_max_fold (k : IntKind) (w : World) : ∀ (q : List Int) (a : Int), ((q.map (Value.int k)).foldlM Builtin.max2 (.int k a)).run P w = .ok (.int k (q.foldl max a)) w
  | [], a => by simp
  | b :: q, a => by
    have e : (if a < b then b else a) = max a b := by omega
    simp [List.foldlM_cons, Builtin.max2, run_max_fold k w q, e]
theorem snd_mn {o : Oper} {c : Call} {l : List XO} (ho : o.op = .call c) (hcal : c.callee = .builtin .min) (hl : cOs c.args.toList = some l) : Snd P cmp r Γ o (.mn l) := by
  refine snd_pure (by simp [ho]) fun ctx m hp w a ev base e hE hH hx hvc => ?_
  simp only [xi] at hx
  split at hx
  case h_2 => cases hx
  rename_i k x q hi
  simp only [pureE, Option.some.injEq] at hx
  subst hx
  obtain ⟨_, h2⟩ := cOs_spec hl
  have h3 := allInts_spec hi (h2 m ev a fun y xo e hm => hE y xo e (by simpa [need, XI.opnds] using hm))
  refine ⟨rfl, rfl, .int k (q.foldl min x), ?_, rfl⟩
  have hm : (Builtin.min_ c.argTypes o.type (c.args.map a.eval)).run P w = .ok (.int k (q.foldl min x)) w := by
    unfold Builtin.min_
    rw [Array.toList_map, h3]
    simp only [List.map_cons]
    exact run_min_fold k w q x
  simp [execOp, ho, resolve, hcal, invoke, builtin, hm]
theorem snd_mx {o : Oper} {c : Call} {l : List XO} (ho : o.op = .call c) (hcal : c.callee = .builtin .max) (hl : cOs c.args.toList = some l) : Snd P cmp r Γ o (.mx l) := by
  refine snd_pure (by simp [ho]) fun ctx m hp w a ev base e hE hH hx hvc => ?_
  simp only [xi] at hx
  split at hx
  case h_2 => cases hx
  rename_i k x q hi
  simp only [pureE, Option.some.injEq] at hx
  subst hx
  obtain ⟨_, h2⟩ := cOs_spec hl
  have h3 := allInts_spec hi (h2 m ev a fun y xo e hm => hE y xo e (by simpa [need, XI.opnds] using hm))
  refine ⟨rfl, rfl, .int k (q.foldl max x), ?_, rfl⟩
  have hm : (Builtin.max_ c.argTypes o.type (c.args.map a.eval)).run P w = .ok (.int k (q.foldl max x)) w := by
    unfold Builtin.max_
    rw [Array.toList_map, h3]
    simp only [List.map_cons]
    exact run_max_fold k w q x
  simp [execOp, ho, resolve, hcal, invoke, builtin, hm]
/-- make of a slice: the cells' zero is one cell -/
theorem run_mk (hT : TOK P T) {t e : TypeId} {s b : Nat} {z : Option AV} {ti : TI} {zv : Value} {i : TypeInfo} (ht : T t = some ⟨.slice e, s, b, z⟩) (he : T e = some ti) (hi : P.info? e = some i) (hs : ti.size = 1) (hb : ti.bytes ≤ 1000) (hz : i.zero = some zv) (hzc : zv.cells = #[zv])
    (n : Nat) (hn : n ≤ 1000000000) (k k' : IntKind) (w : World) : (Instr.makeSlice t (.int k n) (.int k' n)).run P w = .ok (.slice (some ⟨w.heap.size, 0, none⟩) n n) (w.alloc (.cells (List.replicate n zv).toArray e)) := by
  obtain ⟨i', h1, h2, h3, _⟩ := hT.info e ti he
  rw [hi] at h1
  cases h1
  have hbn : ti.bytes * n ≤ 1000 * 1000000000 := Nat.mul_le_mul hb hn
  have hbn' : ((i.bytes : Int) * (n : Int)) ≤ 1000 * 1000000000 := by
    rw [h3, ← Int.natCast_mul]
    omega
  have hr := run_make (P := P) w t e i zv (T_und hT ht) hi hz k k' n n (by omega) (by omega) (by omega) (by omega)
  rw [hr]
  have hrow : madeCells zv.cells (n * i.size) = (List.replicate n zv).toArray := by
    unfold madeCells
    rw [h2, hs, Nat.mul_one]
    exact zrow n (by rw [hzc]; exact Nat.one_pos) (fun j hj => by
      rw [hzc] at hj ⊢
      have hj0 : j = 0 := by
        have : j < 1 := hj
        omega
      subst hj0
      rfl)
  simp only [Int.toNat_natCast, hrow]
theorem sameO_eval {l c : Operand} (h : sameO l c = true) {a : Act} {k : IntKind} {n : Int} (hv : a.eval l = .int k n) : ∃ k', a.eval c = .int k' n := by
  unfold sameO at h
  split at h
  · have := eq_of_beq h
    subst this
    exact ⟨k, hv⟩
  · have := eq_of_beq h
    subst this
    have hv' : Value.int _ _ = Value.int k n := hv
    cases hv'
    exact ⟨_, rfl⟩
  · cases h
theorem snd_mkS (hT : TOK P T) {o : Oper} {t e' : TypeId} {l c : Operand} {x : XO} {s b : Nat} {z : Option AV} {k : IntKind} (ho : o.op = .makeSlice t l c) (hsame : sameO l c = true) (hc : cO l = some x) (ht : T t = some ⟨.slice e', s, b, z⟩)
    (he : T e' = some ⟨.int k, 1, 8, some (.s (.int k 0))⟩) : Snd P cmp r Γ o (.mkS e' k x) := by
  intro ctx m hp w a ev base e K Q hE hH hfr hup hx hvc hK
  have hv := hE l x hc (by simp [need, XI.opnds])
  simp only [xi] at hx
  split at hx
  case h_2 => cases hx
  rename_i kk aa hb
  rw [hb, TR_int] at hv
  simp only [Option.some.injEq] at hx
  subst hx
  simp only [Bool.and_eq_true, decide_eq_true_eq, bndL] at hvc
  obtain ⟨n, rfl⟩ := Int.eq_ofNat_of_zero_le hvc.1
  obtain ⟨k', hv'⟩ := sameO_eval hsame hv
  obtain ⟨i, h1, _, _, h4⟩ := hT.info e' _ he
  obtain ⟨zv, h5, h6⟩ := h4 _ rfl
  have hzv : zv = .int k 0 := h6 (fun _ => none)
  subst hzv
  have hm := hH.dom base (by simpa using hfr 0 (by simp))
  have hr := run_mk hT ht he h1 rfl (by simp) h5 rfl n (by simpa using hvc.2) kk k' w
  simp only [Int.ofNat_eq_natCast, Int.toNat_natCast] at hK hvc ⊢
  refine wpI (by simp [ho]) (v := .slice (some ⟨w.heap.size, 0, none⟩) n n) (w' := w.alloc (.cells (List.replicate n (.int k 0)).toArray e')) (by simp [execOp, ho, hv, hv', hr]) (hK _ _ (m.put base ⟨some w.heap.size, 0, n⟩) ?_ ?_)
  · exact ⟨_, m.put_same _ _, by simp, .inr ⟨_, 0, rfl, rfl, .inr (by simp)⟩⟩
  · refine Stp.new1 hm rfl rfl rfl rfl rfl (.inr ⟨_, _, rfl, rfl, heap_alloc_new w _, by simp, ?_, fun j hj => ?_⟩)
    · show n ≤ maxLen
      unfold maxLen
      omega
    · simp only [List.length_replicate] at hj
      simp [hj, List.getD]
theorem snd_mkSB (hT : TOK P T) {o : Oper} {t e' : TypeId} {l c : Operand} {x : XO} {s b : Nat} {z : Option AV} (ho : o.op = .makeSlice t l c) (hsame : sameO l c = true) (hc : cO l = some x) (ht : T t = some ⟨.slice e', s, b, z⟩)
    (he : T e' = some ⟨.bool, 1, 1, some (.s (.bool false))⟩) : Snd P cmp r Γ o (.mkSB e' x) := by
  intro ctx m hp w a ev base e K Q hE hH hfr hup hx hvc hK
  have hv := hE l x hc (by simp [need, XI.opnds])
  simp only [xi] at hx
  split at hx
  case h_2 => cases hx
  rename_i kk aa hb
  rw [hb, TR_int] at hv
  simp only [Option.some.injEq] at hx
  subst hx
  simp only [Bool.and_eq_true, decide_eq_true_eq, bndL] at hvc
  obtain ⟨n, rfl⟩ := Int.eq_ofNat_of_zero_le hvc.1
  obtain ⟨k', hv'⟩ := sameO_eval hsame hv
  obtain ⟨i, h1, _, _, h4⟩ := hT.info e' _ he
  obtain ⟨zv, h5, h6⟩ := h4 _ rfl
  have hzv : zv = .bool false := h6 (fun _ => none)
  subst hzv
  have hm := hH.dom base (by simpa using hfr 0 (by simp))
  have hr := run_mk hT ht he h1 rfl (by simp) h5 rfl n (by simpa using hvc.2) kk k' w
  simp only [Int.ofNat_eq_natCast, Int.toNat_natCast] at hK hvc ⊢
  refine wpI (by simp [ho]) (v := .slice (some ⟨w.heap.size, 0, none⟩) n n) (w' := w.alloc (.cells (List.replicate n (.bool false)).toArray e')) (by simp [execOp, ho, hv, hv', hr]) (hK _ _ (m.put base ⟨some w.heap.size, 0, n⟩) ?_ ?_)
  · exact ⟨_, m.put_same _ _, by simp, .inr ⟨_, 0, rfl, rfl, .inr (by simp)⟩⟩
  · refine Stp.new1 hm rfl rfl rfl rfl rfl ⟨_, _, rfl, rfl, heap_alloc_new w _, [], trivial, by simp, ?_⟩
    apply List.ext_getElem?
    intro j
    by_cases hj : j < n
    · rw [List.nil_append, bcells_get _ _ _ hj]; simp [hj, ff]
    · rw [List.getElem?_eq_none (by simp; omega), List.getElem?_eq_none (by simp [bcells_length]; omega)]
end
end Go.Proofs.Yteekkjfjpoaihaa.Eng
namespace Go.Proofs.Yteekkjfjpoaihaa.Eng
open Go
section
variable {P : Program} {T : Tab} {cmp : Cmp} {r : Option Nat} {Γ : Cal → Option Spec}
def keyK : CK → Bool
  | .ints _ => true
  | .bools _ => true
  | _ => false
/-- a key as EQOK has it -/
theorem key_form {kt : TypeId} {kk : CK} (h : keyOk kt kk = true) : ∃ p n, alGet eqTab kt = some (p, n) ∧
    ∀ c, cvOk kk c = true → ∃ (a : List Int) (f : Nat → Bool), a.length = p ∧ valC kk c = .agg (a.map (Value.int .i64) ++ bcells n f).toArray ∧
      ∀ c', cvOk kk c' = true → ∃ (b : List Int) (g : Nat → Bool), b.length = p ∧ valC kk c' = .agg (b.map (Value.int .i64) ++ bcells n g).toArray ∧ (a == b && eqB n f g) = eqC kk c c' := by
  cases kk with
  | ints n =>
    refine ⟨n, 0, by simpa [keyOk] using h, fun c hc => ?_⟩
    cases c with
    | is l =>
      refine ⟨l, ff, by simpa [cvOk] using hc, by simp [valC, bcells], fun c' hc' => ?_⟩
      cases c' with
      | is l' => exact ⟨l', ff, by simpa [cvOk] using hc', by simp [valC, bcells], by simp [eqB, eqC]⟩
      | bl => simp [cvOk] at hc'
      | bf => simp [cvOk] at hc'
    | bl => simp [cvOk] at hc
    | bf => simp [cvOk] at hc
  | bools n =>
    refine ⟨0, n, by simpa [keyOk] using h, fun c hc => ?_⟩
    cases c with
    | bf f =>
      refine ⟨[], f, rfl, by simp [valC], fun c' hc' => ?_⟩
      cases c' with
      | bf g => exact ⟨[], g, rfl, by simp [valC], by simp [eqC]⟩
      | bl => simp [cvOk] at hc'
      | is => simp [cvOk] at hc'
    | bl => simp [cvOk] at hc
    | is => simp [cvOk] at hc
  | int1 => simp [keyOk] at h
  | bool1 => simp [keyOk] at h
theorem run_eqC (hQ : EQOK P) {kt : TypeId} {kk : CK} (h : keyOk kt kk = true) {c c' : CV} (hc : cvOk kk c = true) (hc' : cvOk kk c' = true) (w : World) : (Op.equal kt (valC kk c) (valC kk c')).run P w = .ok (eqC kk c c') w := by
  obtain ⟨p, n, h1, h2⟩ := key_form h
  obtain ⟨a, f, h3, h4, h5⟩ := h2 c hc
  obtain ⟨b, g, h6, h7, h8⟩ := h5 c' hc'
  rw [h4, h7, hQ.eq kt p n h1 a b f g w h3 h6, h8]
theorem run_checkKey (hQ : EQOK P) {kt : TypeId} {kk : CK} (h : keyOk kt kk = true) {c : CV} (hc : cvOk kk c = true) (e : Bool) (w : World) : (Instr.checkKey e 10000 kt (valC kk c)).run P w = .ok () w := by
  obtain ⟨p, n, h1, h2⟩ := key_form h
  obtain ⟨a, f, h3, h4, _⟩ := h2 c hc
  rw [h4, hQ.key kt p n h1 e a f w h3]
def findI (kk : CK) (c : CV) : List (CV × CV) → Option Nat
  | [] => none
  | (a, _) :: r => bif eqC kk c a then some 0 else (findI kk c r).map (· + 1)
theorem findI_findC (kk : CK) (c : CV) : ∀ (l : List (CV × CV)), (findI kk c l = none ∧ findC kk c l = none ∧ ∀ d, updC kk c d l = l ++ [(c, d)]) ∨
    ∃ j a v, findI kk c l = some j ∧ l[j]? = some (a, v) ∧ eqC kk c a = true ∧ findC kk c l = some v ∧ ∀ d, updC kk c d l = l.set j (c, d)
  | [] => .inl ⟨rfl, rfl, fun _ => rfl⟩
  | (a, v) :: r => by
    cases he : eqC kk c a with
    | true => exact .inr ⟨0, a, v, by simp [findI, he], rfl, he, by simp [findC, he], fun d => by simp [updC, he]⟩
    | false =>
      rcases findI_findC kk c r with ⟨h1, h2, h3⟩ | ⟨j, a', v', h1, h2, h3, h4, h5⟩
      · exact .inl ⟨by simp [findI, he, h1], by simp [findC, he, h2], fun d => by simp [updC, he, h3]⟩
      · exact .inr ⟨j + 1, a', v', by simp [findI, he, h1], by simpa using h2, h3, by simp [findC, he, h4], fun d => by simp [updC, he, h5]⟩
abbrev EntR (kk vk : CK) : CV × CV → MapEntry → Prop := fun e x => cvOk kk e.1 = true ∧ cvOk vk e.2 = true ∧ x.key = valC kk e.1 ∧ x.val = valC vk e.2
theorem run_findAsking (hQ : EQOK P) {kt : TypeId} {kk vk : CK} (h : keyOk kt kk = true) {c : CV} (hc : cvOk kk c = true) (w : World) : ∀ (ents : List (CV × CV)) (es : List MapEntry) (i : Nat), All2 (EntR kk vk) ents es →
    (Instr.findAsking kt (valC kk c) es i).run P w = .ok ((findI kk c ents).bind fun j => (ents[j]?).map fun e => (i + j, valC vk e.2)) w
  | [], [], i, _ => by simp [Instr.findAsking, findI]
  | [], _ :: _, _, h => h.elim
  | _ :: _, [], _, h => h.elim
  | (a, v) :: ents, e :: es, i, ⟨⟨h1, h2, h3, h4⟩, hr⟩ => by
    have he := run_eqC hQ h hc h1 w
    have ih := run_findAsking hQ h hc w ents es (i + 1) hr
    simp only [Instr.findAsking, Sem.run_bind, h3, he, Result.andThen_ok]
    cases hb : eqC kk c a with
    | true => simp [findI, hb, h4]
    | false =>
      simp only [Bool.false_eq_true, if_false, ih, findI, hb, cond_false]
      cases findI kk c ents with
      | none => simp
      | some j => simp [Nat.add_assoc, Nat.add_comm 1 j]
theorem findNow_agg (d : TypeDesc) (hd : isAggD d = true) (k : Value) (e : MapEntry) (es : List MapEntry) (i : Nat) : Instr.findNow d k (e :: es) i = none := by
  have : Instr.sameNow d k e.key = none := by cases d <;> simp [isAggD] at hd <;> rfl
  simp [Instr.findNow, this]
theorem run_findKey (hQ : EQOK P) {kt : TypeId} {kk vk : CK} (h : keyOk kt kk = true) {c : CV} (hc : cvOk kk c = true) (w : World) (ents : List (CV × CV)) (es : List MapEntry) (hr : All2 (EntR kk vk) ents es) :
    (Instr.findKey kt (valC kk c) es).run P w = .ok ((findI kk c ents).bind fun j => (ents[j]?).map fun e => (j, valC vk e.2)) w := by
  obtain ⟨p, n, h1, _⟩ := key_form h
  obtain ⟨d, h2, h3⟩ := hQ.und kt p n h1
  unfold Instr.findKey
  simp only [Sem.run_bind, run_underlying h2, Result.andThen_ok]
  cases es with
  | nil =>
    cases ents with
    | nil => simp [Instr.findNow, findI]
    | cons _ _ => exact hr.elim
  | cons e es =>
    rw [findNow_agg d h3]
    have := run_findAsking hQ h hc w ents (e :: es) 0 hr
    simpa using this
theorem cvOf_snd {m : MM} {kk : CK} {kv : AV} {c : CV} {val : Value} (h : cvOf kk kv = some c) (hv : AR m kv val) : cvOk kk c = true ∧ val = valC kk c := by
  unfold cvOf at h
  split at h
  · split at h
    · split at h
      case isFalse => cases h
      rename_i hk
      subst hk
      cases h
      have : val = .int .i64 _ := hv
      exact ⟨rfl, by rw [this]; rfl⟩
    · cases h
  · split at h
    · cases h
      have : val = .bool _ := hv
      exact ⟨rfl, this⟩
    · cases h
  · split at h
    · split at h
      case isFalse => cases h
      rename_i hcond
      obtain ⟨rfl, rfl⟩ := hcond
      rename_i pre f _
      cases hq : intsOf .i64 pre with
      | none => simp [hq] at h
      | some l =>
        simp [hq] at h
        subst h
        obtain ⟨cs, rfl, hp⟩ := hv
        have := hp.ints hq
        obtain ⟨h1, _⟩ := intsOf_get hq
        exact ⟨by simp [cvOk, h1], by simp [valC, this]⟩
    · split at h
      case isFalse => cases h
      rename_i hcond
      obtain ⟨hl, rfl⟩ := hcond
      cases h
      obtain ⟨cs, rfl, hp⟩ := hv
      have hpe := List.eq_nil_of_length_eq_zero hl
      subst hpe
      exact ⟨rfl, by simp [valC, hp.none]⟩
    · cases h
  · cases h
theorem avOf_some {vk : CK} {d : CV} (h : cvOk vk d = true) (m : MM) : AR m (avOf vk (some d)) (valC vk d) := by
  cases vk with
  | int1 =>
    cases d with
    | is l =>
      cases l with
      | nil => simp [cvOk] at h
      | cons a l => rfl
    | bl => simp [cvOk] at h
    | bf => simp [cvOk] at h
  | bool1 =>
    cases d with
    | bl b => rfl
    | is => simp [cvOk] at h
    | bf => simp [cvOk] at h
  | ints n =>
    cases d with
    | is l =>
      have hl : l.length = n := by simpa [cvOk] using h
      refine ⟨l.map (Value.int .i64), rfl, ?_⟩
      exact intsPR (by simpa using hl) (fun j hj => by simp [List.getD, (by omega : j < l.length)])
    | bl => simp [cvOk] at h
    | bf => simp [cvOk] at h
  | bools n =>
    cases d with
    | bf f => exact ⟨bcells n f, rfl, [], trivial, by simp, by simp⟩
    | bl => simp [cvOk] at h
    | is => simp [cvOk] at h
theorem ckT_zero (hT : TOK P T) {e : TypeId} {vk : CK} (h : ckT T e = some vk) : ∃ zv, (∀ w, (zeroValue e).run P w = .ok zv w) ∧ ∀ m, AR m (avOf vk none) zv := by
  unfold ckT at h
  split at h
  · rename_i a hz
    split at h
    case isFalse => cases h
    rename_i ha
    subst ha
    cases h
    obtain ⟨zv, h1, h2⟩ := T_zero hT hz
    exact ⟨zv, h1, h2⟩
  · rename_i b hz
    split at h
    case isFalse => cases h
    rename_i hb
    subst hb
    cases h
    obtain ⟨zv, h1, h2⟩ := T_zero hT hz
    exact ⟨zv, h1, h2⟩
  · rename_i n f hz
    split at h
    case isFalse => cases h
    rename_i hzf
    cases h
    obtain ⟨zv, h1, h2⟩ := T_zero hT hz
    refine ⟨zv, h1, fun m => ?_⟩
    obtain ⟨cs, rfl, hp⟩ := h2 m
    refine ⟨cs, rfl, ?_⟩
    have hff := zFalse_spec hzf
    refine ⟨[], trivial, by simp, ?_⟩
    rw [hp.none, List.nil_append]
    apply List.ext_getElem?
    intro j
    by_cases hj : j < n
    · rw [bcells_get _ _ _ hj, bcells_get _ _ _ hj, hff j hj]; rfl
    · rw [List.getElem?_eq_none (by rw [bcells_length]; omega), List.getElem?_eq_none (by rw [bcells_length]; omega)]
  · rename_i a rr f hz
    cases hq : intsOf .i64 (.int .i64 a :: rr) with
    | none => simp [hq] at h
    | some l =>
      simp only [hq, Option.bind_some] at h
      split at h
      case isFalse => cases h
      rename_i hall
      cases h
      obtain ⟨zv, h1, h2⟩ := T_zero hT hz
      refine ⟨zv, h1, fun m => ?_⟩
      obtain ⟨cs, rfl, hp⟩ := h2 m
      refine ⟨cs, rfl, ?_⟩
      have hcs := hp.ints hq
      refine intsPR (g := fun _ => 0) (by simp [hcs]) (fun j hj => ?_)
      have h0 : l[j] = 0 := by
        have := List.all_eq_true.1 hall l[j] (List.getElem_mem hj)
        simpa using this
      simp [hcs, hj, h0]
  · cases h
theorem snd_lkup (hT : TOK P T) (hQ : EQOK P) {o : Oper} {t kt e' : TypeId} {y z : Operand} {y' z' : XO} {ok : Bool} {kk vk : CK} {s b : Nat} {zz : Option AV} (ho : o.op = .lookup t y z ok) (ht : T t = some ⟨.map kt e', s, b, zz⟩) (hk : keyOk kt kk = true) (hvk : ckT T e' = some vk)
    (hc : cO y = some y') (hz : cO z = some z') : Snd P cmp r Γ o (.lkup kk vk ok y' z') := by
  refine snd_pure (by simp [ho]) fun ctx m hp w a ev base e hE hH hx hvc => ?_
  have hv := hE y y' hc (by simp [need, XI.opnds])
  have hzv := hE z z' hz (by simp [need, XI.opnds])
  have hu := T_und hT ht
  obtain ⟨zv, hz1, hz2⟩ := ckT_zero hT hvk
  simp only [xi] at hx
  split at hx
  · rename_i kv h1 h2
    rw [h1] at hv
    rw [h2] at hzv
    have hv' : a.eval y = .map none := hv
    cases hcv : cvOf kk kv with
    | none => simp [hcv] at hx
    | some c =>
      simp only [hcv, Option.bind_some, pureE, Option.some.injEq] at hx
      subst hx
      obtain ⟨hok, hval⟩ := cvOf_snd hcv hzv
      have hck := run_checkKey hQ hk hok true w
      have hfk := run_findKey hQ (vk := vk) hk hok w [] [] trivial
      simp only [findI, Option.bind_none] at hfk
      cases ok with
      | true =>
        refine ⟨rfl, rfl, .tuple #[zv, .bool false], ?_, [zv, .bool false], rfl, hz2 m, rfl, trivial⟩
        simp [execOp, ho, Instr.lookup, run_underlying hu, hv', hval, hck, hfk, hz1]
      | false =>
        refine ⟨rfl, rfl, zv, ?_, hz2 m⟩
        simp [execOp, ho, Instr.lookup, run_underlying hu, hv', hval, hck, hfk, hz1]
  · rename_i id kv h1 h2
    rw [h1] at hv
    rw [h2] at hzv
    split at hx
    case h_2 => cases hx
    rename_i ro kk' vk' ents hho
    split at hx
    case isFalse => cases hx
    rename_i hcond
    obtain ⟨rfl, rfl⟩ := hcond
    cases hcv : cvOf kk kv with
    | none => simp [hcv] at hx
    | some c =>
      simp only [hcv, Option.map_some, Option.some.injEq] at hx
      subst hx
      obtain ⟨hok, hval⟩ := cvOf_snd hcv hzv
      obtain ⟨mb, bb, g1, g2, hv'⟩ := hv
      obtain ⟨mb', g1', hor, _⟩ := hH.obj id _ hho
      rw [g1] at g1'
      cases g1'
      obtain ⟨b', es, clock, k1, k2, k3⟩ := hor
      rw [g2] at k1
      cases k1
      have hg : (getObj bb).run P w = .ok (.map es clock) w := by simp [getObj, Sem.run, k2]
      have hck := run_checkKey hQ hk hok es.isEmpty w
      have hfk := run_findKey hQ hk hok w ents es.toList k3
      rcases findI_findC kk c ents with ⟨f1, f2, _⟩ | ⟨j, a', v', f1, f2, f3, f4, _⟩
      · simp only [f1, Option.bind_none] at hfk
        rw [f2]
        cases ok with
        | true =>
          refine ⟨rfl, rfl, .tuple #[zv, .bool false], ?_, [zv, .bool false], rfl, hz2 m, rfl, trivial⟩
          simp [execOp, ho, Instr.lookup, run_underlying hu, hv', hg, hval, hck, hfk, hz1]
        | false =>
          refine ⟨rfl, rfl, zv, ?_, hz2 m⟩
          simp [execOp, ho, Instr.lookup, run_underlying hu, hv', hg, hval, hck, hfk, hz1]
      · simp only [f1, Option.bind_some, f2, Option.map_some] at hfk
        rw [f4]
        obtain ⟨en, q1, q2⟩ := k3.get f2
        cases ok with
        | true =>
          refine ⟨rfl, rfl, .tuple #[valC vk v', .bool true], ?_, [valC vk v', .bool true], rfl, avOf_some q2.2.1 m, rfl, trivial⟩
          simp [execOp, ho, Instr.lookup, run_underlying hu, hv', hg, hval, hck, hfk]
        | false =>
          refine ⟨rfl, rfl, valC vk v', ?_, avOf_some q2.2.1 m⟩
          simp [execOp, ho, Instr.lookup, run_underlying hu, hv', hg, hval, hck, hfk]
  · cases hx
theorem eqB_cells : ∀ {n : Nat} {f g : Nat → Bool}, eqB n f g = true → bcells n f = bcells n g
  | 0, _, _, _ => rfl
  | n + 1, f, g, h => by
    simp only [eqB, Bool.and_eq_true, beq_iff_eq] at h
    have ih := eqB_cells h.1
    unfold bcells at *
    rw [List.range_succ, List.map_append, List.map_append, ih]
    simp [h.2]
theorem eqC_val {kk : CK} (hk : keyK kk = true) {c c' : CV} (h : eqC kk c c' = true) : valC kk c = valC kk c' := by
  cases c <;> cases c' <;> simp [eqC] at h
  · subst h; rfl
  · subst h; rfl
  · cases kk with
    | bools n => simp at h; simp [valC, eqB_cells h]
    | ints n => simp at h
    | int1 => simp at h
    | bool1 => simp at h
theorem sameBits_cells (d : Nat) (l : List Value) (h : ∀ v ∈ l, (∃ n, v = .int .i64 n) ∨ ∃ b, v = .bool b) : Instr.sameBits (d + 2) (.agg l.toArray) (.agg l.toArray) = true := by
  simp only [Instr.sameBits, List.size_toArray, beq_self_eq_true, Bool.true_and]
  rw [List.all_eq_true]
  intro x hx
  have : x.1 = x.2 ∧ x.1 ∈ l := by
    clear h
    induction l with
    | nil => simp at hx
    | cons v l ih =>
      simp at hx
      rcases hx with rfl | hx
      · simp
      · have := ih (by simpa using hx)
        exact ⟨this.1, by simp [this.2]⟩
  rw [← this.1]
  rcases h x.1 this.2 with ⟨n, e⟩ | ⟨b, e⟩ <;> rw [e] <;> simp [Instr.sameBits]
theorem run_keyStays {kk : CK} (hk : keyK kk = true) {c : CV} (hc : cvOk kk c = true) (w : World) : (Instr.keyThatStays (valC kk c) (valC kk c)).run P w = .ok (valC kk c) w := by
  have : Instr.sameBits 10000 (valC kk c) (valC kk c) = true := by
    cases kk <;> cases c <;> simp [cvOk, keyK] at hc hk
    · exact sameBits_cells 9998 _ (fun v hv => by simp at hv; obtain ⟨x, _, rfl⟩ := hv; exact .inl ⟨x, rfl⟩)
    · exact sameBits_cells 9998 _ (fun v hv => by simp [bcells] at hv; obtain ⟨x, _, rfl⟩ := hv; exact .inr ⟨_, rfl⟩)
  unfold Instr.keyThatStays
  rw [if_pos this]
  rfl
theorem keyK_of {kt : TypeId} {kk : CK} (h : keyOk kt kk = true) : keyK kk = true := by cases kk <;> first | rfl | simp [keyOk] at h
theorem snd_mupd (hT : TOK P T) (hQ : EQOK P) {o : Oper} {t kt e' : TypeId} {x y z : Operand} {x' y' z' : XO} {kk vk : CK} {s b : Nat} {zz : Option AV} (ho : o.op = .mapUpdate t x y z ∨ o.op = .insert t x y z) (ht : T t = some ⟨.map kt e', s, b, zz⟩) (hk : keyOk kt kk = true)
    (hx' : cO x = some x') (hc : cO y = some y') (hz : cO z = some z') : Snd P cmp r Γ o (.mupd kk vk x' y' z') := by
  intro ctx m hp w a ev base e K Q hE hH hfr hup hx hvc hK
  have hv := hE x x' hx' (by simp [need, XI.opnds])
  have hyv := hE y y' hc (by simp [need, XI.opnds])
  have hzv := hE z z' hz (by simp [need, XI.opnds])
  have hu := T_und hT ht
  simp only [xi] at hx
  split at hx
  case h_2 => cases hx
  rename_i id kv vv h1 h2 h3
  rw [h1] at hv
  rw [h2] at hyv
  rw [h3] at hzv
  split at hx
  case h_2 => cases hx
  rename_i kk' vk' ents hho
  split at hx
  case isFalse => cases hx
  rename_i hcond
  obtain ⟨rfl, rfl⟩ := hcond
  cases hcv : cvOf kk kv with
  | none => simp [hcv] at hx
  | some c =>
    cases hdv : cvOf vk vv with
    | none => simp [hcv, hdv] at hx
    | some d =>
      simp only [hcv, hdv, Option.bind_some, Option.map_some, Option.some.injEq] at hx
      subst hx
      obtain ⟨hok, hval⟩ := cvOf_snd hcv hyv
      obtain ⟨hokd, hvald⟩ := cvOf_snd hdv hzv
      obtain ⟨mb, bb, g1, g2, hv'⟩ := hv
      obtain ⟨mb', g1', hor, _⟩ := hH.obj id _ hho
      rw [g1] at g1'
      cases g1'
      obtain ⟨b', es, clock, k1, k2, k3⟩ := hor
      rw [g2] at k1
      cases k1
      have hlt : bb < w.heap.size := (Array.getElem?_eq_some_iff.1 k2).1
      have hg : (getObj bb).run P w = .ok (.map es clock) w := by simp [getObj, Sem.run, k2]
      have hset : ∀ ob, (setObj bb ob).run P w = .ok () { w with heap := w.heap.setIfInBounds bb ob } := fun ob => by simp [setObj, Sem.run, k2]
      have hck := run_checkKey hQ hk hok false w
      have hfk := run_findKey hQ hk hok w ents es.toList k3
      have fin : ∀ es' clock', (Instr.mapUpdate t (a.eval x) (a.eval y) (a.eval z)).run P w = .ok () { w with heap := w.heap.setIfInBounds bb (.map es' clock') } →
          All2 (EntR kk vk) (updC kk c d ents) es'.toList → o.wpIn (FR r) 0 P a w K Q := by
        intro es' clock' hr hall
        refine wpSk (w' := { w with heap := w.heap.setIfInBounds bb (.map es' clock') }) (by rcases ho with ho | ho <;> simp [ho]) ?_ (hK _ _ m trivial (Stp.upd1 hH g1 g2 ⟨by simp, fun k hkb => ?_, rfl, rfl, rfl⟩ ⟨bb, es', clock', g2, ?_, hall⟩))
        · rcases ho with ho | ho <;> simp [execOp, ho, hr]
        · simp [Array.getElem?_setIfInBounds, Ne.symm hkb]
        · simp [hlt]
      rcases findI_findC kk c ents with ⟨f1, f2, f3⟩ | ⟨j, a', v', f1, f2, f3, f4, f5⟩
      · simp only [f1, Option.bind_none] at hfk
        refine fin (es.push { key := valC kk c, val := valC vk d, born := clock }) (clock + 1) ?_ ?_
        · simp [Instr.mapUpdate, run_underlying hu, hv', hg, hval, hvald, hck, hfk, hset]
        · rw [f3, Array.toList_push]
          exact k3.append ⟨⟨hok, hokd, rfl, rfl⟩, trivial⟩
      · simp only [f1, Option.bind_some, f2, Option.map_some] at hfk
        obtain ⟨en, q1, q2⟩ := k3.get f2
        have q1' : es[j]? = some en := by simpa using q1
        have hkey : en.key = valC kk c := by rw [q2.2.2.1, eqC_val (keyK_of hk) f3]
        have hstay : (Instr.keyThatStays (valC kk c) (valC kk c)).run P w = .ok (valC kk c) w := run_keyStays (keyK_of hk) hok w
        refine fin (es.modify j fun e => { e with key := valC kk c, val := valC vk d }) clock ?_ ?_
        · simp [Instr.mapUpdate, run_underlying hu, hv', hg, hval, hvald, hck, hfk, hset, q1', hkey, hstay]
        · rw [f5]
          have e1 : (es.modify j fun e => { e with key := valC kk c, val := valC vk d }).toList = es.toList.set j { en with key := valC kk c, val := valC vk d } := by
            apply List.ext_getElem?
            intro i
            simp only [Array.getElem?_toList, Array.getElem?_modify, List.getElem?_set]
            by_cases hij : j = i
            · subst hij
              have hjl : j < es.size := (Array.getElem?_eq_some_iff.1 q1').1
              have hen : es[j] = en := (Array.getElem?_eq_some_iff.1 q1').2
              simp [hjl, hen]
            · simp [hij]
          rw [e1]
          exact k3.set ⟨hok, hokd, rfl, rfl⟩
theorem snd_mmk {o : Oper} {t : TypeId} {kk vk : CK} (ho : o.op = .makeMap t none) : Snd P cmp r Γ o (.mmk kk vk) := by
  intro ctx m hp w a ev base e K Q hE hH hfr hup hx hvc hK
  simp only [xi, Option.some.injEq] at hx
  subst hx
  have hm := hH.dom base (by simpa using hfr 0 (by simp))
  refine wpI (by simp [ho]) (v := .map (some w.heap.size)) (w' := w.alloc (.map #[] 0)) (by simp [execOp, ho, Instr.makeMap]) (hK _ _ (m.put base ⟨some w.heap.size, 0, 0⟩) ?_ ?_)
  · exact ⟨_, _, m.put_same _ _, rfl, rfl⟩
  · exact Stp.new1 hm rfl rfl rfl rfl rfl ⟨_, #[], 0, rfl, heap_alloc_new w _, trivial⟩
end
end Go.Proofs.Yteekkjfjpoaihaa.Eng
namespace Go.Proofs.Yteekkjfjpoaihaa.Eng
open Go
/-- what is shown of a function's specification: over any objects -/
def SpecOK (P : Program) (cmp : Cmp) (f : FuncId) (sp : Spec) : Prop :=
  ∀ (ctx : Ctx) (m : MM) (h : Nat → Option HO) (w : World) (args : List AV) (vals : List Value) (base : Nat) (e : Eff),
    HRel cmp ctx m h w → All2 (AR m) args vals → (∀ k, k < e.news.length → h (base + k) = none) → updOk h e.upd = true → sp.run args h base = some e → e.vc = true →
    CallsIn (FR none) 0 P f vals.toArray w (fun en w' => ∃ v m', en = .returned v ∧ TR m' e.val v ∧ Stp cmp m m' w w' e.upd base e.news)
/-- ... and of yield's, while the loop's rounds go on -/
def YieldOK (P : Program) (cmp : Cmp) (id : Nat) (sp : Spec) : Prop :=
  ∀ (ctx : Ctx) (m : MM) (h : Nat → Option HO) (w : World) (args : List AV) (vals : List Value) (base : Nat) (e : Eff) (l : Nat) (mb : MB),
    HRel cmp ctx m h w → m id = some mb → mb.b = some l → All2 (AR m) args vals → (∀ k, k < e.news.length → h (base + k) = none) → updOk h e.upd = true → sp.run args h base = some e → e.vc = true →
    ∃ f tmps assign body, (Instr.yield l vals.toArray).run P w = .ok (.round l f tmps assign body) w ∧
      RoundIn (FR none) 0 P l f tmps assign body w (fun en w' => ∃ v m', en = .returned v ∧ TR m' e.val v ∧ Stp cmp m m' w w' e.upd base e.news)
def GamOK (P : Program) (cmp : Cmp) (Γ : Cal → Option Spec) : Prop :=
  (∀ f sp, Γ (.f f) = some sp → SpecOK P cmp f sp) ∧ ∀ id sp, Γ (.y id) = some sp → YieldOK P cmp id sp
/-- a function of the program that has a body, and is called as such -/
def Bodied (P : Program) (f : FuncId) : Prop := ∃ fn, P.funcs[f]? = some fn ∧ fn.body.isNone = false ∧ (fn.name == "runtime.NumGoroutine") = false
section
variable {P : Program} {T : Tab} {cmp : Cmp} {r : Option Nat} {Γ : Cal → Option Spec}
theorem run_callFunc {f : FuncId} (hb : Bodied P f) (args : Array Value) (w : World) : (callFunc f args).run P w = .ok (.enter f args) w := by
  obtain ⟨fn, h1, h2, h3⟩ := hb
  have h2' : ¬ fn.body = none := by
    intro e
    rw [e] at h2
    cases h2
  have h3' : ¬ fn.name = "runtime.NumGoroutine" := by
    intro e
    rw [e] at h3
    exact Bool.noConfusion (h3.symm.trans (beq_self_eq_true _))
  simp [callFunc, h1, h2', h3']
theorem allAV_spec {m : MM} : ∀ {l : List TV} {vs : List AV} {us : List Value}, allAV l = some vs → All2 (TR m) l us → All2 (AR m) vs us
  | [], vs, [], h, _ => by simp [allAV] at h; subst h; trivial
  | [], _, _ :: _, _, h => h.elim
  | tv :: l, vs, us, h, hv => by
    unfold allAV at h
    split at h
    · rename_i e; cases e
    · rename_i x rest e
      cases e
      cases hr : allAV l with
      | none => simp [hr] at h
      | some q =>
        simp [hr] at h
        subst h
        cases us with
        | nil => exact hv.elim
        | cons u us => exact ⟨hv.1, allAV_spec hr hv.2⟩
    · cases h
theorem caps_spec {m : MM} : ∀ {caps : List Nat} {vs : List Value}, All2 (fun id x => ∃ mb b, m id = some mb ∧ mb.b = some b ∧ x = Value.pointer (some ⟨b, mb.base + (0 + 0), none⟩)) caps vs → All2 (AR m) (capArgs caps) vs
  | [], [], _ => trivial
  | [], _ :: _, h => h.elim
  | _ :: _, [], h => h.elim
  | _ :: _, _ :: _, ⟨h1, h2⟩ => ⟨h1, caps_spec h2⟩
theorem callsIn_round {r : Option Nat} {f : FuncId} {args : Array Value} {w : World} {R : Ending → World → Prop} (h : CallsIn (FR none) 0 P f args w R) : CallsIn (FR r) 0 P f args w R := h
theorem roundIn_round {r : Option Nat} {l : Nat} {f : FuncId} {tmps : Array Value} {assign body : Code} {w : World} {R : Ending → World → Prop} (h : RoundIn (FR none) 0 P l f tmps assign body w R) : RoundIn (FR r) 0 P l f tmps assign body w R := h
theorem snd_call (hG : GamOK P cmp Γ) (hB : ∀ f sp, Γ (.f f) = some sp → Bodied P f) {o : Oper} {c : Call} {f : Operand} {f' : XO} {l : List XO} (ho : o.op = .call c) (hcal : c.callee = .value f) (hf : cO f = some f') (hl : cOs c.args.toList = some l) : Snd P cmp r Γ o (.call f' l) := by
  intro ctx m hp w a ev base e K Q hE hH hfr hup hx hvc hK
  have hfv := hE f f' hf (by simp [need, XI.opnds])
  obtain ⟨_, h2⟩ := cOs_spec hl
  have hargs := h2 m ev a fun y xo e hm => hE y xo e (by simp [need, XI.opnds, hm])
  have hd : ∀ cc, o.op ≠ .defer cc := by simp [ho]
  simp only [xi] at hx
  split at hx
  · rename_i fid caps vs hfe hvs
    rw [hfe] at hfv
    obtain ⟨cvs, hfv, hcaps⟩ := hfv
    unfold callE at hx
    cases hg : Γ (.f fid) with
    | none => simp [hg] at hx
    | some sp =>
      simp only [hg] at hx
      have hall := (allAV_spec hvs hargs).append (caps_spec hcaps)
      have hc := hG.1 fid sp hg ctx m hp w _ _ base e hH hall hfr hup hx hvc
      refine ⟨fun _ _ => trivial, ?_⟩
      rw [Oper.semAt_eq _ _ _ hd]
      have hrun : (execOp a.eval o).run P w = .ok (.enter fid ((c.args.toList.map a.eval) ++ cvs).toArray) w := by
        have he : (c.args.map a.eval) ++ cvs.toArray = ((c.args.toList.map a.eval) ++ cvs).toArray := by
          apply Array.ext'
          simp
        simp [execOp, ho, resolve, hcal, hfv, Deferred.ofValue, invoke, run_callFunc (hB fid sp hg), he]
      rw [hrun, Oper.uponIn_enter]
      refine ⟨fun h => (by cases h), CallsIn.mono (callsIn_round hc) ?_⟩
      rintro en w' ⟨v, m', rfl, hv, hs⟩
      exact hK v w' m' hv hs
  · rename_i id vs hfe hvs
    rw [hfe] at hfv
    obtain ⟨mb, b, h3, h4, hfv⟩ := hfv
    unfold callE at hx
    cases hg : Γ (.y id) with
    | none => simp [hg] at hx
    | some sp =>
      simp only [hg] at hx
      have hall := allAV_spec hvs hargs
      obtain ⟨fn, tmps, assign, body, g1, g2⟩ := hG.2 id sp hg ctx m hp w _ _ base e b mb hH h3 h4 hall hfr hup hx hvc
      refine ⟨fun _ _ => trivial, ?_⟩
      rw [Oper.semAt_eq _ _ _ hd]
      have hrun : (execOp a.eval o).run P w = .ok (.round b fn tmps assign body) w := by
        have he : (#[] ++ c.args.map a.eval) = (c.args.toList.map a.eval).toArray := by
          apply Array.ext'
          simp
        simp only [execOp, ho, resolve, hcal, hfv, Deferred.ofValue, Sem.run_bind, Sem.run_pure, Result.andThen_ok, invoke, he, g1]
      rw [hrun, Oper.uponIn_round]
      refine ⟨fun h => (by cases h), RoundIn.mono (roundIn_round g2) ?_⟩
      rintro en w' ⟨v, m', rfl, hv, hs⟩
      exact hK v w' m' hv hs
  · cases hx
theorem snd_bad {o : Oper} : Snd P cmp r Γ o .bad := by
  intro ctx m hp w a ev base e K Q hE hH hfr hup hx hvc hK
  simp [xi] at hx
/-- all of them -/
theorem comp_snd (hT : TOK P T) (hQ : EQOK P) (hG : GamOK P cmp Γ) (hB : ∀ f sp, Γ (.f f) = some sp → Bodied P f) {o : Oper} {x : XI} (h : compOp T o = some x) : Snd P cmp r Γ o x := by
  have hTT : ∀ {t : TypeId} {ti : TI}, T t = some ti → T t = some ⟨ti.d, ti.size, ti.bytes, ti.z⟩ := fun h => h
  unfold compOp at h
  split at h
  all_goals rename_i ho
  · obtain ⟨y, h1, rfl⟩ := Option.map_eq_some_iff.1 h; exact snd_mv (.inl ho) h1
  · obtain ⟨y, h1, rfl⟩ := Option.map_eq_some_iff.1 h; exact snd_mv (.inr ho) h1
  · simp only [Option.bind_eq_some_iff, Option.map_eq_some_iff] at h
    obtain ⟨c, h1, a, h2, b, h3, rfl⟩ := h
    exact snd_pick ho h1 h2 h3
  · obtain ⟨z, h1, rfl⟩ := Option.map_eq_some_iff.1 h; exact snd_alloc hT ho h1
  · simp only [Option.bind_eq_some_iff, Option.map_eq_some_iff] at h
    obtain ⟨_, _, y, h1, rfl⟩ := h
    exact snd_box ho h1
  · simp only [Option.bind_eq_some_iff] at h
    obtain ⟨z, h1, h⟩ := h
    split at h
    · rename_i fs _ _ _ ht
      split at h
      case isFalse => cases h
      rename_i hall
      obtain ⟨l, h2, rfl⟩ := Option.map_eq_some_iff.1 h
      exact snd_bld_struct hT ho h1 ht hall h2
    · rename_i k e _ _ _ ht
      simp only [Option.bind_eq_some_iff, Option.map_eq_some_iff] at h
      obtain ⟨n, h2, l, h3, rfl⟩ := h
      exact snd_bld_array hT ho h1 ht h2 h3
    · cases h
  · split at h
    case h_2 => cases h
    rename_i e _ _ _ ht
    split at h
    case isFalse => cases h
    rename_i hlen
    split at h
    · rename_i n f hz
      split at h
      case isFalse => cases h
      rename_i hn
      obtain ⟨l, h2, rfl⟩ := Option.map_eq_some_iff.1 h
      exact snd_bslB (z := .pb [] n f) hT ho ht hlen hz hn.1 hn.2.1 hn.2.2 h2
    · simp only [Option.bind_eq_some_iff] at h
      obtain ⟨⟨k, n⟩, h1, h⟩ := h
      split at h
      case isFalse => cases h
      rename_i hn
      obtain ⟨l, h2, rfl⟩ := Option.map_eq_some_iff.1 h
      exact snd_bsl hT ho ht hlen h1 hn.1 hn.2 h2
  · simp only [Option.bind_eq_some_iff, Option.map_eq_some_iff] at h
    obtain ⟨k, h1, y, h2, rfl⟩ := h
    exact snd_ld hT ho h1 h2
  · simp only [Option.bind_eq_some_iff, Option.map_eq_some_iff] at h
    obtain ⟨k, h1, y, h2, z, h3, rfl⟩ := h
    exact snd_st hT ho h1 h2 h3
  · obtain ⟨y, h1, rfl⟩ := Option.map_eq_some_iff.1 h; exact snd_nck ho h1
  · simp only [Option.bind_eq_some_iff] at h
    obtain ⟨y, h1, z, h2, h⟩ := h
    split at h
    · cases h; exact snd_bin ho h1 h2
    · simp only [Option.bind_eq_some_iff] at h
      obtain ⟨k, h3, h⟩ := h
      split at h
      · cases h; exact snd_eqv hT hQ ho (.inl ⟨rfl, rfl⟩) h3 h1 h2
      · cases h; exact snd_eqv hT hQ ho (.inr ⟨rfl, rfl⟩) h3 h1 h2
      · cases h
  · obtain ⟨y, h1, rfl⟩ := Option.map_eq_some_iff.1 h; exact snd_not ho h1
  · obtain ⟨y, h1, rfl⟩ := Option.map_eq_some_iff.1 h; exact snd_neg ho h1
  · split at h
    case h_2 => cases h
    rename_i h1 h2
    obtain ⟨y, h3, rfl⟩ := Option.map_eq_some_iff.1 h
    exact snd_conv hT ho h1 h2 h3
  · simp only [Option.bind_eq_some_iff] at h
    obtain ⟨y, h1, lo, h2, hi, h3, h⟩ := h
    split at h
    · rename_i ht
      obtain ⟨n, h4, rfl⟩ := Option.map_eq_some_iff.1 h
      exact snd_slc hT ho h1 h2 h3 ht h4
    · rename_i ht
      obtain ⟨n, h4, rfl⟩ := Option.map_eq_some_iff.1 h
      exact snd_slcA hT ho h1 h2 h3 ht h4
    · cases h
  · simp only [Option.bind_eq_some_iff] at h
    obtain ⟨y, h1, h⟩ := h
    split at h
    case h_2 => cases h
    rename_i ht
    simp only [Option.bind_eq_some_iff] at h
    obtain ⟨q, h2, n, h3, h⟩ := h
    split at h
    case isTrue => cases h
    rename_i h0
    cases h
    exact snd_fad hT ho h1 ht h2 h3 h0
  · simp only [Option.bind_eq_some_iff] at h
    obtain ⟨y, h1, h⟩ := h
    split at h
    case h_2 => cases h
    rename_i ht
    simp only [Option.bind_eq_some_iff, Option.map_eq_some_iff] at h
    obtain ⟨q, h2, k, h3, rfl⟩ := h
    exact snd_fld hT ho h1 ht h2 h3
  · simp only [Option.bind_eq_some_iff] at h
    obtain ⟨y, h1, i, h2, h⟩ := h
    split at h
    · rename_i ht
      obtain ⟨n, h4, rfl⟩ := Option.map_eq_some_iff.1 h
      exact snd_iad hT ho h1 h2 ht h4
    · rename_i ht
      obtain ⟨n, h4, rfl⟩ := Option.map_eq_some_iff.1 h
      exact snd_iadS hT ho h1 h2 ht h4
    · cases h
  · simp only [Option.bind_eq_some_iff] at h
    obtain ⟨y, h1, i, h2, h⟩ := h
    split at h
    case h_2 => cases h
    rename_i ht
    simp only [Option.bind_eq_some_iff, Option.map_eq_some_iff] at h
    obtain ⟨n, h3, k, h4, rfl⟩ := h
    exact snd_idx hT ho h1 h2 ht h3 h4
  · simp only [Option.bind_eq_some_iff] at h
    obtain ⟨y, h1, i, h2, h⟩ := h
    split at h
    case h_2 => cases h
    rename_i ht
    simp only [Option.bind_eq_some_iff] at h
    obtain ⟨kk, h3, h⟩ := h
    split at h
    case isFalse => cases h
    rename_i hk
    obtain ⟨vk, h4, rfl⟩ := Option.map_eq_some_iff.1 h
    exact snd_lkup hT hQ ho ht hk h4 h1 h2
  · simp only [Option.bind_eq_some_iff] at h
    obtain ⟨x, h0, y, h1, i, h2, h⟩ := h
    split at h
    case h_2 => cases h
    rename_i ht
    simp only [Option.bind_eq_some_iff] at h
    obtain ⟨kk, h3, h⟩ := h
    split at h
    case isFalse => cases h
    rename_i hk
    obtain ⟨vk, h4, rfl⟩ := Option.map_eq_some_iff.1 h
    exact snd_mupd hT hQ (.inl ho) ht hk h0 h1 h2
  · simp only [Option.bind_eq_some_iff] at h
    obtain ⟨x, h0, y, h1, i, h2, h⟩ := h
    split at h
    case h_2 => cases h
    rename_i ht
    simp only [Option.bind_eq_some_iff] at h
    obtain ⟨kk, h3, h⟩ := h
    split at h
    case isFalse => cases h
    rename_i hk
    obtain ⟨vk, h4, rfl⟩ := Option.map_eq_some_iff.1 h
    exact snd_mupd hT hQ (.inr ho) ht hk h0 h1 h2
  · split at h
    case h_2 => cases h
    simp only [Option.bind_eq_some_iff, Option.map_eq_some_iff] at h
    obtain ⟨kk, h3, vk, h4, rfl⟩ := h
    exact snd_mmk ho
  · split at h
    case isFalse => cases h
    rename_i hs
    simp only [Option.bind_eq_some_iff] at h
    obtain ⟨y, h1, h⟩ := h
    split at h
    case h_2 => cases h
    rename_i ht
    split at h
    · rename_i k k' he
      split at h
      case isFalse => cases h
      rename_i hk
      subst hk
      cases h
      exact snd_mkS hT ho hs h1 ht he
    · rename_i he
      cases h
      exact snd_mkSB hT ho hs h1 ht he
    · cases h
  · split at h
    case isFalse => cases h
    rename_i hf
    obtain ⟨l, h1, rfl⟩ := Option.map_eq_some_iff.1 h
    exact snd_mkf ho hf h1
  · obtain ⟨y, h1, rfl⟩ := Option.map_eq_some_iff.1 h; exact snd_extr ho h1
  · cases h; exact snd_bad
  · cases h; exact snd_bad
  · split at h
    · rename_i hcal
      split at h
      case h_2 => cases h
      rename_i y t hargs hat
      have hargs' : _ = #[y] := Array.ext' hargs
      have hat' : _ = #[t] := Array.ext' hat
      split at h
      · rename_i ht
        obtain ⟨y', h1, rfl⟩ := Option.map_eq_some_iff.1 h
        exact snd_len hT ho hcal hargs' hat' ht h1
      · rename_i ht
        obtain ⟨y', h1, rfl⟩ := Option.map_eq_some_iff.1 h
        exact snd_lenM hT ho hcal hargs' hat' ht h1
      · cases h
    · rename_i hcal
      obtain ⟨l, h1, rfl⟩ := Option.map_eq_some_iff.1 h
      exact snd_mn ho hcal h1
    · rename_i hcal
      obtain ⟨l, h1, rfl⟩ := Option.map_eq_some_iff.1 h
      exact snd_mx ho hcal h1
    · rename_i hcal
      split at h
      case h_2 => cases h
      rename_i y z t t' hargs hat
      split at h
      case isFalse => cases h
      rename_i htt
      subst htt
      split at h
      case h_2 => cases h
      rename_i ht
      simp only [Option.bind_eq_some_iff] at h
      obtain ⟨⟨k, n⟩, h1, ti, h2, h⟩ := h
      split at h
      case isFalse => cases h
      rename_i hn
      simp only [Option.bind_eq_some_iff, Option.map_eq_some_iff] at h
      obtain ⟨y', h3, z', h4, rfl⟩ := h
      exact snd_app hT ho hcal (Array.ext' hargs) (Array.ext' hat) ht h1 h2 hn.2 h3 h4
    · rename_i hcal
      simp only [Option.bind_eq_some_iff, Option.map_eq_some_iff] at h
      obtain ⟨f', h1, l, h2, rfl⟩ := h
      exact snd_call hG hB ho hcal h1 h2
    · cases h
  · cases h
end
end Go.Proofs.Yteekkjfjpoaihaa.Eng

/- The engine, part 7: aggregates built, rows made. -/
import Derived.Test.YteekkjfjpoaihaaEf
set_option linter.all false
namespace Go.Proofs.Yteekkjfjpoaihaa.Eng
open Go

section
variable {P : Program} {T : Tab} {cmp : Cmp} {r : Option Nat} {Γ : Cal → Option Spec}

theorem fold_put : ∀ (vs : List Value) (off i : Nat) (cs : List Value), off + i + vs.length ≤ cs.length →
    (vs.zipIdx i).foldl (fun (c : Array Value) (x : Value × Nat) => c.setIfInBounds (off + x.2) x.1) cs.toArray = (cs.take (off + i) ++ vs ++ cs.drop (off + i + vs.length)).toArray
  | [], off, i, cs, _ => by simp
  | v :: vs, off, i, cs, h => by
    simp only [List.length_cons] at h
    simp only [List.zipIdx_cons, List.foldl_cons]
    have e : cs.toArray.setIfInBounds (off + i) v = (cs.set (off + i) v).toArray := by simp
    rw [e, fold_put vs off (i + 1) (cs.set (off + i) v) (by simp; omega)]
    have := list_seg_step cs (off + i) v vs (by omega)
    rw [show off + (i + 1) = off + i + 1 by omega, this]
    simp [Nat.add_comm]

theorem fill_step {place : Nat → Option (Nat × Nat)} {cs vs : List Value} {i off sz : Nat} {v : Value} {rest : List (Nat × Value)} (hp : place i = some (off, sz)) (hv : v.cells = vs.toArray) (hs : vs.length = sz) (hfit : off + sz ≤ cs.length) :
    Instr.fill place cs.toArray ((i, v) :: rest) = Instr.fill place (cs.take off ++ vs ++ cs.drop (off + sz)).toArray rest := by
  have hf := fold_put vs off 0 cs (by omega)
  simp only [Nat.add_zero, hs] at hf
  simp only [Instr.fill, hp, hv]
  rw [if_neg (by simp; omega)]
  congr 1
  rw [← Array.foldl_toList]
  simpa using hf

theorem bld_snd {m : MM} {place : Nat → Option (Nat × Nat)} {f : Nat → Option (Nat × Nat)} {ev : XO → TV} {a : Act} (hf : ∀ i q, f i = some q → place i = some q) :
    ∀ (ps : List (Nat × Operand)) (l : List ((Nat × Nat) × XO)) (pre : List SV) (n : Nat) (g : Nat → Bool) (cs : List Value) (v : AV), cPs f ps = some l → PR m pre n g cs →
      (∀ y xo, cO y = some xo → xo ∈ l.map (·.2) → TR m (ev xo) (a.eval y)) → bldP (.pb pre n g) (l.map fun p => (p.1, ev p.2)) = some v →
      ∃ cs' : List Value, Instr.fill place cs.toArray (ps.map fun p => (p.1, a.eval p.2)) = some cs'.toArray ∧ AR m v (.agg cs'.toArray)
  | [], l, pre, n, g, cs, v, hl, hp, hE, hb => by
    simp [cPs] at hl
    subst hl
    simp [bldP] at hb
    subst hb
    exact ⟨cs, by simp [Instr.fill], cs, rfl, hp⟩
  | (i, y) :: ps, l, pre, n, g, cs, v, hl, hp, hE, hb => by
    simp only [cPs, Option.bind_eq_some_iff, Option.map_eq_some_iff] at hl
    obtain ⟨⟨off, sz⟩, h1, xo, h2, l', h3, rfl⟩ := hl
    have hv := hE y xo h2 (by simp)
    have hE' : ∀ y xo, cO y = some xo → xo ∈ l'.map (·.2) → TR m (ev xo) (a.eval y) := fun y xo e hm => hE y xo e (by simp at hm ⊢; exact .inr hm)
    have hlen := hp.length
    simp only [List.map_cons] at hb ⊢
    unfold bldP at hb
    split at hb
    · rename_i heq; cases heq
    · rename_i pre' n' g' o' sz' x rest e1 e2
      cases e1
      simp only [List.cons.injEq, Prod.mk.injEq] at e2
      obtain ⟨⟨⟨rfl, rfl⟩, hev⟩, rfl⟩ := e2
      split at hb
      case isFalse => cases hb
      rename_i hc
      obtain ⟨rfl, hlt, hk⟩ := hc
      rw [hev] at hv
      have hxv : SR m x (a.eval y) := hv
      have h1c := hxv.one hk
      rw [fill_step (hf _ _ h1) (cells_one h1c) (vs := [a.eval y]) rfl (by omega), splice_set _ _ _ (by omega)]
      exact bld_snd hf ps l' _ _ _ _ v h3 (hp.set_lo hlt hxv h1c) hE' hb
    · rename_i pre' n' g' o' sz' n'' f'' rest e1 e2
      cases e1
      simp only [List.cons.injEq, Prod.mk.injEq] at e2
      obtain ⟨⟨⟨rfl, rfl⟩, hev⟩, rfl⟩ := e2
      split at hb
      case isFalse => cases hb
      rename_i hc
      obtain ⟨rfl, rfl, rfl⟩ := hc
      rw [hev] at hv
      obtain ⟨cs2, hcs2, hp2⟩ := hv
      have hl2 := hp2.length
      simp at hl2
      rw [fill_step (hf _ _ h1) (vs := cs2) (by rw [hcs2]; rfl) hl2 (by omega)]
      refine bld_snd hf ps l' _ _ _ _ v h3 ?_ hE' hb
      rw [List.drop_eq_nil_of_le (by omega), List.append_nil, hp2.none]
      obtain ⟨vs, g1, g2, rfl⟩ := hp
      exact ⟨vs, g1, g2, by rw [← g1.length, List.take_left]⟩
    · cases hb

theorem T_zinfo (hT : TOK P T) {t : TypeId} {z : AV} (h : zOf T t = some z) : ∃ i zv, P.info? t = some i ∧ i.zero = some zv ∧ ∀ m, AR m z zv := by
  unfold zOf at h
  cases ht : T t with
  | none => simp [ht] at h
  | some ti =>
    simp only [ht, Option.bind_some] at h
    obtain ⟨i, h1, _, _, h2⟩ := hT.info t ti ht
    obtain ⟨zv, h3, h4⟩ := h2 z h
    exact ⟨i, zv, h1, h3, h4⟩

theorem T_sinfo (hT : TOK P T) {t : TypeId} {n : Nat} (h : sizeT T t = some n) : ∃ i, P.info? t = some i ∧ i.size = n := by
  unfold sizeT at h
  cases ht : T t with
  | none => simp [ht] at h
  | some ti =>
    obtain ⟨i, h1, h2, _⟩ := hT.info t ti ht
    simp [ht] at h
    exact ⟨i, h1, by omega⟩

theorem places_of (hT : TOK P T) : ∀ (fs : List Field), fs.all (fun f => (T f.type).isSome) = true →
    ∃ places, fs.mapM (fun f => (P.info? f.type).map fun i => (f.offset, i.size)) = some places ∧
      ∀ (i : Nat) (q : Nat × Nat), ((fs[i]?).bind fun (f : Field) => (sizeT T f.type).map fun n => (f.offset, n)) = some q → places[i]? = some q
  | [], _ => ⟨[], by simp, fun i q h => by simp at h⟩
  | f :: fs, h => by
    simp only [List.all_cons, Bool.and_eq_true] at h
    obtain ⟨places, h1, h2⟩ := places_of hT fs h.2
    obtain ⟨ti, hti⟩ := Option.isSome_iff_exists.1 h.1
    obtain ⟨i, hi, hs, _⟩ := hT.info _ _ hti
    refine ⟨(f.offset, i.size) :: places, by simp [List.mapM_cons, hi, h1], fun j q hq => ?_⟩
    cases j with
    | zero =>
      simp [sizeT, hti] at hq
      simp [← hq, hs]
    | succ j => exact h2 j q (by simpa using hq)

theorem snd_bld_struct (hT : TOK P T) {o : Oper} {t : TypeId} {parts : Array (Nat × Operand)} {fs : Array Field} {s b : Nat} {zz : Option AV} {z : AV} {l : List ((Nat × Nat) × XO)} (ho : o.op = .build t parts) (hz : zOf T t = some z)
    (ht : T t = some ⟨.struct fs, s, b, zz⟩) (hall : fs.toList.all (fun f => (T f.type).isSome) = true) (hl : cPs (fun i => (fs[i]?).bind fun f => (sizeT T f.type).map fun n => (f.offset, n)) parts.toList = some l) : Snd P cmp r Γ o (.bld z l) := by
  refine snd_pure (by simp [ho]) fun ctx m hp w a ev base e hE hH hx hvc => ?_
  simp only [xi] at hx
  cases hb : bldP z (l.map fun p => (p.1, ev p.2)) with
  | none => simp [hb] at hx
  | some v =>
    simp only [hb, Option.bind_some, pureE, Option.some.injEq] at hx
    subst hx
    obtain ⟨i, zv, h1, h2, h3⟩ := T_zinfo hT hz
    have hsh := hT.shape t _ z ht (by unfold zOf at hz; rw [ht] at hz; simpa using hz)
    cases z with
    | s x => simp [isAggD] at hsh
    | pb pre n g =>
      obtain ⟨cs, rfl, hpr⟩ := h3 m
      obtain ⟨places, h4, h5⟩ := places_of hT fs.toList hall
      obtain ⟨cs', h6, h7⟩ := bld_snd (place := (places.toArray[·]?)) (fun i q hq => by simpa using h5 i q (by simpa using hq)) parts.toList l pre n g cs v hl hpr (fun y xo e hm => hE y xo e (by simpa [need, XI.opnds] using hm)) hb
      refine ⟨rfl, rfl, .agg cs'.toArray, ?_, h7⟩
      have hbu : P.built t (parts.map fun (i, x) => (i, a.eval x)).toList = some cs'.toArray := by
        unfold Program.built
        simp only [h1, T_struct hT ht, h2, h4]
        simpa [Value.cells] using h6
      simp [execOp, ho, run_build w t _ _ hbu]

theorem snd_bld_array (hT : TOK P T) {o : Oper} {t e' : TypeId} {parts : Array (Nat × Operand)} {k n : Nat} {s b : Nat} {zz : Option AV} {z : AV} {l : List ((Nat × Nat) × XO)} (ho : o.op = .build t parts) (hz : zOf T t = some z)
    (ht : T t = some ⟨.array k e', s, b, zz⟩) (hn : sizeT T e' = some n) (hl : cPs (fun i => some (i * n, n)) parts.toList = some l) : Snd P cmp r Γ o (.bld z l) := by
  refine snd_pure (by simp [ho]) fun ctx m hp w a ev base e hE hH hx hvc => ?_
  simp only [xi] at hx
  cases hb : bldP z (l.map fun p => (p.1, ev p.2)) with
  | none => simp [hb] at hx
  | some v =>
    simp only [hb, Option.bind_some, pureE, Option.some.injEq] at hx
    subst hx
    obtain ⟨i, zv, h1, h2, h3⟩ := T_zinfo hT hz
    have hsh := hT.shape t _ z ht (by unfold zOf at hz; rw [ht] at hz; simpa using hz)
    cases z with
    | s x => simp [isAggD] at hsh
    | pb pre n' g =>
      obtain ⟨cs, rfl, hpr⟩ := h3 m
      obtain ⟨ie, h4, h5⟩ := T_sinfo hT hn
      subst h5
      obtain ⟨cs', h6, h7⟩ := bld_snd (place := fun i => some (i * ie.size, ie.size)) (fun i q hq => by simpa using hq) parts.toList l pre n' g cs v hl hpr (fun y xo e hm => hE y xo e (by simpa [need, XI.opnds] using hm)) hb
      refine ⟨rfl, rfl, .agg cs'.toArray, ?_, h7⟩
      have hbu : P.built t (parts.map fun (i, x) => (i, a.eval x)).toList = some cs'.toArray := by
        unfold Program.built
        simp only [h1, T_und hT ht, h2, h4]
        simpa [Value.cells] using h6
      simp [execOp, ho, run_build w t _ _ hbu]

/-! ### slices built -/

theorem set_map_many {k : IntKind} : ∀ (q : List Int) (l : List Int) (o : Nat), o + q.length ≤ l.length → (l.map (Value.int k)).take o ++ q.map (Value.int k) ++ (l.map (Value.int k)).drop (o + q.length) = (setMany l o q).map (Value.int k)
  | [], l, o, _ => by simp [setMany]
  | a :: q, l, o, h => by
    simp only [List.length_cons] at h
    have ih := set_map_many (k := k) q (l.set o a) (o + 1) (by simp; omega)
    have hs := list_seg_step (l.map (Value.int k)) o (.int k a) (q.map (Value.int k)) (by simp; omega)
    simp only [setMany, List.map_cons, List.length_cons]
    rw [← ih, List.map_set]
    simp only [List.length_map] at hs
    exact hs.symm

theorem bsl_snd {m : MM} {k : IntKind} {sz : Nat} {ev : XO → TV} {a : Act} :
    ∀ (ps : List (Nat × Operand)) (l : List (Nat × XO)) (c q : List Int), cPs some ps = some l →
      (∀ y xo, cO y = some xo → xo ∈ l.map (·.2) → TR m (ev xo) (a.eval y)) → bslP k sz c (l.map fun p => (p.1, ev p.2)) = some q →
      Instr.fill (fun i => some (i * sz, sz)) (c.map (Value.int k)).toArray (ps.map fun p => (p.1, a.eval p.2)) = some (q.map (Value.int k)).toArray ∧ q.length = c.length
  | [], l, c, q, hl, hE, hb => by
    simp [cPs] at hl
    subst hl
    simp [bslP] at hb
    subst hb
    exact ⟨by simp [Instr.fill], rfl⟩
  | (i, y) :: ps, l, c, q, hl, hE, hb => by
    simp only [cPs, Option.bind_eq_some_iff, Option.map_eq_some_iff] at hl
    obtain ⟨i', h1, xo, h2, l', h3, rfl⟩ := hl
    cases h1
    have hv := hE y xo h2 (by simp)
    have hE' : ∀ y xo, cO y = some xo → xo ∈ l'.map (·.2) → TR m (ev xo) (a.eval y) := fun y xo e hm => hE y xo e (by simp at hm ⊢; exact .inr hm)
    simp only [List.map_cons] at hb ⊢
    unfold bslP at hb
    split at hb
    · rename_i heq; cases heq
    · rename_i c' i'' k' x rest e2
      simp only [List.cons.injEq, Prod.mk.injEq] at e2
      obtain ⟨⟨rfl, hev⟩, rfl⟩ := e2
      split at hb
      case isFalse => cases hb
      rename_i hc
      obtain ⟨rfl, rfl, hlt⟩ := hc
      rw [hev] at hv
      have hval : a.eval y = .int k x := hv
      rw [hval, fill_step (v := .int k x) (vs := [.int k x]) (off := i * 1) (sz := 1) rfl rfl rfl (by simp; omega), Nat.mul_one, splice_set _ _ _ (by simpa using hlt), ← List.map_set]
      obtain ⟨g1, g2⟩ := bsl_snd ps l' _ q h3 hE' hb
      exact ⟨g1, by simpa using g2⟩
    · rename_i c' i'' pre fb rest e2
      simp only [List.cons.injEq, Prod.mk.injEq] at e2
      obtain ⟨⟨rfl, hev⟩, rfl⟩ := e2
      split at hb
      case isFalse => cases hb
      rename_i hc
      obtain ⟨rfl, hle⟩ := hc
      cases hq : intsOf k pre with
      | none => simp [hq] at hb
      | some qs =>
        simp only [hq, Option.bind_some] at hb
        rw [hev] at hv
        obtain ⟨cs2, hcs2, hp2⟩ := hv
        have hcs := hp2.ints hq
        obtain ⟨hq1, _⟩ := intsOf_get hq
        rw [Nat.add_mul, Nat.one_mul] at hle
        have hle' := hle
        rw [fill_step (v := a.eval y) (vs := qs.map (Value.int k)) (off := i * pre.length) (sz := pre.length) rfl (by rw [hcs2, hcs]; rfl) (by simpa using hq1) (by simpa using hle)]
        have hsm := fun c0 h0 => set_map_many (k := k) qs c0 (i * pre.length) h0
        simp only [hq1] at hsm
        rw [hsm _ hle']
        obtain ⟨g1, g2⟩ := bsl_snd ps l' _ q h3 hE' hb
        exact ⟨g1, by rw [g2, setMany_length]⟩
    · cases hb

end
end Go.Proofs.Yteekkjfjpoaihaa.Eng

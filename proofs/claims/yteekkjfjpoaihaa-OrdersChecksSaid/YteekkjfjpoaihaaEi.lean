/- The engine, part 9: append onto a row of one's own; make. -/
import Derived.Test.YteekkjfjpoaihaaEh
set_option linter.all false
namespace Go.Proofs.Yteekkjfjpoaihaa.Eng
open Go

section
variable {P : Program} {T : Tab} {cmp : Cmp} {r : Option Nat} {Γ : Cal → Option Spec}

theorem Stp.withGone {ctx : Ctx} {m m' : MM} {h : Nat → Option HO} {w w' : World} {base id : Nat} {news : List HO} {ho : HO} (hH : HRel cmp ctx m h w) (hid : h id = some ho) (hs : Stp cmp m m' w w' [] base news) : Stp cmp m m' w w' [(id, ⟨false, .gone⟩)] base news where
  ext := hs.ext
  dom := hs.dom
  size := hs.size
  same := fun b hb _ => hs.same b hb (fun _ h => by cases h)
  os := hs.os
  tape := hs.tape
  output := hs.output
  upd := fun u hu => by
    simp at hu
    subst hu
    obtain ⟨mb, hm, _⟩ := hH.obj id ho hid
    exact ⟨mb, hm, trivial⟩
  new := fun k ho' hk => by
    obtain ⟨mb, h1, h2, h3⟩ := hs.new k ho' hk
    refine ⟨mb, h1, h2, fun b hb => ⟨(h3 b hb).1, .inl ?_⟩⟩
    rcases (h3 b hb).2 with h | ⟨_, h, _⟩
    · exact h
    · cases h
  ndist := hs.ndist

/-- append onto a row of one's own -/
theorem app_own (hT : TOK P T) {ctx : Ctx} {m : MM} {h : Nat → Option HO} {w : World} {t ty e : TypeId} {k : IntKind} {sz n len base id szo : Nat} {val dv : Value} {l q : List Int} (hH : HRel cmp ctx m h w) (ht : P.underlying t = some (.slice e)) (hi : intsT T e = some (k, sz))
    (hby : ∀ i, P.info? e = some i → i.bytes ≤ 1000) (hn : len + n ≤ 1000000000) (hm : m base = none) (hid : h id = some ⟨false, .ivec e k szo l⟩) (hdv : TR m (.av (.s (.sl id 0 sz len))) dv) (hlen : len * sz ≤ l.length)
    (hszo : szo = sz)
    (hsrc : (val = .slice none 0 0 ∧ n = 0 ∧ q = []) ∨ ∃ ad c, val = .slice (some ad) n c ∧ q.length = n * sz ∧ ∀ j u, (q.map (Value.int k))[j]? = some u → w.cell? (ad.add j) = some u) :
    ∃ v' w' mb, (Builtin.append_ #[t, t] ty #[dv, val]).run P w = .ok v' w' ∧ TR (m.put base mb) (.av (.s (.sl base 0 sz (len + n)))) v' ∧ Stp cmp m (m.put base mb) w w' [(id, ⟨false, .gone⟩)] base [⟨false, .ivec e k sz (l.take (len * sz) ++ q)⟩] := by
  subst hszo
  obtain ⟨mb, hmid, hcap, hdv⟩ := hdv
  obtain ⟨mb', hmid', hor, _⟩ := hH.obj id _ hid
  rw [hmid] at hmid'
  cases hmid'
  rcases hdv with ⟨h1, rfl, _, rfl, h5⟩ | ⟨b, o', hb, hdv, ho'⟩
  · obtain ⟨v', w', mbn, g1, g2, g3⟩ := app_nil (cmp := cmp) (ty := ty) hT ht hi hby (by omega) hm hsrc
    refine ⟨v', w', mbn, g1, by simpa using g2, ?_⟩
    simpa using g3.withGone hH hid
  · have hoo : o' = 0 := by
      rcases hor with ⟨g1, _⟩ | ⟨_, _, g1, g2, _⟩
      · rw [hb] at g1; cases g1
      · rcases ho' with h | h <;> omega
    subst hoo
    obtain ⟨i, zv, i1, i2, i3, i4⟩ := intsT_zero hT hi
    subst i2
    have hbi := hby i i1
    rcases hor with ⟨g1, _⟩ | ⟨b', cur, g1, g2, g3, g4, g5, g6⟩
    · rw [hb] at g1; cases g1
    · rw [hb] at g1
      cases g1
      rw [Nat.sub_zero] at hdv
      have hcur : len * i.size ≤ cur.size := by
        rw [g4]
        exact Nat.mul_le_mul_right _ (by omega)
      have htake : cur.toList.take (len * i.size) = (l.take (len * i.size)).map (Value.int k) := by
        apply List.ext_getElem?
        intro j
        by_cases hj : j < len * i.size
        · have := g6 j (by omega)
          have hjl : j < l.length := by omega
          simp only [List.getElem?_take, if_pos hj, List.getElem?_map]
          rw [show cur.toList[j]? = cur[j]? by simp, this]
          simp [List.getD, hjl]
        · rw [List.getElem?_take, if_neg hj, List.getElem?_eq_none (by simp; omega)]
      by_cases hroom : len + n ≤ mb.cap
      · -- in place
        have hql : q.length = n * i.size := by
          rcases hsrc with ⟨_, h2, h3⟩ | ⟨_, _, _, h, _⟩
          · rw [h2, h3]; simp
          · exact h
        have hfit : len * i.size + (q.map (Value.int k)).length ≤ cur.size := by
          rw [List.length_map, hql, g4, ← Nat.add_mul]
          exact Nat.mul_le_mul_right _ hroom
        have hrun : (Builtin.append_ #[t, t] ty #[dv, val]).run P w = .ok (.slice (some ⟨b, 0, none⟩) (len + n) mb.cap) (w.setRow b (cur.toList.take (len * i.size) ++ q.map (Value.int k) ++ cur.toList.drop (len * i.size + (q.map (Value.int k)).length)).toArray) := by
          rw [hdv]
          rcases hsrc with ⟨rfl, h2, h3⟩ | ⟨ad, c, rfl, _, hqc⟩
          · subst h2
            subst h3
            have hself := setRow_self w b cur e (0, 0) g3
            simp [Builtin.append_, run_underlying ht, sizeOf, typeInfo, i1, Builtin.lenOf, Builtin.firstCells, storeCells, hself]
            intro hlt
            omega
          · exact run_append_room w t ty e i ht i1 b len mb.cap cur g3 ad n c _ (by simpa using hql) hqc (map_int_one k q) hroom hfit
        refine ⟨_, _, ⟨some b, 0, mb.cap⟩, hrun, ⟨_, m.put_same _ _, by simpa using hroom, .inr ⟨b, 0, rfl, rfl, .inr (by simp)⟩⟩, ?_⟩
        have hw := Wr.setRow w b (cur.toList.take (len * i.size) ++ q.map (Value.int k) ++ cur.toList.drop (len * i.size + (q.map (Value.int k)).length)).toArray
        exact {
          ext := MM.le_put hm
          dom := fun id x h => by
            unfold MM.put at h
            split at h
            · rename_i e'; exact .inr ⟨by omega, by simp; omega⟩
            · exact .inl h
          size := Nat.le_of_eq hw.size.symm
          same := fun b' _ hne => hw.other b' fun e => hne (id, ⟨false, .gone⟩) (by simp) mb hmid (by rw [hb, e])
          os := rfl
          tape := rfl
          output := rfl
          upd := fun u hu => by
            simp at hu
            subst hu
            exact ⟨mb, hmid, trivial⟩
          new := fun k' ho' h => by
            cases k' with
            | zero =>
              simp at h
              subst h
              refine ⟨_, m.put_same base _, .inr ⟨b, _, rfl, rfl, setRow_heap w b cur _ e (0, 0) g3, ?_, g5, fun j hj => ?_⟩, fun b' hb' => ?_⟩
              · simp only [List.size_toArray, List.length_append, List.length_take, List.length_drop, Array.length_toList]
                omega
              · rw [htake, ← List.map_append, List.getElem?_toArray, List.getElem?_append_left (by simpa using hj)]
                simp only [List.getElem?_map, List.getD]
                rw [List.getElem?_eq_getElem hj]
                rfl
              · cases hb'
                refine ⟨?_, .inr ⟨(id, ⟨false, .gone⟩), by simp, rfl, mb, hmid, hb⟩⟩
                rw [hw.size]
                exact (Array.getElem?_eq_some_iff.1 g3).1
            | succ k' => simp at h
          ndist := fun k k' _ _ _ h h' hne => by simp at h h'; omega }
      · -- it grows
        rcases hsrc with ⟨_, h2, _⟩ | ⟨ad, c, rfl, hql, hqc⟩
        · omega
        · have hbytes : (len + n) * i.bytes ≤ 1000000000 * 1000 := Nat.mul_le_mul hn hbi
          have holds : ∀ j u, ((l.take (len * i.size)).map (Value.int k))[j]? = some u → w.cell? ((⟨b, 0, none⟩ : Addr).add j) = some u := by
            intro j u hu
            rw [← htake, List.getElem?_take] at hu
            split at hu
            · rw [addr_add, Nat.zero_add, cell_atA g3]
              simpa using hu
            · cases hu
          have hr := run_append_grow (P := P) w t ty e i zv ht i1 i3 ⟨b, 0, none⟩ len mb.cap _ (by simp; omega) holds ad n c (q.map (Value.int k)) (by simpa using hql) hqc (by omega) (by omega) (growslice_fits (by omega) (by omega))
          rw [hdv]
          refine ⟨_, _, ⟨some w.heap.size, 0, grownCap w (len + n) mb.cap e⟩, hr, ⟨_, m.put_same _ _, by simpa using grownCap_ge w (len + n) mb.cap e, .inr ⟨_, 0, rfl, rfl, .inr (by simp)⟩⟩, ?_⟩
          refine Stp.withGone hH hid (Stp.new1 hm rfl rfl rfl rfl rfl (.inr ⟨_, _, rfl, rfl, heap_alloc_new w.drew _, ?_, grownCap_le_maxLen w (len + n) mb.cap e (by unfold maxLen; omega), fun j hj => ?_⟩))
          · have hge := grownCap_ge w (len + n) mb.cap e
            simp only [Array.size_append, List.size_toArray, size_zeroCells, i4, List.length_map, List.length_replicate, List.length_take, hql]
            rw [Nat.min_eq_left hlen, ← Nat.add_mul, ← Nat.add_mul]
            congr 1
            show len + n + (grownCap w (len + n) mb.cap e - (len + n)) = grownCap w (len + n) mb.cap e
            omega
          · rw [Array.getElem?_append_left (by simpa using hj)]
            simp only [List.append_toArray, ← List.map_append, List.getElem?_toArray, List.getElem?_map, List.getD]
            rw [List.getElem?_eq_getElem hj]
            rfl

theorem snd_app (hT : TOK P T) {o : Oper} {c : Call} {t e' : TypeId} {y z : Operand} {y' z' : XO} {k : IntKind} {n : Nat} {s b : Nat} {zz : Option AV} {ti : TI} (ho : o.op = .call c) (hcal : c.callee = .builtin .append) (hargs : c.args = #[y, z]) (hat : c.argTypes = #[t, t])
    (ht : T t = some ⟨.slice e', s, b, zz⟩) (hi : intsT T e' = some (k, n)) (hti : T e' = some ti) (hby : ti.bytes ≤ 1000) (hc : cO y = some y') (hz : cO z = some z') : Snd P cmp r Γ o (.app e' k n y' z') := by
  intro ctx m hp w a ev base e K Q hE hH hfr hup hx hvc hK
  have hv := hE y y' hc (by simp [need, XI.opnds])
  have hzv := hE z z' hz (by simp [need, XI.opnds])
  have hbb : ∀ i, P.info? e' = some i → i.bytes ≤ 1000 := by
    intro i hi'
    obtain ⟨i', h1, _, h2, _⟩ := hT.info e' ti hti
    rw [hi'] at h1
    cases h1
    omega
  have hex : ∀ {v' : Value} {w' : World}, (Builtin.append_ #[t, t] o.type #[a.eval y, a.eval z]).run P w = .ok v' w' → (execOp a.eval o).run P w = .ok (.value v') w' := fun hr => by
    simp [execOp, ho, resolve, hcal, invoke, builtin, hargs, hat, hr]
  simp only [xi] at hx
  split at hx
  case h_2 => cases hx
  rename_i vc q nn rd hsrc
  split at hx
  · rename_i hnil
    simp only [Option.some.injEq] at hx
    subst hx
    simp only [Bool.and_eq_true, bndL, decide_eq_true_eq] at hvc
    have hs := src_snd hH hsrc hvc.1 hzv
    rw [hnil] at hv
    have hyv : a.eval y = .slice none 0 0 := hv
    rw [hyv] at hex
    obtain ⟨v', w', mb, g1, g2, g3⟩ := app_nil (cmp := cmp) (ty := o.type) hT (T_und hT ht) hi hbb hvc.2 (hH.dom base (by simpa using hfr 0 (by simp))) hs
    exact wpI (by simp [ho]) (hex g1) (hK _ _ _ g2 g3)
  · rename_i id off szz len hsl
    split at hx
    case h_2 => cases hx
    rename_i ty' k' szo l hid
    split at hx
    case isFalse => cases hx
    rename_i hcond
    obtain ⟨rfl, rfl, rfl, rfl, hszo⟩ := hcond
    simp only [Option.some.injEq] at hx
    subst hx
    simp only [Bool.and_eq_true, bndL, decide_eq_true_eq] at hvc
    have hs := src_snd hH hsrc hvc.1.1 hzv
    rw [hsl] at hv
    obtain ⟨v', w', mb, g1, g2, g3⟩ := app_own (cmp := cmp) (ty := o.type) hT hH (T_und hT ht) hi hbb hvc.2 (hH.dom base (by simpa using hfr 0 (by simp))) hid hv hvc.1.2 hszo hs
    exact wpI (by simp [ho]) (hex g1) (hK _ _ _ g2 g3)
  · cases hx

end
end Go.Proofs.Yteekkjfjpoaihaa.Eng

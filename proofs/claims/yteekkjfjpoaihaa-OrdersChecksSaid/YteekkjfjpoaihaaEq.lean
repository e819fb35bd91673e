/- The engine, part 17: a region of either kind is sound. -/
import Derived.Test.YteekkjfjpoaihaaEp
set_option linter.all false
namespace Go.Proofs.Yteekkjfjpoaihaa.Eng
open Go

section
variable {P : Program} {T : Tab} {cmp : Cmp} {r : Option Nat} {Γ : Cal → Option Spec}

/-- the state behind the run, as functions -/
theorem app_get (S : St) (e : Ef) : (S.app e).sl.get = setF S.sl.get e.dst e.s ∧ (S.app e).hp.get = newH (upH S.hp.get e.upd) e.base e.news := by
  simp only [St.app]
  exact ⟨setDst_get _ _ _, by rw [setNews_get, setAll_get]⟩

theorem xops_run {b0 : Nat} : ∀ {xs : List XOp} {S S' : St} {E : List Ef}, xops Γ b0 xs S = some (true, S', E) →
    E.length = xs.length ∧ (∀ i x, xs[i]? = some x → ∃ e, E[i]? = some e ∧ xopF Γ b0 x (apS (fun k => decide (k < i)) E S.sl.get) (apH (fun k => decide (k < i)) E S.hp.get) = some (true, e)) ∧
    S'.sl.get = apS (fun _ => true) E S.sl.get ∧ S'.hp.get = apH (fun _ => true) E S.hp.get ∧ S'.nx = S.nx ∧ S'.df = S.df
  | [], S, S', E, h => by
    simp only [xops_nil, Option.some.injEq, Prod.mk.injEq] at h
    obtain ⟨_, rfl, rfl⟩ := h
    exact ⟨rfl, fun i x hi => by simp at hi, rfl, rfl, rfl, rfl⟩
  | x :: xs, S, S', E, h => by
    simp only [xops_cons] at h
    split at h
    case h_2 => cases h
    rename_i v e hx
    split at h
    case h_2 => cases h
    rename_i v' S'' l hr
    simp only [Option.some.injEq, Prod.mk.injEq, Bool.and_eq_true] at h
    obtain ⟨⟨rfl, rfl⟩, rfl, rfl⟩ := h
    obtain ⟨h1, h2, h3, h4, h5, h6⟩ := xops_run hr
    obtain ⟨g1, g2⟩ := app_get S e
    rw [g1] at h2 h3
    rw [g2] at h2 h4
    refine ⟨by simp [h1], ?_, ?_, ?_, h5, h6⟩
    · intro i y hi
      cases i with
      | zero =>
        simp only [List.getElem?_cons_zero, Option.some.injEq] at hi
        subst hi
        refine ⟨e, rfl, ?_⟩
        rw [apS_none _ _ _ (fun k => by simp), apH_none _ _ _ (fun k => by simp)]
        exact hx
      | succ i =>
        obtain ⟨e', q1, q2⟩ := h2 i y (by simpa using hi)
        refine ⟨e', by simpa using q1, ?_⟩
        simp only [apS, apH]
        have hf : (fun k => decide (k + 1 < i + 1)) = fun k => decide (k < i) := by funext k; simp
        rw [hf]
        simpa using q2
    · rw [h3]; rfl
    · rw [h4]; rfl

/-- in the text's order -/
theorem reg_snd (hT : TOK P T) (hQ : EQOK P) (hG : GamOK P cmp Γ) (hB : ∀ f sp, Γ (.f f) = some sp → Bodied P f) {nt : Nat} {ops : List Oper} {b0 : Nat} {ctx : Ctx} {df : List Nat} {Q : Exit → Act → World → Prop} :
    ∀ {xs : List XOp} {k : Nat} {S S' : St} {E : List Ef} {m : MM} {a : Act} {w : World}, k + xs.length = ops.length →
    (∀ (i : Nat) (o : Oper), ops[k + i]? = some o → ∃ x : XOp, xs[i]? = some x ∧ compOp T o = some x.x ∧ x.dst = o.dst ∧ guardOf ops o = some x.g ∧ (∀ t, x.dst = some t → t < nt)) →
    xops Γ b0 xs S = some (true, S', E) → RelF cmp ctx nt m S.sl.get S.hp.get df a w →
    (∀ a' w' m', m.le m' → RelF cmp ctx nt m' S'.sl.get S'.hp.get df a' w' → Q .normal a' w') → wpOpsIn (FR r) 0 P ops.toArray Q (List.range' k xs.length) a w
  | [], k, S, S', E, m, a, w, hk, hs, hx, hR, hQ' => by
    simp only [xops_nil, Option.some.injEq, Prod.mk.injEq] at hx
    obtain ⟨_, rfl, rfl⟩ := hx
    exact hQ' a w m m.le_refl hR
  | x :: xs, k, S, S', E, m, a, w, hk, hs, hx, hR, hQ' => by
    have hlt : k < ops.length := by simp at hk; omega
    have hok : ops[k]? = some ops[k] := by simp [hlt]
    obtain ⟨x', h1, h2, h3, h4, h5⟩ := hs 0 ops[k] (by simpa using hok)
    simp only [List.getElem?_cons_zero, Option.some.injEq] at h1
    subst h1
    simp only [xops_cons] at hx
    split at hx
    case h_2 => cases hx
    rename_i v e hxe
    split at hx
    case h_2 => cases hx
    rename_i v' S'' l hr
    simp only [Option.some.injEq, Prod.mk.injEq, Bool.and_eq_true] at hx
    obtain ⟨⟨rfl, rfl⟩, rfl, rfl⟩ := hx
    simp only [List.length_cons, List.range'_succ, wpOpsIn]
    have : ops.toArray[k]? = some ops[k] := by simpa using hok
    rw [this]
    refine op_snd (comp_snd hT hQ hG hB h2) hxe rfl hR h3 h5 h4 fun a' w' m' hm hR' => ?_
    obtain ⟨g1, g2⟩ := app_get S e
    rw [xopF_dst hxe] at g1
    rw [← g1, ← g2] at hR'
    refine reg_snd hT hQ hG hB (by simp at hk ⊢; omega) (fun i o hi => ?_) hr hR' fun a'' w'' m'' hm' hR'' => hQ' a'' w'' m'' (MM.le_trans hm hm') hR''
    have := hs (i + 1) o (by rw [show k + (i + 1) = k + 1 + i by omega]; exact hi)
    simpa using this

/-! ### the orders that the edges leave open -/

theorem ancs_spec : ∀ (l : List Oper) (acc : List (List Nat)), acc.length ≤ (ancs l acc).length ∧ (∀ j, j < acc.length → (ancs l acc)[j]? = acc[j]?) ∧
    ∀ i o, l[i]? = some o → ∃ s, (ancs l acc)[acc.length + i]? = some s ∧ ∀ k ∈ s, ∃ e ∈ o.after.toList, bindsE e = true ∧ (k = e.on ∨ (e.on < acc.length + i ∧ k ∈ (ancs l acc).getD e.on []))
  | [], acc => ⟨Nat.le_refl _, fun _ _ => rfl, fun i o h => by simp at h⟩
  | o :: l, acc => by
    simp only [ancs]
    generalize hs : (o.after.toList.filter bindsE |>.map (·.on)).foldl (fun s j => if s.contains j then s else j :: (acc.getD j []).foldl (fun s k => if s.contains k then s else k :: s) s) [] = s
    obtain ⟨h1, h2, h3⟩ := ancs_spec l (acc ++ [s])
    have hl : (acc ++ [s]).length = acc.length + 1 := by simp
    refine ⟨by omega, fun j hj => ?_, fun i o' hi => ?_⟩
    · rw [h2 j (by omega), List.getElem?_append_left hj]
    · have old : ∀ j, j < acc.length → (ancs l (acc ++ [s])).getD j [] = acc.getD j [] := fun j hj => by
        rw [List.getD_eq_getElem?_getD, List.getD_eq_getElem?_getD, h2 j (by omega), List.getElem?_append_left hj]
      cases i with
      | zero =>
        simp only [List.getElem?_cons_zero, Option.some.injEq] at hi
        subst hi
        refine ⟨s, by rw [Nat.add_zero, h2 _ (by omega)]; simp, fun k hk => ?_⟩
        rw [← hs] at hk
        have inner : ∀ (q : List Nat) (s0 : List Nat) k, k ∈ q.foldl (fun s k => if s.contains k then s else k :: s) s0 → k ∈ s0 ∨ k ∈ q := by
          intro q
          induction q with
          | nil => intro s0 k hk; exact .inl hk
          | cons y q ih =>
            intro s0 k hk
            simp only [List.foldl_cons] at hk
            rcases ih _ k hk with h | h
            · split at h
              · exact .inl h
              · rcases List.mem_cons.1 h with rfl | h
                · exact .inr (by simp)
                · exact .inl h
            · exact .inr (by simp [h])
        have outer : ∀ (q : List Nat) (s0 : List Nat) k, k ∈ q.foldl (fun s j => if s.contains j then s else j :: (acc.getD j []).foldl (fun s k => if s.contains k then s else k :: s) s) s0 → k ∈ s0 ∨ ∃ j ∈ q, k = j ∨ k ∈ acc.getD j [] := by
          intro q
          induction q with
          | nil => intro s0 k hk; exact .inl hk
          | cons y q ih =>
            intro s0 k hk
            simp only [List.foldl_cons] at hk
            rcases ih _ k hk with h | ⟨j, hj, h⟩
            · split at h
              · exact .inl h
              · rcases List.mem_cons.1 h with rfl | h
                · exact .inr ⟨_, by simp, .inl rfl⟩
                · rcases inner _ _ k h with h | h
                  · exact .inl h
                  · exact .inr ⟨y, by simp, .inr h⟩
            · exact .inr ⟨j, by simp [hj], h⟩
        rcases outer _ _ k hk with h | ⟨j, hj, h⟩
        · cases h
        · obtain ⟨e, he, rfl⟩ := List.mem_map.1 hj
          rw [List.mem_filter] at he
          refine ⟨e, he.1, he.2, h.imp_right fun h => ?_⟩
          by_cases hlt : e.on < acc.length
          · exact ⟨by omega, by rw [old _ hlt]; exact h⟩
          · rw [List.getD_eq_getElem?_getD, List.getElem?_eq_none (by omega)] at h
            simp at h
      | succ i =>
        obtain ⟨s', g1, g2⟩ := h3 i o' (by simpa using hi)
        rw [hl] at g1 g2
        refine ⟨s', by rw [← g1]; congr 1; omega, fun k hk => ?_⟩
        obtain ⟨e, q1, q2, q3⟩ := g2 k hk
        exact ⟨e, q1, q2, q3.imp_right fun h => ⟨by omega, h.2⟩⟩

/-- done operations: what binds them is done too -/
def Closed (ops : List Oper) (D : Nat → Bool) : Prop := ∀ j o, ops[j]? = some o → D j = true → ∀ e ∈ o.after.toList, bindsE e = true → D e.on = true

theorem anc_in {ops : List Oper} {D : Nat → Bool} (hD : Closed ops D) : ∀ (j : Nat) (o : Oper), ops[j]? = some o → (∀ e ∈ o.after.toList, bindsE e = true → D e.on = true) → ∀ k ∈ (ancs ops []).getD j [], D k = true := by
  intro j
  induction j using Nat.strongRecOn with
  | _ j ih =>
    intro o ho he k hk
    obtain ⟨s, h1, h2⟩ := (ancs_spec ops []).2.2 j o ho
    simp only [List.length_nil, Nat.zero_add] at h1 h2
    rw [List.getD_eq_getElem?_getD, h1] at hk
    obtain ⟨e, q1, q2, rfl | ⟨q3, q4⟩⟩ := h2 k hk
    · exact he e q1 q2
    · have hlt : e.on < ops.length := Nat.lt_trans q3 (List.getElem?_eq_some_iff.1 ho).1
      have hoe : ops[e.on]? = some ops[e.on] := by simp [hlt]
      exact ih e.on q3 _ hoe (hD e.on _ hoe (he e q1 q2)) k q4

theorem anc_lt {ops : List Oper} (hf : fwdOk ops = true) (j : Nat) (o : Oper) (ho : ops[j]? = some o) : ∀ k ∈ (ancs ops []).getD j [], k < j := by
  have fwd : ∀ (i : Nat) (o : Oper), ops[i]? = some o → ∀ e ∈ o.after.toList, bindsE e = true → e.on < i := by
    intro i o hi e he hb
    have := List.all_eq_true.1 hf i (List.mem_range.2 (List.getElem?_eq_some_iff.1 hi).1)
    rw [hi] at this
    have := List.all_eq_true.1 this e he
    simpa [hb] using this
  intro k hk
  have hcl : Closed ops fun i => decide (i < j) := by
    intro i o hi hd e he hb
    simp only [decide_eq_true_eq] at hd ⊢
    exact Nat.lt_trans (fwd i o hi e he hb) hd
  have := anc_in hcl j o ho (fun e he hb => by simpa using fwd j o ho e he hb) k hk
  simpa using this

theorem cnt_add (D : Nat → Bool) (i : Nat) (hD : D i = false) : ∀ (l : List Nat), l.Nodup → i ∈ l → l.countP (fun k => !(k == i || D k)) + 1 = l.countP (fun k => !D k)
  | [], _, h => by cases h
  | x :: l, hn, hm => by
    rw [List.nodup_cons] at hn
    rw [List.countP_cons, List.countP_cons]
    by_cases hx : x = i
    · subst hx
      have : l.countP (fun k => !(k == x || D k)) = l.countP (fun k => !D k) := by
        refine List.countP_congr fun k hk => ?_
        have : (k == x) = false := by
          rw [beq_eq_false_iff_ne]; rintro rfl; exact hn.1 hk
        simp [this]
      rw [this]; simp [hD]
    · have hm' : i ∈ l := (List.mem_cons.1 hm).resolve_left fun e => hx e.symm
      have := cnt_add D i hD l hn.2 hm'
      have hxi : (x == i) = false := by rw [beq_eq_false_iff_ne]; exact hx
      simp only [hxi, Bool.false_or]
      omega

theorem pairs_mem {n : Nat} {bad : Nat → Nat → Bool} {i j : Nat} (hij : i < j) (hj : j < n) (hb : bad i j = true) : (i, j) ∈ pairs n bad := by
  unfold pairs
  rw [List.mem_flatMap]
  exact ⟨j, List.mem_range.2 hj, List.mem_map.2 ⟨i, List.mem_filter.2 ⟨List.mem_range.2 hij, hb⟩, rfl⟩⟩

theorem disjL_spec {a b : List Nat} (h : disjL a b = true) : ∀ x ∈ a, x ∉ b := by
  intro x hx hb
  have := List.all_eq_true.1 (List.all_eq_true.1 h x hx) x hb
  simp at this

theorem disjO_spec {a : List Nat} {b : Option (List Nat)} (h : disjO a b = true) : ∀ x ∈ a, ∃ l, b = some l ∧ x ∉ l := by
  intro x hx
  cases b with
  | none => simp only [disjO, List.isEmpty_iff] at h; subst h; cases hx
  | some l => exact ⟨l, rfl, disjL_spec h x hx⟩

theorem RelF.weak {ctx : Ctx} {nt : Nat} {m : MM} {sl : Nat → Option Slot} {hp : Nat → Option HO} {df : List Nat} {a : Act} {w : World} {d : Option Nat} {s s' : Slot} (h : RelF cmp ctx nt m (setF sl d s) hp df a w) (hs : s = s' ∨ (s.c = false ∧ s'.c = false)) : RelF cmp ctx nt m (setF sl d s') hp df a w := by
  rcases hs with rfl | ⟨h1, h2⟩
  · exact h
  refine ⟨fun t q hq => ?_, h.size, h.heap, h.df⟩
  cases d with
  | none => exact h.slot t q hq
  | some d =>
    simp only [setF] at hq
    split at hq
    · rename_i e
      subst e
      cases hq
      have := h.slot t s (by simp [setF])
      exact ⟨fun e => (by rw [h2] at e; cases e), fun _ => this.2 h1⟩
    · rename_i e
      exact h.slot t q (by simp only [setF, if_neg e]; exact hq)

/-- a region that draws its order -/
theorem regD_snd (hT : TOK P T) (hQ : EQOK P) (hG : GamOK P cmp Γ) (hB : ∀ f sp, Γ (.f f) = some sp → Bodied P f) (hFp : GamFp Γ) {nt : Nat} {ops : List Oper} {b0 : Nat} {ctx : Ctx} {df : List Nat} {Q : Exit → Act → World → Prop}
    {xs : List XOp} {S S' : St} {E : List Ef} {m : MM} {a : Act} {w : World} (hlen : xs.length = ops.length)
    (hspec : ∀ (i : Nat) (o : Oper), ops[i]? = some o → ∃ x : XOp, xs[i]? = some x ∧ compOp T o = some x.x ∧ x.dst = o.dst ∧ guardOf ops o = some x.g ∧ (∀ t, x.dst = some t → t < nt))
    (hf : fwdOk ops = true) (hs : slotsOk xs (ancs ops []) = true) (hx : xops Γ b0 xs S = some (true, S', E))
    (hchk : (pairs xs.length fun i j => !((ancs ops []).getD j []).contains i && (match xs[i]?, xs[j]? with | some a, some b => clash a.x b.x | _, _ => false)).all (okAt E) = true)
    (hR : RelF cmp ctx nt m S.sl.get S.hp.get df a w) (hQ' : ∀ a' w' m', m.le m' → RelF cmp ctx nt m' S'.sl.get S'.hp.get df a' w' → Q .normal a' w') :
    wpAnyIn (FR r) 0 P .any ops.toArray Q ops.length (Array.replicate ops.length false) a w := by
  obtain ⟨r1, r2, r3, r4, -, -⟩ := xops_run hx
  have fwd : ∀ (i : Nat) (o : Oper), ops[i]? = some o → ∀ e ∈ o.after.toList, bindsE e = true → e.on < i := by
    intro i o hi e he hb
    have := List.all_eq_true.1 hf i (List.mem_range.2 (List.getElem?_eq_some_iff.1 hi).1)
    rw [hi] at this
    have := List.all_eq_true.1 this e he
    simpa [hb] using this
  -- the slots
  have slots : ∀ i j x p d, xs[j]? = some x → xs[i]? = some p → p.dst = some d → (i = j ∨ x.dst ≠ some d) ∧ (d ∈ x.looks → i = j ∨ i ∈ (ancs ops []).getD j [] ∨ j ∈ (ancs ops []).getD i []) := by
    intro i j x p d hj hi hd
    have := List.all_eq_true.1 hs j (List.mem_range.2 (List.getElem?_eq_some_iff.1 hj).1)
    rw [hj] at this
    have := List.all_eq_true.1 this i (List.mem_range.2 (List.getElem?_eq_some_iff.1 hi).1)
    rw [hi] at this
    simp only [hd, Bool.and_eq_true, Bool.or_eq_true, Bool.not_eq_true', beq_iff_eq, bne_iff_ne, List.contains_iff_mem] at this
    refine ⟨this.1, fun hm => ?_⟩
    rcases this.2 with ((h | h) | h) | h
    · have := List.contains_iff_mem.2 hm
      rw [this] at h; cases h
    · exact .inl h
    · exact .inr (.inl h)
    · exact .inr (.inr h)
  -- two operations that are not bound
  have free : ∀ i j e e', i < j → E[i]? = some e → E[j]? = some e' → i ∉ (ancs ops []).getD j [] → (∀ id ∈ e.tch, ¬ e'.inFp id ∧ id ∉ e'.tch) ∧ (∀ id ∈ e'.tch, ¬ e.inFp id ∧ id ∉ e.tch) := by
    intro i j e e' hij hi hj ha
    have hjn : j < xs.length := by rw [← r1]; exact (List.getElem?_eq_some_iff.1 hj).1
    have hxi : xs[i]? = some xs[i] := by simp
    have hxj : xs[j]? = some xs[j] := by simp [hjn]
    obtain ⟨e1, g1, g2⟩ := r2 i _ hxi
    obtain ⟨e2, g3, g4⟩ := r2 j _ hxj
    rw [hi] at g1; cases g1
    rw [hj] at g3; cases g3
    cases hc : clash xs[i].x xs[j].x with
    | true =>
      have := List.all_eq_true.1 hchk (i, j) (pairs_mem hij hjn (by
        rw [hxi, hxj]
        simp only [hc, Bool.and_true, Bool.not_eq_true']
        rw [← Bool.not_eq_true]
        exact fun h => ha (List.contains_iff_mem.1 h)))
      unfold okAt at this
      rw [hi, hj] at this
      simp only [okEf, Bool.and_eq_true] at this
      obtain ⟨⟨k1, k2⟩, k3⟩ := this
      refine ⟨fun id hid => ⟨fun hf => ?_, disjL_spec k1 id hid⟩, fun id hid => ⟨fun hf => ?_, fun h => disjL_spec k1 id h hid⟩⟩
      · obtain ⟨l, q1, q2⟩ := disjO_spec k2 id hid
        unfold Ef.inFp at hf
        rw [q1] at hf
        exact hf.elim q2 (disjL_spec k1 id hid)
      · obtain ⟨l, q1, q2⟩ := disjO_spec k3 id hid
        unfold Ef.inFp at hf
        rw [q1] at hf
        exact hf.elim q2 fun h => disjL_spec k1 id h hid
    | false =>
      have cases3 : opClass xs[i].x = 0 ∨ opClass xs[j].x = 0 ∨ (opClass xs[i].x = 1 ∧ opClass xs[j].x = 1) := by
        unfold clash at hc
        split at hc
        · exact .inl ‹_›
        · exact .inr (.inl ‹_›)
        · exact .inr (.inr ⟨‹_›, ‹_›⟩)
        · cases hc
      rcases cases3 with h | h | ⟨h, h'⟩
      · obtain ⟨q1, q2⟩ := xopF_cls0 g2 h
        rw [q1]
        refine ⟨fun id hid => (by cases hid), fun id hid => ⟨fun hf => ?_, fun h => (by cases h)⟩⟩
        unfold Ef.inFp at hf
        rw [q2, q1] at hf
        simp at hf
      · obtain ⟨q1, q2⟩ := xopF_cls0 g4 h
        rw [q1]
        refine ⟨fun id hid => ⟨fun hf => ?_, fun h => (by cases h)⟩, fun id hid => (by cases hid)⟩
        unfold Ef.inFp at hf
        rw [q2, q1] at hf
        simp at hf
      · rw [xopF_cls1 g2 h, xopF_cls1 g4 h']
        exact ⟨fun id hid => (by cases hid), fun id hid => (by cases hid)⟩
  have main : ∀ (fuel : Nat) (listed : Array Bool) (m' : MM) (a : Act) (w : World), listed.size = ops.length → m.le m' → Closed ops (fun k => listed.getD k false) → (List.range ops.length).countP (fun k => !listed.getD k false) = fuel →
      RelF cmp ctx nt m' (apS (fun k => listed.getD k false) E S.sl.get) (apH (fun k => listed.getD k false) E S.hp.get) df a w → wpAnyIn (FR r) 0 P .any ops.toArray Q fuel listed a w := by
    intro fuel
    have done : ∀ (listed : Array Bool) (m' : MM) (a : Act) (w : World), m.le m' → (∀ k, k < ops.length → listed.getD k false = true) → RelF cmp ctx nt m' (apS (fun k => listed.getD k false) E S.sl.get) (apH (fun k => listed.getD k false) E S.hp.get) df a w → Q .normal a w := by
      intro listed m' a w hm hall hR
      refine hQ' a w m' hm ?_
      have h1 : apS (fun k => listed.getD k false) E S.sl.get = apS (fun _ => true) E S.sl.get := by
        funext t
        exact apS_congr E _ _ _ _ t (fun i e hi _ => hall i (by rw [← hlen, ← r1]; exact (List.getElem?_eq_some_iff.1 hi).1)) rfl
      have h2 : apH (fun k => listed.getD k false) E S.hp.get = apH (fun _ => true) E S.hp.get := by
        funext t
        exact apH_congr E _ _ _ _ t (fun i e hi _ => hall i (by rw [← hlen, ← r1]; exact (List.getElem?_eq_some_iff.1 hi).1)) rfl
      rw [h1, h2, ← r3, ← r4] at hR
      exact hR
    induction fuel with
    | zero =>
      intro listed m' a w hsz hm hcl hcnt hR
      have hall : ∀ k, k < ops.length → listed.getD k false = true := by
        intro k hk
        rw [List.countP_eq_zero] at hcnt
        simpa using hcnt k (List.mem_range.2 hk)
      refine ⟨?_, done listed m' a w hm hall hR⟩
      rw [List.eq_nil_iff_forall_not_mem]
      intro j hj
      obtain ⟨h1, o, h2, _⟩ := mem_ready.1 hj
      have hlt : j < ops.length := by simpa using (Array.getElem?_eq_some_iff.1 h2).1
      have := hall j hlt
      simp [hsz, hlt] at h1 this
      rw [h1] at this
      cases this
    | succ fuel ih =>
      intro listed m' a w hsz hm hcl hcnt hR
      refine ⟨fun hr => done listed m' a w hm ?_ hR, fun i hi => ?_⟩
      · intro k
        induction k using Nat.strongRecOn with
        | _ k ihk =>
          intro hk
          cases hd : listed.getD k false with
          | true => rfl
          | false =>
            exfalso
            have : k ∈ Region.ready .any ops.toArray listed := by
              refine mem_ready.2 ⟨?_, ops[k], by simp [hk], fun e he hb => ?_⟩
              · simp [hsz, hk] at hd ⊢
                exact hd
              · have hlt := fwd k ops[k] (by simp [hk]) e (by simpa using he) hb
                exact ihk e.on hlt (Nat.lt_trans hlt hk)
            rw [hr] at this
            cases this
      · obtain ⟨hi1, o, hi2, hi3⟩ := mem_ready.1 hi
        have hio : ops[i]? = some o := by simpa using hi2
        have hin : i < ops.length := (List.getElem?_eq_some_iff.1 hio).1
        have hDi : listed.getD i false = false := by
          simp [hsz, hin] at hi1 ⊢
          exact hi1
        have hafter : ∀ e ∈ o.after.toList, bindsE e = true → listed.getD e.on false = true := fun e he hb => hi3 e (by simpa using he) hb
        obtain ⟨x, q1, q2, q3, q4, q5⟩ := hspec i o hio
        obtain ⟨e, p1, p2⟩ := r2 i x q1
        -- who is done before whom
        have agree : ∀ j e', E[j]? = some e' → j ≠ i → (j < i → listed.getD j false = false → j ∉ (ancs ops []).getD i []) ∧ (i < j → listed.getD j false = true → i ∉ (ancs ops []).getD j []) := by
          intro j e' hj hne
          refine ⟨fun _ hd ha => ?_, fun _ hd ha => ?_⟩
          · rw [anc_in hcl i o hio hafter j ha] at hd; cases hd
          · have hjn : j < ops.length := by rw [← hlen, ← r1]; exact (List.getElem?_eq_some_iff.1 hj).1
            have hjo : ops[j]? = some ops[j] := by simp [hjn]
            have := anc_in hcl j _ hjo (fun e he hb => hcl j _ hjo hd e he hb) i ha
            rw [this] at hDi; cases hDi
        obtain ⟨e2, s1, s2, s3, s4, s5⟩ := xopF_congr hFp p2 rfl (sl' := apS (fun k => listed.getD k false) E S.sl.get) (hp' := apH (fun k => listed.getD k false) E S.hp.get)
          (by
            intro t ht
            refine apS_congr E _ _ _ _ t (fun j e' hj hdj => ?_) rfl
            have hjx : j < xs.length := by rw [← r1]; exact (List.getElem?_eq_some_iff.1 hj).1
            obtain ⟨e1, g1, g2⟩ := r2 j xs[j] (by simp [hjx])
            rw [hj] at g1; cases g1
            have hpd : xs[j].dst = some t := by rw [← xopF_dst g2]; exact hdj
            by_cases hji : j = i
            · subst hji
              rw [hDi]; simp
            rcases (slots j i x xs[j] t q1 (by simp [hjx]) hpd).2 ht with h | h | h
            · exact absurd h hji
            · have h1 := anc_in hcl i o hio hafter j h
              have h2 := anc_lt hf i o hio j h
              simp only [h1, h2, decide_true]
            · have hjo : ops[j]? = some ops[j] := by simp [← hlen, hjx]
              have h2 := anc_lt hf j _ hjo i h
              have h3 : listed.getD j false = false := by
                cases hd : listed.getD j false with
                | false => rfl
                | true => exact absurd h ((agree j e' hj hji).2 h2 hd)
              rw [h3]
              simp; omega)
          (by
            intro id hid
            refine apH_congr E _ _ _ _ id (fun j e' hj hm => ?_) rfl
            by_cases hji : j = i
            · subst hji
              rw [hDi]; simp
            rcases Nat.lt_or_gt_of_ne hji with hlt | hgt
            · cases hd : listed.getD j false with
              | true => simp [hlt]
              | false =>
                have := free j i e' e hlt hj p1 ((agree j e' hj hji).1 hlt hd)
                exact absurd hid (this.1 id hm).1
            · cases hd : listed.getD j false with
              | false => simp; omega
              | true =>
                have := free i j e e' hgt p1 hj ((agree j e' hj hji).2 hgt hd)
                exact absurd hid (this.2 id hm).1)
        have hD2 : (fun k => (listed.setIfInBounds i true).getD k false) = fun k => (k == i || listed.getD k false) := by
          funext k
          by_cases hk : k = i
          · subst hk
            simp [hsz, hin]
          · rw [getD_set_ne false (Ne.symm hk)]
            have : (k == i) = false := by rw [beq_eq_false_iff_ne]; exact hk
            simp [this]
        unfold wpOpIn
        rw [hi2]
        refine op_snd (comp_snd hT hQ hG hB q2) s1 rfl hR q3 q5 q4 fun a' w' m'' hm' hR' => ?_
        refine ih _ m'' a' w' (by simpa using hsz) (MM.le_trans hm hm') ?_ ?_ ?_
        · rw [hD2]
          intro j oj hj hd e' he' hb
          simp only [Bool.or_eq_true, beq_iff_eq] at hd ⊢
          rcases hd with rfl | hd
          · rw [hio] at hj; cases hj
            exact .inr (hafter e' he' hb)
          · exact .inr (hcl j oj hj hd e' he' hb)
        · have := cnt_add (fun k => listed.getD k false) i hDi (List.range ops.length) List.nodup_range (List.mem_range.2 hin)
          have h2 : (fun k => !(listed.setIfInBounds i true).getD k false) = fun k => !(k == i || listed.getD k false) := by
            funext k; rw [← congrFun hD2 k]
          rw [h2]
          omega
        · rw [hD2, apS_add E _ _ i e p1 hDi, apH_add E _ _ i e p1 hDi, xopF_dst p2]
          · rw [s2, s3, s4] at hR'
            exact hR'.weak s5
          · intro j e' hij hj hd id hid
            have := free i j e e' hij p1 hj ((agree j e' hj (by omega)).2 hij hd)
            exact (this.1 id hid).2
          · intro j e' hij hj hd t ht h2
            have hjx : j < xs.length := by rw [← r1]; exact (List.getElem?_eq_some_iff.1 hj).1
            obtain ⟨e1, g1, g2⟩ := r2 j xs[j] (by simp [hjx])
            rw [hj] at g1; cases g1
            rw [xopF_dst g2] at h2
            rw [xopF_dst p2] at ht
            rcases (slots j i x xs[j] t q1 (by simp [hjx]) h2).1 with h | h
            · omega
            · exact h ht
  refine main _ _ m a w (by simp) m.le_refl ?_ ?_ ?_
  · intro j o hj hd
    simp only [Array.getD_eq_getD_getElem?, Array.getElem?_replicate] at hd
    split at hd <;> simp at hd
  · rw [List.countP_eq_length.2]
    · simp
    · intro k hk
      simp only [Array.getD_eq_getD_getElem?, Array.getElem?_replicate]
      split <;> rfl
  · have hz : (fun k => (Array.replicate ops.length false).getD k false) = fun _ => false := by
      funext k
      simp only [Array.getD_eq_getD_getElem?, Array.getElem?_replicate]
      split <;> rfl
    rw [hz, apS_none _ _ _ fun _ => rfl, apH_none _ _ _ fun _ => rfl]
    exact hR

end
end Go.Proofs.Yteekkjfjpoaihaa.Eng

/- The engine, part 16: regions: in the text's order, and in any order that the edges leave open. -/
import Derived.Test.YteekkjfjpoaihaaEo
set_option linter.all false
namespace Go.Proofs.Yteekkjfjpoaihaa.Eng
open Go

/-! ### which slots and which objects an operation hangs on -/

def Fp (e : Eff) (h h' : Nat → Option HO) : Prop := match e.rd with
  | none => h' = h
  | some l => ∀ id ∈ l, h' id = h id

/-- a specification hangs on what it says it looks at -/
def SpecFp (sp : Spec) : Prop := ∀ args h h' base e, sp.run args h base = some e → Fp e h h' → sp.run args h' base = some e

def GamFp (Γ : Cal → Option Spec) : Prop := ∀ c sp, Γ c = some sp → SpecFp sp

theorem xi_ev {Γ : Cal → Option Spec} {x : XI} {ev ev' : XO → TV} (h : Nat → Option HO) (base : Nat) (he : ∀ y ∈ x.opnds, ev y = ev' y) : xi Γ x ev h base = xi Γ x ev' h base := by
  have mp : ∀ {β : Type} (l : List (β × XO)), (∀ y ∈ l.map (·.2), ev y = ev' y) → l.map (fun p => (p.1, ev p.2)) = l.map (fun p => (p.1, ev' p.2)) := fun l hl =>
    List.map_congr_left fun p hp => by rw [hl p.2 (List.mem_map_of_mem hp)]
  have ml : ∀ (l : List XO), (∀ y ∈ l, ev y = ev' y) → l.map ev = l.map ev' := fun l hl => List.map_congr_left hl
  have mo : ∀ (o : Option XO), (∀ y ∈ o.toList, ev y = ev' y) → o.map ev = o.map ev' := fun o ho => by cases o <;> simp_all
  cases x
  case bld z ps => simp only [xi, mp ps he]
  case bsl a b c d ps => simp only [xi, mp ps he]
  case bslB b c d ps => simp only [xi, mp ps he]
  case slc n x lo hi =>
    simp only [XI.opnds] at he
    simp only [xi, he x (by simp), mo lo fun y hy => he y (by simp [List.mem_append.2 (.inl hy)]), mo hi fun y hy => he y (by simp [List.mem_append.2 (.inr hy)])]
  case slcA n k x lo hi =>
    simp only [XI.opnds] at he
    simp only [xi, he x (by simp)]
  case mkf f l => simp only [xi, ml l he]
  case mn l => simp only [xi, ml l he]
  case mx l => simp only [xi, ml l he]
  case call f l => simp only [xi, he f (by simp [XI.opnds]), ml l fun y hy => he y (by simp [XI.opnds, hy])]
  case alloc => rfl
  case mmk => rfl
  case bad => rfl
  case mupd kk vk m k v => simp only [xi, he m (by simp [XI.opnds]), he k (by simp [XI.opnds]), he v (by simp [XI.opnds])]
  case pick a b c => simp only [xi, he a (by simp [XI.opnds]), he b (by simp [XI.opnds]), he c (by simp [XI.opnds])]
  case st lk a b => simp only [xi, he a (by simp [XI.opnds]), he b (by simp [XI.opnds])]
  case bin lk a b => simp only [xi, he a (by simp [XI.opnds]), he b (by simp [XI.opnds])]
  case eqv k ng a b => simp only [xi, he a (by simp [XI.opnds]), he b (by simp [XI.opnds])]
  case iad k ng a b => simp only [xi, he a (by simp [XI.opnds]), he b (by simp [XI.opnds])]
  case iadS ng a b => simp only [xi, he a (by simp [XI.opnds]), he b (by simp [XI.opnds])]
  case idx n sz lk a b => simp only [xi, he a (by simp [XI.opnds]), he b (by simp [XI.opnds])]
  case lkup kk vk ok a b => simp only [xi, he a (by simp [XI.opnds]), he b (by simp [XI.opnds])]
  case app ty k sz a b => simp only [xi, he a (by simp [XI.opnds]), he b (by simp [XI.opnds])]
  case extr y i => simp only [xi, he y (by simp [XI.opnds])]
  all_goals (rename_i y; simp only [xi, he y (by simp [XI.opnds])])

theorem srcOf_fp {tv : TV} {h h' : Nat → Option HO} {k : IntKind} {sz : Nat} {q : Bool × List Int × Nat × List Nat} (hq : srcOf tv h k sz = some q) (hf : ∀ id ∈ q.2.2.2, h' id = h id) : srcOf tv h' k sz = some q := by
  unfold srcOf at hq
  split at hq
  · exact hq
  · rename_i id off sz1 len
    split at hq
    case isFalse => cases hq
    rename_i hsz
    have key : h' id = h id := by
      split at hq
      · split at hq
        · cases hq; exact hf id (by simp)
        · cases hq
      · split at hq
        · cases hq; exact hf id (by simp)
        · cases hq
      · cases hq
    simp only [srcOf, if_pos hsz, key]
    exact hq
  · cases hq

theorem xi_fp {Γ : Cal → Option Spec} (hΓ : GamFp Γ) {x : XI} {ev : XO → TV} {h h' : Nat → Option HO} {base : Nat} {e : Eff} (hx : xi Γ x ev h base = some e) (hf : Fp e h h') : xi Γ x ev h' base = some e := by
  have hcall : ∀ {c : Cal} {vs : List AV}, callE Γ c vs h base = some e → callE Γ c vs h' base = some e := by
    intro c vs hc
    unfold callE at hc ⊢
    cases hg : Γ c with
    | none => simp [hg] at hc
    | some sp =>
      simp only [hg] at hc ⊢
      exact hΓ c sp hg _ _ _ _ _ hc hf
  cases x
  case ld lk a =>
    simp only [xi] at hx ⊢
    split at hx
    · rename_i id b o he
      have key : h' id = h id := by
        split at hx
        · obtain ⟨r, _, rfl⟩ := Option.map_eq_some_iff.1 hx
          exact hf id (by simp)
        · cases hx
      rw [key]
      exact hx
    · cases hx
  case st lk a v =>
    simp only [xi] at hx ⊢
    split at hx
    · rename_i id b o v he hv
      have key : h' id = h id := by
        split at hx
        · obtain ⟨r, _, rfl⟩ := Option.map_eq_some_iff.1 hx
          exact hf id (by simp)
        · cases hx
      rw [key]
      exact hx
    · cases hx
  case lkup kk vk ok m k =>
    simp only [xi] at hx ⊢
    split at hx
    · exact hx
    · rename_i id kv he hv
      have key : h' id = h id := by
        split at hx
        · split at hx
          · obtain ⟨r, _, rfl⟩ := Option.map_eq_some_iff.1 hx
            exact hf id (by simp)
          · cases hx
        · cases hx
      rw [key]
      exact hx
    · cases hx
  case mupd kk vk m k v =>
    simp only [xi] at hx ⊢
    split at hx
    · rename_i id kv vv he hv hvv
      have key : h' id = h id := by
        split at hx
        · split at hx
          · simp only [Option.bind_eq_some_iff, Option.map_eq_some_iff] at hx
            obtain ⟨_, _, _, _, rfl⟩ := hx
            exact hf id (by simp)
          · cases hx
        · cases hx
      rw [key]
      exact hx
    · cases hx
  case lenM a =>
    simp only [xi] at hx ⊢
    split at hx
    · exact hx
    · rename_i id he
      have key : h' id = h id := by
        split at hx
        · cases hx; exact hf id (by simp)
        · cases hx
      rw [key]
      exact hx
    · cases hx
  case app ty k sz s y =>
    simp only [xi] at hx ⊢
    split at hx
    · rename_i vc q m rd hs
      have h1 : srcOf (ev y) h' k sz = some (vc, q, m, rd) := by
        refine srcOf_fp hs fun id hid => ?_
        split at hx
        · cases hx; exact hf id hid
        · split at hx
          · split at hx
            · cases hx; exact hf id (by simp [show id ∈ rd from hid])
            · cases hx
          · cases hx
        · cases hx
      rw [h1]
      simp only
      split at hx
      · exact hx
      · rename_i id off sz' len he
        have key : h' id = h id := by
          split at hx
          · split at hx
            · cases hx; exact hf id (by simp)
            · cases hx
          · cases hx
        rw [key]
        exact hx
      · cases hx
    · cases hx
  case call f l =>
    simp only [xi] at hx ⊢
    split at hx
    · exact hcall hx
    · exact hcall hx
    · cases hx
  all_goals exact hx

theorem arith_pure {k : IntKind} {n : Int} {e : Eff} (h : arith k n = some e) : e.upd = [] ∧ e.news = [] ∧ e.rd = some [] := by
  unfold arith at h
  split at h <;> (simp only [pureE, Option.some.injEq] at h; subst h; exact ⟨rfl, rfl, rfl⟩)
theorem pureE_pure {b : Bool} {v : TV} {e : Eff} (h : pureE b v = some e) : e.upd = [] ∧ e.news = [] ∧ e.rd = some [] := by
  simp only [pureE, Option.some.injEq] at h; subst h; exact ⟨rfl, rfl, rfl⟩
theorem binI_pure {op : BinOp} {k : IntKind} {a b : Int} {e : Eff} (h : binI op k a b = some e) : e.upd = [] ∧ e.news = [] ∧ e.rd = some [] := by
  unfold binI at h
  split at h <;> first
    | exact arith_pure h
    | exact pureE_pure h
    | (split at h <;> exact pureE_pure h)
    | cases h
theorem shI_pure {op : BinOp} {k : IntKind} {a b : Int} {e : Eff} (h : shI op k a b = some e) : e.upd = [] ∧ e.news = [] ∧ e.rd = some [] := by
  unfold shI at h
  split at h <;> first
    | exact pureE_pure h
    | (split at h <;> exact pureE_pure h)
    | cases h

theorem xi_cls0 {Γ : Cal → Option Spec} {x : XI} {ev : XO → TV} {h : Nat → Option HO} {base : Nat} {e : Eff} (hx : xi Γ x ev h base = some e) (hc : opClass x = 0) : e.upd = [] ∧ e.news = [] ∧ e.rd = some [] := by
  cases x <;> simp only [opClass] at hc <;> try (cases hc; done)
  all_goals simp only [xi] at hx
  case bin op a b =>
    split at hx
    · split at hx
      · exact shI_pure hx
      · exact shI_pure hx
      · split at hx
        · exact binI_pure hx
        · cases hx
    · cases hx
  case eqv k n a b =>
    obtain ⟨r, _, h2⟩ := Option.bind_eq_some_iff.1 hx
    exact pureE_pure h2
  case bld z ps =>
    obtain ⟨r, _, h2⟩ := Option.bind_eq_some_iff.1 hx
    exact pureE_pure h2
  case mkf f l =>
    obtain ⟨r, _, h2⟩ := Option.bind_eq_some_iff.1 hx
    exact pureE_pure h2
  case fld o lk y =>
    split at hx
    · obtain ⟨r, _, h2⟩ := Option.bind_eq_some_iff.1 hx
      exact pureE_pure h2
    · cases hx
  case idx n sz lk y i =>
    split at hx
    · obtain ⟨r, _, h2⟩ := Option.bind_eq_some_iff.1 hx
      exact pureE_pure h2
    · cases hx
  all_goals repeat' (first | exact pureE_pure hx | exact arith_pure hx | (cases hx; done) | split at hx)

theorem xi_cls1 {Γ : Cal → Option Spec} {x : XI} {ev : XO → TV} {h : Nat → Option HO} {base : Nat} {e : Eff} (hx : xi Γ x ev h base = some e) (hc : opClass x = 1) : e.upd = [] ∧ e.news = [] := by
  cases x <;> simp only [opClass] at hc <;> try (cases hc; done)
  all_goals simp only [xi] at hx
  case ld lk a =>
    split at hx
    · split at hx
      · obtain ⟨r, _, rfl⟩ := Option.map_eq_some_iff.1 hx; exact ⟨rfl, rfl⟩
      · cases hx
    · cases hx
  case lkup kk vk ok m k =>
    split at hx
    · obtain ⟨r, _, h2⟩ := Option.bind_eq_some_iff.1 hx
      exact ⟨(pureE_pure h2).1, (pureE_pure h2).2.1⟩
    · split at hx
      · split at hx
        · obtain ⟨r, _, rfl⟩ := Option.map_eq_some_iff.1 hx; exact ⟨rfl, rfl⟩
        · cases hx
      · cases hx
    · cases hx
  case lenM a =>
    split at hx
    · exact ⟨(pureE_pure hx).1, (pureE_pure hx).2.1⟩
    · split at hx
      · cases hx; exact ⟨rfl, rfl⟩
      · cases hx
    · cases hx

/-! ### one operation, over another state -/

def Ef.inFp (e : Ef) (id : Nat) : Prop := match e.rd with
  | none => True
  | some l => id ∈ l ∨ id ∈ e.tch

theorem updOk_congr {h h' : Nat → Option HO} : ∀ {l : List (Nat × HO)}, (∀ u ∈ l, h' u.1 = h u.1) → updOk h l = true → updOk h' l = true
  | [], _, _ => rfl
  | [u], hc, hl => by simpa only [updOk, hc u (by simp)] using hl
  | u :: v :: r, hc, hl => by
    simp only [updOk, hc u (by simp), Bool.and_eq_true] at hl ⊢
    exact ⟨hl.1, updOk_congr (fun x hx => hc x (by simp [hx])) hl.2⟩

theorem newsOk_congr {h h' : Nat → Option HO} : ∀ {l : List HO} {b : Nat}, (∀ id ∈ List.range' b l.length, h' id = h id) → newsOk h b l = true → newsOk h' b l = true
  | [], _, _, _ => rfl
  | o :: r, b, hc, hl => by
    simp only [newsOk, hc b (by simp [List.range'_succ]), Bool.and_eq_true] at hl ⊢
    exact ⟨hl.1, newsOk_congr (fun x hx => hc x (by simp only [List.length_cons, List.range'_succ, List.mem_cons]; exact .inr hx)) hl.2⟩

theorem evalX_congr {x : XI} {g : Option (Nat × Bool)} {d : Option Nat} {off : Nat} {sl sl' : Nat → Option Slot} (h : ∀ t ∈ (XOp.mk d g x off).looks, sl' t = sl t) : ∀ y ∈ x.opnds, evalX sl y = evalX sl' y := by
  intro y hy
  cases y with
  | c v => rfl
  | t n =>
    have : n ∈ (XOp.mk d g x off).looks := by
      unfold XOp.looks
      exact List.mem_append.2 (.inr (List.mem_filterMap.2 ⟨.t n, hy, rfl⟩))
    simp only [evalX, h n this]

theorem opc_congr {x : XI} {sl sl' : Nat → Option Slot} (h : ∀ y ∈ x.opnds, evalX sl y = evalX sl' y) : opc sl x = opc sl' x := by
  cases x
  case pick a b c => simp only [opc, h a (by simp [XI.opnds]), h b (by simp [XI.opnds]), h c (by simp [XI.opnds])]
  all_goals
    simp only [opc, allX_eq]
    rw [Bool.eq_iff_iff, List.all_eq_true, List.all_eq_true]
    constructor
    · intro hh y hy
      rw [← h y hy]; exact hh y hy
    · intro hh y hy
      rw [h y hy]; exact hh y hy

theorem xopF_congr {Γ : Cal → Option Spec} (hΓ : GamFp Γ) {b0 : Nat} {x : XOp} {sl sl' : Nat → Option Slot} {hp hp' : Nat → Option HO} {v : Bool} {e : Ef} (hx : xopF Γ b0 x sl hp = some (v, e)) (hv : v = true)
    (hs : ∀ t ∈ x.looks, sl' t = sl t) (hh : ∀ id, e.inFp id → hp' id = hp id) :
    ∃ e', xopF Γ b0 x sl' hp' = some (true, e') ∧ e'.upd = e.upd ∧ e'.news = e.news ∧ e'.base = e.base ∧ (e'.s = e.s ∨ (e'.s.c = false ∧ e.s.c = false)) := by
  obtain ⟨d, g, y, off⟩ := x
  have hev := evalX_congr (d := d) (g := g) (off := off) hs
  have hgd : guardC sl' g = guardC sl g := by
    cases g with
    | none => rfl
    | some q => simp only [guardC, hs q.1 (by simp [XOp.looks])]
  have hxe : ∀ h b, xi Γ y (fun z => (evalX sl' z).v) h b = xi Γ y (fun z => (evalX sl z).v) h b := fun h b => xi_ev h b fun z hz => by rw [hev z hz]
  unfold xopF at hx ⊢
  simp only [hgd, hxe] at hx ⊢
  cases hc : guardC sl g with
  | none => simp [hc] at hx
  | some c =>
    simp only [hc] at hx ⊢
    cases c with
    | false =>
      have hE : e.upd = [] ∧ e.news = [] ∧ e.base = b0 + off ∧ e.s.c = false := by
        split at hx
        · split at hx
          · simp only [Option.some.injEq, Prod.mk.injEq] at hx; obtain ⟨_, rfl⟩ := hx; exact ⟨rfl, rfl, rfl, rfl⟩
          · simp only [Option.some.injEq, Prod.mk.injEq] at hx; obtain ⟨_, rfl⟩ := hx; exact ⟨rfl, rfl, rfl, rfl⟩
        · simp only [Option.some.injEq, Prod.mk.injEq] at hx; obtain ⟨_, rfl⟩ := hx; exact ⟨rfl, rfl, rfl, rfl⟩
      obtain ⟨h1, h2, h3, h4⟩ := hE
      rw [h1, h2, h3, h4]
      split
      · split
        · exact ⟨_, rfl, rfl, rfl, rfl, .inr ⟨rfl, rfl⟩⟩
        · exact ⟨_, rfl, rfl, rfl, rfl, .inr ⟨rfl, rfl⟩⟩
      · exact ⟨_, rfl, rfl, rfl, rfl, .inr ⟨rfl, rfl⟩⟩
    | true =>
      cases hxi : xi Γ y (fun z => (evalX sl z).v) hp (b0 + off) with
      | none => simp [hxi] at hx
      | some q =>
        simp only [hxi] at hx
        have hfp : e.rd = q.rd := by
          split at hx
          · simp only [Option.some.injEq, Prod.mk.injEq] at hx; obtain ⟨_, rfl⟩ := hx; rfl
          · simp only [Option.some.injEq, Prod.mk.injEq] at hx; obtain ⟨_, rfl⟩ := hx; rfl
        have hF : Fp q hp hp' := by
          unfold Fp
          unfold Ef.inFp at hh
          rw [hfp] at hh
          cases hr : q.rd with
          | none => rw [hr] at hh; funext id; exact hh id trivial
          | some l => rw [hr] at hh; exact fun id hid => hh id (.inl hid)
        rw [xi_fp hΓ hxi hF]
        simp only
        have htch : ∀ id ∈ e.tch, hp' id = hp id := fun id hid => hh id (by unfold Ef.inFp; split; trivial; exact .inr hid)
        obtain ⟨qvc, qval, qupd, qnews, qrd⟩ := q
        have ho := opc_congr hev
        cases qupd with
        | nil =>
          cases qnews with
          | nil =>
            simp only [Option.some.injEq, Prod.mk.injEq] at hx
            obtain ⟨h1, rfl⟩ := hx
            refine ⟨_, ?_, rfl, rfl, rfl, .inl rfl⟩
            rw [ho, hv] at h1
            rw [h1]
          | cons n ns =>
            simp only [Option.some.injEq, Prod.mk.injEq] at hx
            obtain ⟨h1, rfl⟩ := hx
            refine ⟨_, ?_, rfl, rfl, rfl, .inl rfl⟩
            rw [ho, hv] at h1
            simp only [Bool.and_eq_true] at h1
            simp only [h1.1.1.1, h1.1.1.2, Bool.true_and]
            rw [newsOk_congr (fun id hid => htch id (by unfold Ef.tch; simp only [List.map_nil, List.nil_append]; exact hid)) h1.2]
            rfl
        | cons u us =>
          simp only [Option.some.injEq, Prod.mk.injEq] at hx
          obtain ⟨h1, rfl⟩ := hx
          refine ⟨_, ?_, rfl, rfl, rfl, .inl rfl⟩
          rw [ho, hv] at h1
          simp only [Bool.and_eq_true] at h1
          simp only [h1.1.1.1, h1.1.1.2, Bool.true_and]
          rw [newsOk_congr (fun id hid => htch id (by unfold Ef.tch; exact List.mem_append.2 (.inr hid))) h1.2, updOk_congr (fun v hvm => htch _ (by unfold Ef.tch; exact List.mem_append.2 (.inl (List.mem_map_of_mem hvm)))) h1.1.2]
          rfl

theorem xopF_cls0 {Γ : Cal → Option Spec} {b0 : Nat} {x : XOp} {sl : Nat → Option Slot} {hp : Nat → Option HO} {v : Bool} {e : Ef} (hx : xopF Γ b0 x sl hp = some (v, e)) (hc : opClass x.x = 0) : e.tch = [] ∧ e.rd = some [] := by
  unfold xopF at hx
  split at hx
  · cases hx
  · rename_i c _
    split at hx
    · rename_i q hq
      obtain ⟨h1, h2, h3⟩ := xi_cls0 hq hc
      rw [h1, h2, h3] at hx
      simp only [Option.some.injEq, Prod.mk.injEq] at hx
      obtain ⟨_, rfl⟩ := hx
      exact ⟨rfl, by cases c <;> rfl⟩
    · split at hx
      · simp only [Option.some.injEq, Prod.mk.injEq] at hx
        obtain ⟨_, rfl⟩ := hx
        exact ⟨rfl, rfl⟩
      · cases hx

theorem xopF_cls1 {Γ : Cal → Option Spec} {b0 : Nat} {x : XOp} {sl : Nat → Option Slot} {hp : Nat → Option HO} {v : Bool} {e : Ef} (hx : xopF Γ b0 x sl hp = some (v, e)) (hc : opClass x.x = 1) : e.tch = [] := by
  unfold xopF at hx
  split at hx
  · cases hx
  · rename_i c _
    split at hx
    · rename_i q hq
      obtain ⟨h1, h2⟩ := xi_cls1 hq hc
      rw [h1, h2] at hx
      simp only [Option.some.injEq, Prod.mk.injEq] at hx
      obtain ⟨_, rfl⟩ := hx
      rfl
    · split at hx
      · simp only [Option.some.injEq, Prod.mk.injEq] at hx
        obtain ⟨_, rfl⟩ := hx
        rfl
      · cases hx

theorem xopF_dst {Γ : Cal → Option Spec} {b0 : Nat} {x : XOp} {sl : Nat → Option Slot} {hp : Nat → Option HO} {v : Bool} {e : Ef} (hx : xopF Γ b0 x sl hp = some (v, e)) : e.dst = x.dst := by
  unfold xopF at hx
  split at hx
  · cases hx
  · rename_i c _
    split at hx
    · split at hx
      · simp only [Option.some.injEq, Prod.mk.injEq] at hx; obtain ⟨_, rfl⟩ := hx; rfl
      · split at hx
        · simp only [Option.some.injEq, Prod.mk.injEq] at hx; obtain ⟨_, rfl⟩ := hx; rfl
        · simp only [Option.some.injEq, Prod.mk.injEq] at hx; obtain ⟨_, rfl⟩ := hx; rfl
    · split at hx
      · simp only [Option.some.injEq, Prod.mk.injEq] at hx; obtain ⟨_, rfl⟩ := hx; rfl
      · cases hx

/-! ### some of the operations done -/

def apS : (Nat → Bool) → List Ef → (Nat → Option Slot) → Nat → Option Slot
  | _, [], sl => sl
  | D, e :: r, sl => apS (fun k => D (k + 1)) r (if D 0 then setF sl e.dst e.s else sl)
def apH : (Nat → Bool) → List Ef → (Nat → Option HO) → Nat → Option HO
  | _, [], h => h
  | D, e :: r, h => apH (fun k => D (k + 1)) r (if D 0 then newH (upH h e.upd) e.base e.news else h)

theorem apS_none : ∀ (E : List Ef) (D : Nat → Bool) (sl : Nat → Option Slot), (∀ k, D k = false) → apS D E sl = sl
  | [], _, _, _ => rfl
  | e :: r, D, sl, h => by simp only [apS, h 0]; exact apS_none r _ sl fun k => h (k + 1)
theorem apH_none : ∀ (E : List Ef) (D : Nat → Bool) (h : Nat → Option HO), (∀ k, D k = false) → apH D E h = h
  | [], _, _, _ => rfl
  | e :: r, D, sl, h => by simp only [apH, h 0]; exact apH_none r _ sl fun k => h (k + 1)

theorem upH_pt (upd : List (Nat × HO)) (h h' : Nat → Option HO) (id : Nat) (hh : h id = h' id ∨ id ∈ upd.map (·.1)) : upH h upd id = upH h' upd id := by
  induction upd generalizing h h' with
  | nil => rcases hh with hh | hh; exact hh; simp at hh
  | cons u r ih =>
    simp only [upH]
    refine ih _ _ ?_
    by_cases he : id = u.1
    · left; simp [he]
    · simp only [he, if_false]
      rcases hh with hh | hh
      · exact .inl hh
      · simp only [List.map_cons, List.mem_cons] at hh
        exact .inr (hh.resolve_left he)

/-- what an effect says of an object hangs on what was there only if it does not touch it -/
theorem ov_pt (e : Ef) (h h' : Nat → Option HO) (id : Nat) (hh : h id = h' id ∨ id ∈ e.tch) : newH (upH h e.upd) e.base e.news id = newH (upH h' e.upd) e.base e.news id := by
  rw [newH_get, newH_get]
  split
  · rfl
  · rename_i hn
    refine upH_pt _ _ _ _ (hh.imp_right fun hm => ?_)
    unfold Ef.tch at hm
    rcases List.mem_append.1 hm with hm | hm
    · exact hm
    · rw [List.mem_range'_1] at hm; exact absurd hm hn

theorem ov_other (e : Ef) (h : Nat → Option HO) (id : Nat) (hn : id ∉ e.tch) : newH (upH h e.upd) e.base e.news id = h id := by
  rw [newH_get]
  unfold Ef.tch at hn
  rw [List.mem_append, not_or, List.mem_range'_1] at hn
  rw [if_neg hn.2]
  exact upH_other _ _ _ fun u hu he => hn.1 (he ▸ List.mem_map_of_mem hu)

theorem apH_congr : ∀ (E : List Ef) (D D' : Nat → Bool) (h h' : Nat → Option HO) (id : Nat), (∀ i e, E[i]? = some e → id ∈ e.tch → D i = D' i) → h id = h' id → apH D E h id = apH D' E h' id
  | [], _, _, _, _, _, _, hh => hh
  | e :: r, D, D', h, h', id, hD, hh => by
    simp only [apH]
    refine apH_congr r _ _ _ _ id (fun i e' hi => hD (i + 1) e' (by simpa using hi)) ?_
    by_cases hm : id ∈ e.tch
    · rw [hD 0 e rfl hm]
      split
      · exact ov_pt e _ _ _ (.inl hh)
      · exact hh
    · have h1 : (if D 0 = true then newH (upH h e.upd) e.base e.news else h) id = h id := by split; exact ov_other e h id hm; rfl
      have h2 : (if D' 0 = true then newH (upH h' e.upd) e.base e.news else h') id = h' id := by split; exact ov_other e h' id hm; rfl
      rw [h1, h2, hh]

theorem setF_pt (sl sl' : Nat → Option Slot) (d : Option Nat) (s : Slot) (t : Nat) (h : sl t = sl' t ∨ d = some t) : setF sl d s t = setF sl' d s t := by
  cases d with
  | none => rcases h with h | h; exact h; cases h
  | some d =>
    simp only [setF]
    split
    · rfl
    · rename_i hn
      rcases h with h | h
      · exact h
      · exact absurd (Option.some.inj h).symm hn

theorem setF_other (sl : Nat → Option Slot) (d : Option Nat) (s : Slot) (t : Nat) (h : d ≠ some t) : setF sl d s t = sl t := by
  cases d with
  | none => rfl
  | some d => simp only [setF]; rw [if_neg]; rintro rfl; exact h rfl

theorem apS_congr : ∀ (E : List Ef) (D D' : Nat → Bool) (h h' : Nat → Option Slot) (t : Nat), (∀ i e, E[i]? = some e → e.dst = some t → D i = D' i) → h t = h' t → apS D E h t = apS D' E h' t
  | [], _, _, _, _, _, _, hh => hh
  | e :: r, D, D', h, h', t, hD, hh => by
    simp only [apS]
    refine apS_congr r _ _ _ _ t (fun i e' hi => hD (i + 1) e' (by simpa using hi)) ?_
    by_cases hm : e.dst = some t
    · rw [hD 0 e rfl hm]
      split
      · exact setF_pt _ _ _ _ _ (.inl hh)
      · exact hh
    · have h1 : (if D 0 = true then setF h e.dst e.s else h) t = h t := by split; exact setF_other _ _ _ _ hm; rfl
      have h2 : (if D' 0 = true then setF h' e.dst e.s else h') t = h' t := by split; exact setF_other _ _ _ _ hm; rfl
      rw [h1, h2, hh]

theorem apH_add : ∀ (E : List Ef) (D : Nat → Bool) (h : Nat → Option HO) (i : Nat) (e : Ef), E[i]? = some e → D i = false → (∀ j e', i < j → E[j]? = some e' → D j = true → ∀ id ∈ e.tch, id ∉ e'.tch) →
    apH (fun k => k == i || D k) E h = newH (upH (apH D E h) e.upd) e.base e.news
  | [], _, _, _, _, h, _, _ => by simp at h
  | e0 :: r, D, h, 0, e, hi, hD, hj => by
    simp at hi
    subst hi
    simp only [apH, hD, beq_self_eq_true, Bool.true_or, if_true]
    have hf : (fun k => (k + 1 == 0 || D (k + 1))) = fun k => D (k + 1) := by funext k; simp
    rw [hf]
    funext id
    by_cases hm : id ∈ e0.tch
    · have h1 : apH (fun k => D (k + 1)) r (newH (upH h e0.upd) e0.base e0.news) id = apH (fun _ => false) r (newH (upH h e0.upd) e0.base e0.news) id := by
        refine apH_congr r _ _ _ _ id (fun k e' hk hme => ?_) rfl
        cases hDk : D (k + 1) with
        | false => rfl
        | true => exact absurd hme (hj (k + 1) e' (by omega) (by simpa using hk) hDk id hm)
      rw [h1, apH_none _ _ _ fun _ => rfl]
      exact ov_pt e0 _ _ _ (.inr hm)
    · rw [ov_other e0 _ id hm]
      refine apH_congr r _ _ _ _ id (fun _ _ _ _ => rfl) (ov_other e0 _ id hm)
  | e0 :: r, D, h, i + 1, e, hi, hD, hj => by
    simp only [apH]
    have hf : (fun k => (k + 1 == i + 1 || D (k + 1))) = fun k => (k == i || D (k + 1)) := by funext k; simp
    have h0 : ((0 == i + 1) || D 0) = D 0 := by simp
    rw [hf]; simp only [h0]
    exact apH_add r (fun k => D (k + 1)) _ i e (by simpa using hi) hD fun j e' hij hje hDj => hj (j + 1) e' (by omega) (by simpa using hje) hDj

theorem apS_add : ∀ (E : List Ef) (D : Nat → Bool) (h : Nat → Option Slot) (i : Nat) (e : Ef), E[i]? = some e → D i = false → (∀ j e', i < j → E[j]? = some e' → D j = true → ∀ t, e.dst = some t → e'.dst ≠ some t) →
    apS (fun k => k == i || D k) E h = setF (apS D E h) e.dst e.s
  | [], _, _, _, _, h, _, _ => by simp at h
  | e0 :: r, D, h, 0, e, hi, hD, hj => by
    simp at hi
    subst hi
    simp only [apS, hD, beq_self_eq_true, Bool.true_or, if_true]
    have hf : (fun k => (k + 1 == 0 || D (k + 1))) = fun k => D (k + 1) := by funext k; simp
    rw [hf]
    funext id
    by_cases hm : e0.dst = some id
    · have h1 : apS (fun k => D (k + 1)) r (setF h e0.dst e0.s) id = apS (fun _ => false) r (setF h e0.dst e0.s) id := by
        refine apS_congr r _ _ _ _ id (fun k e' hk hme => ?_) rfl
        cases hDk : D (k + 1) with
        | false => rfl
        | true => exact absurd hme (hj (k + 1) e' (by omega) (by simpa using hk) hDk id hm)
      rw [h1, apS_none _ _ _ fun _ => rfl]
      exact setF_pt _ _ _ _ _ (.inr hm)
    · rw [setF_other _ _ _ id hm]
      refine apS_congr r _ _ _ _ id (fun _ _ _ _ => rfl) (setF_other _ _ _ id hm)
  | e0 :: r, D, h, i + 1, e, hi, hD, hj => by
    simp only [apS]
    have hf : (fun k => (k + 1 == i + 1 || D (k + 1))) = fun k => (k == i || D (k + 1)) := by funext k; simp
    have h0 : ((0 == i + 1) || D 0) = D 0 := by simp
    rw [hf]; simp only [h0]
    exact apS_add r (fun k => D (k + 1)) _ i e (by simpa using hi) hD fun j e' hij hje hDj => hj (j + 1) e' (by omega) (by simpa using hje) hDj

end Go.Proofs.Yteekkjfjpoaihaa.Eng

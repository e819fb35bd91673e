/- The engine, part 13: every operation that the compile takes is sound, calls by their specifications. -/
import Derived.Test.YteekkjfjpoaihaaEl
set_option linter.all false
namespace Go.Proofs.Yteekkjfjpoaihaa.Eng
open Go

/-- what is shown of a function's specification: over any objects -/
def SpecOK (P : Program) (cmp : Cmp) (f : FuncId) (sp : Spec) : Prop :=
  ∀ (ctx : Ctx) (m : MM) (h : Nat → Option HO) (w : World) (args : List AV) (vals : List Value) (base : Nat) (e : Eff),
    HRel cmp ctx m h w → All2 (AR m) args vals → (∀ k, k < e.news.length → h (base + k) = none) → updOk h e.upd = true → sp.run args h base = some e → e.vc = true →
    CallsIn (FR none) 0 P f vals.toArray w (fun en w' => ∃ v m', en = .returned v ∧ TR m' e.val v ∧ Stp cmp m m' w w' e.upd base e.news)

/-- ... and of yield's, while the loop's rounds go on -/
def YieldOK (P : Program) (cmp : Cmp) (id : Nat) (sp : Spec) : Prop :=
  ∀ (ctx : Ctx) (m : MM) (h : Nat → Option HO) (w : World) (args : List AV) (vals : List Value) (base : Nat) (e : Eff) (l : Nat) (mb : MB),
    HRel cmp ctx m h w → m id = some mb → mb.b = some l → All2 (AR m) args vals → (∀ k, k < e.news.length → h (base + k) = none) → updOk h e.upd = true → sp.run args h base = some e → e.vc = true →
    ∃ f tmps assign body, (Instr.yield l vals.toArray).run P w = .ok (.round l f tmps assign body) w ∧
      RoundIn (FR none) 0 P l f tmps assign body w (fun en w' => ∃ v m', en = .returned v ∧ TR m' e.val v ∧ Stp cmp m m' w w' e.upd base e.news)

def GamOK (P : Program) (cmp : Cmp) (Γ : Cal → Option Spec) : Prop :=
  (∀ f sp, Γ (.f f) = some sp → SpecOK P cmp f sp) ∧ ∀ id sp, Γ (.y id) = some sp → YieldOK P cmp id sp

/-- a function of the program that has a body, and is called as such -/
def Bodied (P : Program) (f : FuncId) : Prop := ∃ fn, P.funcs[f]? = some fn ∧ fn.body.isNone = false ∧ (fn.name == "runtime.NumGoroutine") = false

section
variable {P : Program} {T : Tab} {cmp : Cmp} {r : Option Nat} {Γ : Cal → Option Spec}

theorem run_callFunc {f : FuncId} (hb : Bodied P f) (args : Array Value) (w : World) : (callFunc f args).run P w = .ok (.enter f args) w := by
  obtain ⟨fn, h1, h2, h3⟩ := hb
  have h2' : ¬ fn.body = none := by
    intro e
    rw [e] at h2
    cases h2
  have h3' : ¬ fn.name = "runtime.NumGoroutine" := by
    intro e
    rw [e] at h3
    exact Bool.noConfusion (h3.symm.trans (beq_self_eq_true _))
  simp [callFunc, h1, h2', h3']

theorem allAV_spec {m : MM} : ∀ {l : List TV} {vs : List AV} {us : List Value}, allAV l = some vs → All2 (TR m) l us → All2 (AR m) vs us
  | [], vs, [], h, _ => by simp [allAV] at h; subst h; trivial
  | [], _, _ :: _, _, h => h.elim
  | tv :: l, vs, us, h, hv => by
    unfold allAV at h
    split at h
    · rename_i e; cases e
    · rename_i x rest e
      cases e
      cases hr : allAV l with
      | none => simp [hr] at h
      | some q =>
        simp [hr] at h
        subst h
        cases us with
        | nil => exact hv.elim
        | cons u us => exact ⟨hv.1, allAV_spec hr hv.2⟩
    · cases h

theorem caps_spec {m : MM} : ∀ {caps : List Nat} {vs : List Value}, All2 (fun id x => ∃ mb b, m id = some mb ∧ mb.b = some b ∧ x = Value.pointer (some ⟨b, mb.base + (0 + 0), none⟩)) caps vs → All2 (AR m) (capArgs caps) vs
  | [], [], _ => trivial
  | [], _ :: _, h => h.elim
  | _ :: _, [], h => h.elim
  | _ :: _, _ :: _, ⟨h1, h2⟩ => ⟨h1, caps_spec h2⟩

theorem callsIn_round {r : Option Nat} {f : FuncId} {args : Array Value} {w : World} {R : Ending → World → Prop} (h : CallsIn (FR none) 0 P f args w R) : CallsIn (FR r) 0 P f args w R := h
theorem roundIn_round {r : Option Nat} {l : Nat} {f : FuncId} {tmps : Array Value} {assign body : Code} {w : World} {R : Ending → World → Prop} (h : RoundIn (FR none) 0 P l f tmps assign body w R) : RoundIn (FR r) 0 P l f tmps assign body w R := h

theorem snd_call (hG : GamOK P cmp Γ) (hB : ∀ f sp, Γ (.f f) = some sp → Bodied P f) {o : Oper} {c : Call} {f : Operand} {f' : XO} {l : List XO} (ho : o.op = .call c) (hcal : c.callee = .value f) (hf : cO f = some f') (hl : cOs c.args.toList = some l) : Snd P cmp r Γ o (.call f' l) := by
  intro ctx m hp w a ev base e K Q hE hH hfr hup hx hvc hK
  have hfv := hE f f' hf (by simp [need, XI.opnds])
  obtain ⟨_, h2⟩ := cOs_spec hl
  have hargs := h2 m ev a fun y xo e hm => hE y xo e (by simp [need, XI.opnds, hm])
  have hd : ∀ cc, o.op ≠ .defer cc := by simp [ho]
  simp only [xi] at hx
  split at hx
  · rename_i fid caps vs hfe hvs
    rw [hfe] at hfv
    obtain ⟨cvs, hfv, hcaps⟩ := hfv
    unfold callE at hx
    cases hg : Γ (.f fid) with
    | none => simp [hg] at hx
    | some sp =>
      simp only [hg] at hx
      have hall := (allAV_spec hvs hargs).append (caps_spec hcaps)
      have hc := hG.1 fid sp hg ctx m hp w _ _ base e hH hall hfr hup hx hvc
      refine ⟨fun _ _ => trivial, ?_⟩
      rw [Oper.semAt_eq _ _ _ hd]
      have hrun : (execOp a.eval o).run P w = .ok (.enter fid ((c.args.toList.map a.eval) ++ cvs).toArray) w := by
        have he : (c.args.map a.eval) ++ cvs.toArray = ((c.args.toList.map a.eval) ++ cvs).toArray := by
          apply Array.ext'
          simp
        simp [execOp, ho, resolve, hcal, hfv, Deferred.ofValue, invoke, run_callFunc (hB fid sp hg), he]
      rw [hrun, Oper.uponIn_enter]
      refine ⟨fun h => (by cases h), CallsIn.mono (callsIn_round hc) ?_⟩
      rintro en w' ⟨v, m', rfl, hv, hs⟩
      exact hK v w' m' hv hs
  · rename_i id vs hfe hvs
    rw [hfe] at hfv
    obtain ⟨mb, b, h3, h4, hfv⟩ := hfv
    unfold callE at hx
    cases hg : Γ (.y id) with
    | none => simp [hg] at hx
    | some sp =>
      simp only [hg] at hx
      have hall := allAV_spec hvs hargs
      obtain ⟨fn, tmps, assign, body, g1, g2⟩ := hG.2 id sp hg ctx m hp w _ _ base e b mb hH h3 h4 hall hfr hup hx hvc
      refine ⟨fun _ _ => trivial, ?_⟩
      rw [Oper.semAt_eq _ _ _ hd]
      have hrun : (execOp a.eval o).run P w = .ok (.round b fn tmps assign body) w := by
        have he : (#[] ++ c.args.map a.eval) = (c.args.toList.map a.eval).toArray := by
          apply Array.ext'
          simp
        simp only [execOp, ho, resolve, hcal, hfv, Deferred.ofValue, Sem.run_bind, Sem.run_pure, Result.andThen_ok, invoke, he, g1]
      rw [hrun, Oper.uponIn_round]
      refine ⟨fun h => (by cases h), RoundIn.mono (roundIn_round g2) ?_⟩
      rintro en w' ⟨v, m', rfl, hv, hs⟩
      exact hK v w' m' hv hs
  · cases hx

theorem snd_bad {o : Oper} : Snd P cmp r Γ o .bad := by
  intro ctx m hp w a ev base e K Q hE hH hfr hup hx hvc hK
  simp [xi] at hx

/-- all of them -/
theorem comp_snd (hT : TOK P T) (hQ : EQOK P) (hG : GamOK P cmp Γ) (hB : ∀ f sp, Γ (.f f) = some sp → Bodied P f) {o : Oper} {x : XI} (h : compOp T o = some x) : Snd P cmp r Γ o x := by
  have hTT : ∀ {t : TypeId} {ti : TI}, T t = some ti → T t = some ⟨ti.d, ti.size, ti.bytes, ti.z⟩ := fun h => h
  unfold compOp at h
  split at h
  all_goals rename_i ho
  · obtain ⟨y, h1, rfl⟩ := Option.map_eq_some_iff.1 h; exact snd_mv (.inl ho) h1
  · obtain ⟨y, h1, rfl⟩ := Option.map_eq_some_iff.1 h; exact snd_mv (.inr ho) h1
  · simp only [Option.bind_eq_some_iff, Option.map_eq_some_iff] at h
    obtain ⟨c, h1, a, h2, b, h3, rfl⟩ := h
    exact snd_pick ho h1 h2 h3
  · obtain ⟨z, h1, rfl⟩ := Option.map_eq_some_iff.1 h; exact snd_alloc hT ho h1
  · simp only [Option.bind_eq_some_iff, Option.map_eq_some_iff] at h
    obtain ⟨_, _, y, h1, rfl⟩ := h
    exact snd_box ho h1
  · simp only [Option.bind_eq_some_iff] at h
    obtain ⟨z, h1, h⟩ := h
    split at h
    · rename_i fs _ _ _ ht
      split at h
      case isFalse => cases h
      rename_i hall
      obtain ⟨l, h2, rfl⟩ := Option.map_eq_some_iff.1 h
      exact snd_bld_struct hT ho h1 ht hall h2
    · rename_i k e _ _ _ ht
      simp only [Option.bind_eq_some_iff, Option.map_eq_some_iff] at h
      obtain ⟨n, h2, l, h3, rfl⟩ := h
      exact snd_bld_array hT ho h1 ht h2 h3
    · cases h
  · split at h
    case h_2 => cases h
    rename_i e _ _ _ ht
    split at h
    case isFalse => cases h
    rename_i hlen
    split at h
    · rename_i n f hz
      split at h
      case isFalse => cases h
      rename_i hn
      obtain ⟨l, h2, rfl⟩ := Option.map_eq_some_iff.1 h
      exact snd_bslB (z := .pb [] n f) hT ho ht hlen hz hn.1 hn.2.1 hn.2.2 h2
    · simp only [Option.bind_eq_some_iff] at h
      obtain ⟨⟨k, n⟩, h1, h⟩ := h
      split at h
      case isFalse => cases h
      rename_i hn
      obtain ⟨l, h2, rfl⟩ := Option.map_eq_some_iff.1 h
      exact snd_bsl hT ho ht hlen h1 hn.1 hn.2 h2
  · simp only [Option.bind_eq_some_iff, Option.map_eq_some_iff] at h
    obtain ⟨k, h1, y, h2, rfl⟩ := h
    exact snd_ld hT ho h1 h2
  · simp only [Option.bind_eq_some_iff, Option.map_eq_some_iff] at h
    obtain ⟨k, h1, y, h2, z, h3, rfl⟩ := h
    exact snd_st hT ho h1 h2 h3
  · obtain ⟨y, h1, rfl⟩ := Option.map_eq_some_iff.1 h; exact snd_nck ho h1
  · simp only [Option.bind_eq_some_iff] at h
    obtain ⟨y, h1, z, h2, h⟩ := h
    split at h
    · cases h; exact snd_bin ho h1 h2
    · simp only [Option.bind_eq_some_iff] at h
      obtain ⟨k, h3, h⟩ := h
      split at h
      · cases h; exact snd_eqv hT hQ ho (.inl ⟨rfl, rfl⟩) h3 h1 h2
      · cases h; exact snd_eqv hT hQ ho (.inr ⟨rfl, rfl⟩) h3 h1 h2
      · cases h
  · obtain ⟨y, h1, rfl⟩ := Option.map_eq_some_iff.1 h; exact snd_not ho h1
  · obtain ⟨y, h1, rfl⟩ := Option.map_eq_some_iff.1 h; exact snd_neg ho h1
  · split at h
    case h_2 => cases h
    rename_i h1 h2
    obtain ⟨y, h3, rfl⟩ := Option.map_eq_some_iff.1 h
    exact snd_conv hT ho h1 h2 h3
  · simp only [Option.bind_eq_some_iff] at h
    obtain ⟨y, h1, lo, h2, hi, h3, h⟩ := h
    split at h
    · rename_i ht
      obtain ⟨n, h4, rfl⟩ := Option.map_eq_some_iff.1 h
      exact snd_slc hT ho h1 h2 h3 ht h4
    · rename_i ht
      obtain ⟨n, h4, rfl⟩ := Option.map_eq_some_iff.1 h
      exact snd_slcA hT ho h1 h2 h3 ht h4
    · cases h
  · simp only [Option.bind_eq_some_iff] at h
    obtain ⟨y, h1, h⟩ := h
    split at h
    case h_2 => cases h
    rename_i ht
    simp only [Option.bind_eq_some_iff] at h
    obtain ⟨q, h2, n, h3, h⟩ := h
    split at h
    case isTrue => cases h
    rename_i h0
    cases h
    exact snd_fad hT ho h1 ht h2 h3 h0
  · simp only [Option.bind_eq_some_iff] at h
    obtain ⟨y, h1, h⟩ := h
    split at h
    case h_2 => cases h
    rename_i ht
    simp only [Option.bind_eq_some_iff, Option.map_eq_some_iff] at h
    obtain ⟨q, h2, k, h3, rfl⟩ := h
    exact snd_fld hT ho h1 ht h2 h3
  · simp only [Option.bind_eq_some_iff] at h
    obtain ⟨y, h1, i, h2, h⟩ := h
    split at h
    · rename_i ht
      obtain ⟨n, h4, rfl⟩ := Option.map_eq_some_iff.1 h
      exact snd_iad hT ho h1 h2 ht h4
    · rename_i ht
      obtain ⟨n, h4, rfl⟩ := Option.map_eq_some_iff.1 h
      exact snd_iadS hT ho h1 h2 ht h4
    · cases h
  · simp only [Option.bind_eq_some_iff] at h
    obtain ⟨y, h1, i, h2, h⟩ := h
    split at h
    case h_2 => cases h
    rename_i ht
    simp only [Option.bind_eq_some_iff, Option.map_eq_some_iff] at h
    obtain ⟨n, h3, k, h4, rfl⟩ := h
    exact snd_idx hT ho h1 h2 ht h3 h4
  · simp only [Option.bind_eq_some_iff] at h
    obtain ⟨y, h1, i, h2, h⟩ := h
    split at h
    case h_2 => cases h
    rename_i ht
    simp only [Option.bind_eq_some_iff] at h
    obtain ⟨kk, h3, h⟩ := h
    split at h
    case isFalse => cases h
    rename_i hk
    obtain ⟨vk, h4, rfl⟩ := Option.map_eq_some_iff.1 h
    exact snd_lkup hT hQ ho ht hk h4 h1 h2
  · simp only [Option.bind_eq_some_iff] at h
    obtain ⟨x, h0, y, h1, i, h2, h⟩ := h
    split at h
    case h_2 => cases h
    rename_i ht
    simp only [Option.bind_eq_some_iff] at h
    obtain ⟨kk, h3, h⟩ := h
    split at h
    case isFalse => cases h
    rename_i hk
    obtain ⟨vk, h4, rfl⟩ := Option.map_eq_some_iff.1 h
    exact snd_mupd hT hQ (.inl ho) ht hk h0 h1 h2
  · simp only [Option.bind_eq_some_iff] at h
    obtain ⟨x, h0, y, h1, i, h2, h⟩ := h
    split at h
    case h_2 => cases h
    rename_i ht
    simp only [Option.bind_eq_some_iff] at h
    obtain ⟨kk, h3, h⟩ := h
    split at h
    case isFalse => cases h
    rename_i hk
    obtain ⟨vk, h4, rfl⟩ := Option.map_eq_some_iff.1 h
    exact snd_mupd hT hQ (.inr ho) ht hk h0 h1 h2
  · split at h
    case h_2 => cases h
    simp only [Option.bind_eq_some_iff, Option.map_eq_some_iff] at h
    obtain ⟨kk, h3, vk, h4, rfl⟩ := h
    exact snd_mmk ho
  · split at h
    case isFalse => cases h
    rename_i hs
    simp only [Option.bind_eq_some_iff] at h
    obtain ⟨y, h1, h⟩ := h
    split at h
    case h_2 => cases h
    rename_i ht
    split at h
    · rename_i k k' he
      split at h
      case isFalse => cases h
      rename_i hk
      subst hk
      cases h
      exact snd_mkS hT ho hs h1 ht he
    · rename_i he
      cases h
      exact snd_mkSB hT ho hs h1 ht he
    · cases h
  · split at h
    case isFalse => cases h
    rename_i hf
    obtain ⟨l, h1, rfl⟩ := Option.map_eq_some_iff.1 h
    exact snd_mkf ho hf h1
  · obtain ⟨y, h1, rfl⟩ := Option.map_eq_some_iff.1 h; exact snd_extr ho h1
  · cases h; exact snd_bad
  · cases h; exact snd_bad
  · split at h
    · rename_i hcal
      split at h
      case h_2 => cases h
      rename_i y t hargs hat
      have hargs' : _ = #[y] := Array.ext' hargs
      have hat' : _ = #[t] := Array.ext' hat
      split at h
      · rename_i ht
        obtain ⟨y', h1, rfl⟩ := Option.map_eq_some_iff.1 h
        exact snd_len hT ho hcal hargs' hat' ht h1
      · rename_i ht
        obtain ⟨y', h1, rfl⟩ := Option.map_eq_some_iff.1 h
        exact snd_lenM hT ho hcal hargs' hat' ht h1
      · cases h
    · rename_i hcal
      obtain ⟨l, h1, rfl⟩ := Option.map_eq_some_iff.1 h
      exact snd_mn ho hcal h1
    · rename_i hcal
      obtain ⟨l, h1, rfl⟩ := Option.map_eq_some_iff.1 h
      exact snd_mx ho hcal h1
    · rename_i hcal
      split at h
      case h_2 => cases h
      rename_i y z t t' hargs hat
      split at h
      case isFalse => cases h
      rename_i htt
      subst htt
      split at h
      case h_2 => cases h
      rename_i ht
      simp only [Option.bind_eq_some_iff] at h
      obtain ⟨⟨k, n⟩, h1, ti, h2, h⟩ := h
      split at h
      case isFalse => cases h
      rename_i hn
      simp only [Option.bind_eq_some_iff, Option.map_eq_some_iff] at h
      obtain ⟨y', h3, z', h4, rfl⟩ := h
      exact snd_app hT ho hcal (Array.ext' hargs) (Array.ext' hat) ht h1 h2 hn.2 h3 h4
    · rename_i hcal
      simp only [Option.bind_eq_some_iff, Option.map_eq_some_iff] at h
      obtain ⟨f', h1, l, h2, rfl⟩ := h
      exact snd_call hG hB ho hcal h1 h2
    · cases h
  · cases h

end
end Go.Proofs.Yteekkjfjpoaihaa.Eng

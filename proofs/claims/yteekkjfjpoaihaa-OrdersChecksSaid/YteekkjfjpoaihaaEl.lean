/- The engine, part 12: maps. -/
import Derived.Test.YteekkjfjpoaihaaEk
set_option linter.all false
namespace Go.Proofs.Yteekkjfjpoaihaa.Eng
open Go

section
variable {P : Program} {T : Tab} {cmp : Cmp} {r : Option Nat} {Γ : Cal → Option Spec}

def keyK : CK → Bool
  | .ints _ => true
  | .bools _ => true
  | _ => false

/-- a key as EQOK has it -/
theorem key_form {kt : TypeId} {kk : CK} (h : keyOk kt kk = true) : ∃ p n, alGet eqTab kt = some (p, n) ∧
    ∀ c, cvOk kk c = true → ∃ (a : List Int) (f : Nat → Bool), a.length = p ∧ valC kk c = .agg (a.map (Value.int .i64) ++ bcells n f).toArray ∧
      ∀ c', cvOk kk c' = true → ∃ (b : List Int) (g : Nat → Bool), b.length = p ∧ valC kk c' = .agg (b.map (Value.int .i64) ++ bcells n g).toArray ∧ (a == b && eqB n f g) = eqC kk c c' := by
  cases kk with
  | ints n =>
    refine ⟨n, 0, by simpa [keyOk] using h, fun c hc => ?_⟩
    cases c with
    | is l =>
      refine ⟨l, ff, by simpa [cvOk] using hc, by simp [valC, bcells], fun c' hc' => ?_⟩
      cases c' with
      | is l' => exact ⟨l', ff, by simpa [cvOk] using hc', by simp [valC, bcells], by simp [eqB, eqC]⟩
      | bl => simp [cvOk] at hc'
      | bf => simp [cvOk] at hc'
    | bl => simp [cvOk] at hc
    | bf => simp [cvOk] at hc
  | bools n =>
    refine ⟨0, n, by simpa [keyOk] using h, fun c hc => ?_⟩
    cases c with
    | bf f =>
      refine ⟨[], f, rfl, by simp [valC], fun c' hc' => ?_⟩
      cases c' with
      | bf g => exact ⟨[], g, rfl, by simp [valC], by simp [eqC]⟩
      | bl => simp [cvOk] at hc'
      | is => simp [cvOk] at hc'
    | bl => simp [cvOk] at hc
    | is => simp [cvOk] at hc
  | int1 => simp [keyOk] at h
  | bool1 => simp [keyOk] at h

theorem run_eqC (hQ : EQOK P) {kt : TypeId} {kk : CK} (h : keyOk kt kk = true) {c c' : CV} (hc : cvOk kk c = true) (hc' : cvOk kk c' = true) (w : World) : (Op.equal kt (valC kk c) (valC kk c')).run P w = .ok (eqC kk c c') w := by
  obtain ⟨p, n, h1, h2⟩ := key_form h
  obtain ⟨a, f, h3, h4, h5⟩ := h2 c hc
  obtain ⟨b, g, h6, h7, h8⟩ := h5 c' hc'
  rw [h4, h7, hQ.eq kt p n h1 a b f g w h3 h6, h8]

theorem run_checkKey (hQ : EQOK P) {kt : TypeId} {kk : CK} (h : keyOk kt kk = true) {c : CV} (hc : cvOk kk c = true) (e : Bool) (w : World) : (Instr.checkKey e 10000 kt (valC kk c)).run P w = .ok () w := by
  obtain ⟨p, n, h1, h2⟩ := key_form h
  obtain ⟨a, f, h3, h4, _⟩ := h2 c hc
  rw [h4, hQ.key kt p n h1 e a f w h3]

def findI (kk : CK) (c : CV) : List (CV × CV) → Option Nat
  | [] => none
  | (a, _) :: r => bif eqC kk c a then some 0 else (findI kk c r).map (· + 1)

theorem findI_findC (kk : CK) (c : CV) : ∀ (l : List (CV × CV)), (findI kk c l = none ∧ findC kk c l = none ∧ ∀ d, updC kk c d l = l ++ [(c, d)]) ∨
    ∃ j a v, findI kk c l = some j ∧ l[j]? = some (a, v) ∧ eqC kk c a = true ∧ findC kk c l = some v ∧ ∀ d, updC kk c d l = l.set j (c, d)
  | [] => .inl ⟨rfl, rfl, fun _ => rfl⟩
  | (a, v) :: r => by
    cases he : eqC kk c a with
    | true => exact .inr ⟨0, a, v, by simp [findI, he], rfl, he, by simp [findC, he], fun d => by simp [updC, he]⟩
    | false =>
      rcases findI_findC kk c r with ⟨h1, h2, h3⟩ | ⟨j, a', v', h1, h2, h3, h4, h5⟩
      · exact .inl ⟨by simp [findI, he, h1], by simp [findC, he, h2], fun d => by simp [updC, he, h3]⟩
      · exact .inr ⟨j + 1, a', v', by simp [findI, he, h1], by simpa using h2, h3, by simp [findC, he, h4], fun d => by simp [updC, he, h5]⟩

abbrev EntR (kk vk : CK) : CV × CV → MapEntry → Prop := fun e x => cvOk kk e.1 = true ∧ cvOk vk e.2 = true ∧ x.key = valC kk e.1 ∧ x.val = valC vk e.2

theorem run_findAsking (hQ : EQOK P) {kt : TypeId} {kk vk : CK} (h : keyOk kt kk = true) {c : CV} (hc : cvOk kk c = true) (w : World) : ∀ (ents : List (CV × CV)) (es : List MapEntry) (i : Nat), All2 (EntR kk vk) ents es →
    (Instr.findAsking kt (valC kk c) es i).run P w = .ok ((findI kk c ents).bind fun j => (ents[j]?).map fun e => (i + j, valC vk e.2)) w
  | [], [], i, _ => by simp [Instr.findAsking, findI]
  | [], _ :: _, _, h => h.elim
  | _ :: _, [], _, h => h.elim
  | (a, v) :: ents, e :: es, i, ⟨⟨h1, h2, h3, h4⟩, hr⟩ => by
    have he := run_eqC hQ h hc h1 w
    have ih := run_findAsking hQ h hc w ents es (i + 1) hr
    simp only [Instr.findAsking, Sem.run_bind, h3, he, Result.andThen_ok]
    cases hb : eqC kk c a with
    | true => simp [findI, hb, h4]
    | false =>
      simp only [Bool.false_eq_true, if_false, ih, findI, hb, cond_false]
      cases findI kk c ents with
      | none => simp
      | some j => simp [Nat.add_assoc, Nat.add_comm 1 j]

theorem findNow_agg (d : TypeDesc) (hd : isAggD d = true) (k : Value) (e : MapEntry) (es : List MapEntry) (i : Nat) : Instr.findNow d k (e :: es) i = none := by
  have : Instr.sameNow d k e.key = none := by cases d <;> simp [isAggD] at hd <;> rfl
  simp [Instr.findNow, this]

theorem run_findKey (hQ : EQOK P) {kt : TypeId} {kk vk : CK} (h : keyOk kt kk = true) {c : CV} (hc : cvOk kk c = true) (w : World) (ents : List (CV × CV)) (es : List MapEntry) (hr : All2 (EntR kk vk) ents es) :
    (Instr.findKey kt (valC kk c) es).run P w = .ok ((findI kk c ents).bind fun j => (ents[j]?).map fun e => (j, valC vk e.2)) w := by
  obtain ⟨p, n, h1, _⟩ := key_form h
  obtain ⟨d, h2, h3⟩ := hQ.und kt p n h1
  unfold Instr.findKey
  simp only [Sem.run_bind, run_underlying h2, Result.andThen_ok]
  cases es with
  | nil =>
    cases ents with
    | nil => simp [Instr.findNow, findI]
    | cons _ _ => exact hr.elim
  | cons e es =>
    rw [findNow_agg d h3]
    have := run_findAsking hQ h hc w ents (e :: es) 0 hr
    simpa using this

theorem cvOf_snd {m : MM} {kk : CK} {kv : AV} {c : CV} {val : Value} (h : cvOf kk kv = some c) (hv : AR m kv val) : cvOk kk c = true ∧ val = valC kk c := by
  unfold cvOf at h
  split at h
  · split at h
    · split at h
      case isFalse => cases h
      rename_i hk
      subst hk
      cases h
      have : val = .int .i64 _ := hv
      exact ⟨rfl, by rw [this]; rfl⟩
    · cases h
  · split at h
    · cases h
      have : val = .bool _ := hv
      exact ⟨rfl, this⟩
    · cases h
  · split at h
    · split at h
      case isFalse => cases h
      rename_i hcond
      obtain ⟨rfl, rfl⟩ := hcond
      rename_i pre f _
      cases hq : intsOf .i64 pre with
      | none => simp [hq] at h
      | some l =>
        simp [hq] at h
        subst h
        obtain ⟨cs, rfl, hp⟩ := hv
        have := hp.ints hq
        obtain ⟨h1, _⟩ := intsOf_get hq
        exact ⟨by simp [cvOk, h1], by simp [valC, this]⟩
    · split at h
      case isFalse => cases h
      rename_i hcond
      obtain ⟨hl, rfl⟩ := hcond
      cases h
      obtain ⟨cs, rfl, hp⟩ := hv
      have hpe := List.eq_nil_of_length_eq_zero hl
      subst hpe
      exact ⟨rfl, by simp [valC, hp.none]⟩
    · cases h
  · cases h

theorem avOf_some {vk : CK} {d : CV} (h : cvOk vk d = true) (m : MM) : AR m (avOf vk (some d)) (valC vk d) := by
  cases vk with
  | int1 =>
    cases d with
    | is l =>
      cases l with
      | nil => simp [cvOk] at h
      | cons a l => rfl
    | bl => simp [cvOk] at h
    | bf => simp [cvOk] at h
  | bool1 =>
    cases d with
    | bl b => rfl
    | is => simp [cvOk] at h
    | bf => simp [cvOk] at h
  | ints n =>
    cases d with
    | is l =>
      have hl : l.length = n := by simpa [cvOk] using h
      refine ⟨l.map (Value.int .i64), rfl, ?_⟩
      exact intsPR (by simpa using hl) (fun j hj => by simp [List.getD, (by omega : j < l.length)])
    | bl => simp [cvOk] at h
    | bf => simp [cvOk] at h
  | bools n =>
    cases d with
    | bf f => exact ⟨bcells n f, rfl, [], trivial, by simp, by simp⟩
    | bl => simp [cvOk] at h
    | is => simp [cvOk] at h

theorem ckT_zero (hT : TOK P T) {e : TypeId} {vk : CK} (h : ckT T e = some vk) : ∃ zv, (∀ w, (zeroValue e).run P w = .ok zv w) ∧ ∀ m, AR m (avOf vk none) zv := by
  unfold ckT at h
  split at h
  · rename_i a hz
    split at h
    case isFalse => cases h
    rename_i ha
    subst ha
    cases h
    obtain ⟨zv, h1, h2⟩ := T_zero hT hz
    exact ⟨zv, h1, h2⟩
  · rename_i b hz
    split at h
    case isFalse => cases h
    rename_i hb
    subst hb
    cases h
    obtain ⟨zv, h1, h2⟩ := T_zero hT hz
    exact ⟨zv, h1, h2⟩
  · rename_i n f hz
    split at h
    case isFalse => cases h
    rename_i hzf
    cases h
    obtain ⟨zv, h1, h2⟩ := T_zero hT hz
    refine ⟨zv, h1, fun m => ?_⟩
    obtain ⟨cs, rfl, hp⟩ := h2 m
    refine ⟨cs, rfl, ?_⟩
    have hff := zFalse_spec hzf
    refine ⟨[], trivial, by simp, ?_⟩
    rw [hp.none, List.nil_append]
    apply List.ext_getElem?
    intro j
    by_cases hj : j < n
    · rw [bcells_get _ _ _ hj, bcells_get _ _ _ hj, hff j hj]; rfl
    · rw [List.getElem?_eq_none (by rw [bcells_length]; omega), List.getElem?_eq_none (by rw [bcells_length]; omega)]
  · rename_i a rr f hz
    cases hq : intsOf .i64 (.int .i64 a :: rr) with
    | none => simp [hq] at h
    | some l =>
      simp only [hq, Option.bind_some] at h
      split at h
      case isFalse => cases h
      rename_i hall
      cases h
      obtain ⟨zv, h1, h2⟩ := T_zero hT hz
      refine ⟨zv, h1, fun m => ?_⟩
      obtain ⟨cs, rfl, hp⟩ := h2 m
      refine ⟨cs, rfl, ?_⟩
      have hcs := hp.ints hq
      refine intsPR (g := fun _ => 0) (by simp [hcs]) (fun j hj => ?_)
      have h0 : l[j] = 0 := by
        have := List.all_eq_true.1 hall l[j] (List.getElem_mem hj)
        simpa using this
      simp [hcs, hj, h0]
  · cases h

theorem snd_lkup (hT : TOK P T) (hQ : EQOK P) {o : Oper} {t kt e' : TypeId} {y z : Operand} {y' z' : XO} {ok : Bool} {kk vk : CK} {s b : Nat} {zz : Option AV} (ho : o.op = .lookup t y z ok) (ht : T t = some ⟨.map kt e', s, b, zz⟩) (hk : keyOk kt kk = true) (hvk : ckT T e' = some vk)
    (hc : cO y = some y') (hz : cO z = some z') : Snd P cmp r Γ o (.lkup kk vk ok y' z') := by
  refine snd_pure (by simp [ho]) fun ctx m hp w a ev base e hE hH hx hvc => ?_
  have hv := hE y y' hc (by simp [need, XI.opnds])
  have hzv := hE z z' hz (by simp [need, XI.opnds])
  have hu := T_und hT ht
  obtain ⟨zv, hz1, hz2⟩ := ckT_zero hT hvk
  simp only [xi] at hx
  split at hx
  · rename_i kv h1 h2
    rw [h1] at hv
    rw [h2] at hzv
    have hv' : a.eval y = .map none := hv
    cases hcv : cvOf kk kv with
    | none => simp [hcv] at hx
    | some c =>
      simp only [hcv, Option.bind_some, pureE, Option.some.injEq] at hx
      subst hx
      obtain ⟨hok, hval⟩ := cvOf_snd hcv hzv
      have hck := run_checkKey hQ hk hok true w
      have hfk := run_findKey hQ (vk := vk) hk hok w [] [] trivial
      simp only [findI, Option.bind_none] at hfk
      cases ok with
      | true =>
        refine ⟨rfl, rfl, .tuple #[zv, .bool false], ?_, [zv, .bool false], rfl, hz2 m, rfl, trivial⟩
        simp [execOp, ho, Instr.lookup, run_underlying hu, hv', hval, hck, hfk, hz1]
      | false =>
        refine ⟨rfl, rfl, zv, ?_, hz2 m⟩
        simp [execOp, ho, Instr.lookup, run_underlying hu, hv', hval, hck, hfk, hz1]
  · rename_i id kv h1 h2
    rw [h1] at hv
    rw [h2] at hzv
    split at hx
    case h_2 => cases hx
    rename_i ro kk' vk' ents hho
    split at hx
    case isFalse => cases hx
    rename_i hcond
    obtain ⟨rfl, rfl⟩ := hcond
    cases hcv : cvOf kk kv with
    | none => simp [hcv] at hx
    | some c =>
      simp only [hcv, Option.map_some, Option.some.injEq] at hx
      subst hx
      obtain ⟨hok, hval⟩ := cvOf_snd hcv hzv
      obtain ⟨mb, bb, g1, g2, hv'⟩ := hv
      obtain ⟨mb', g1', hor, _⟩ := hH.obj id _ hho
      rw [g1] at g1'
      cases g1'
      obtain ⟨b', es, clock, k1, k2, k3⟩ := hor
      rw [g2] at k1
      cases k1
      have hg : (getObj bb).run P w = .ok (.map es clock) w := by simp [getObj, Sem.run, k2]
      have hck := run_checkKey hQ hk hok es.isEmpty w
      have hfk := run_findKey hQ hk hok w ents es.toList k3
      rcases findI_findC kk c ents with ⟨f1, f2, _⟩ | ⟨j, a', v', f1, f2, f3, f4, _⟩
      · simp only [f1, Option.bind_none] at hfk
        rw [f2]
        cases ok with
        | true =>
          refine ⟨rfl, rfl, .tuple #[zv, .bool false], ?_, [zv, .bool false], rfl, hz2 m, rfl, trivial⟩
          simp [execOp, ho, Instr.lookup, run_underlying hu, hv', hg, hval, hck, hfk, hz1]
        | false =>
          refine ⟨rfl, rfl, zv, ?_, hz2 m⟩
          simp [execOp, ho, Instr.lookup, run_underlying hu, hv', hg, hval, hck, hfk, hz1]
      · simp only [f1, Option.bind_some, f2, Option.map_some] at hfk
        rw [f4]
        obtain ⟨en, q1, q2⟩ := k3.get f2
        cases ok with
        | true =>
          refine ⟨rfl, rfl, .tuple #[valC vk v', .bool true], ?_, [valC vk v', .bool true], rfl, avOf_some q2.2.1 m, rfl, trivial⟩
          simp [execOp, ho, Instr.lookup, run_underlying hu, hv', hg, hval, hck, hfk]
        | false =>
          refine ⟨rfl, rfl, valC vk v', ?_, avOf_some q2.2.1 m⟩
          simp [execOp, ho, Instr.lookup, run_underlying hu, hv', hg, hval, hck, hfk]
  · cases hx

theorem eqB_cells : ∀ {n : Nat} {f g : Nat → Bool}, eqB n f g = true → bcells n f = bcells n g
  | 0, _, _, _ => rfl
  | n + 1, f, g, h => by
    simp only [eqB, Bool.and_eq_true, beq_iff_eq] at h
    have ih := eqB_cells h.1
    unfold bcells at *
    rw [List.range_succ, List.map_append, List.map_append, ih]
    simp [h.2]

theorem eqC_val {kk : CK} (hk : keyK kk = true) {c c' : CV} (h : eqC kk c c' = true) : valC kk c = valC kk c' := by
  cases c <;> cases c' <;> simp [eqC] at h
  · subst h; rfl
  · subst h; rfl
  · cases kk with
    | bools n => simp at h; simp [valC, eqB_cells h]
    | ints n => simp at h
    | int1 => simp at h
    | bool1 => simp at h

theorem sameBits_cells (d : Nat) (l : List Value) (h : ∀ v ∈ l, (∃ n, v = .int .i64 n) ∨ ∃ b, v = .bool b) : Instr.sameBits (d + 2) (.agg l.toArray) (.agg l.toArray) = true := by
  simp only [Instr.sameBits, List.size_toArray, beq_self_eq_true, Bool.true_and]
  rw [List.all_eq_true]
  intro x hx
  have : x.1 = x.2 ∧ x.1 ∈ l := by
    clear h
    induction l with
    | nil => simp at hx
    | cons v l ih =>
      simp at hx
      rcases hx with rfl | hx
      · simp
      · have := ih (by simpa using hx)
        exact ⟨this.1, by simp [this.2]⟩
  rw [← this.1]
  rcases h x.1 this.2 with ⟨n, e⟩ | ⟨b, e⟩ <;> rw [e] <;> simp [Instr.sameBits]

theorem run_keyStays {kk : CK} (hk : keyK kk = true) {c : CV} (hc : cvOk kk c = true) (w : World) : (Instr.keyThatStays (valC kk c) (valC kk c)).run P w = .ok (valC kk c) w := by
  have : Instr.sameBits 10000 (valC kk c) (valC kk c) = true := by
    cases kk <;> cases c <;> simp [cvOk, keyK] at hc hk
    · exact sameBits_cells 9998 _ (fun v hv => by simp at hv; obtain ⟨x, _, rfl⟩ := hv; exact .inl ⟨x, rfl⟩)
    · exact sameBits_cells 9998 _ (fun v hv => by simp [bcells] at hv; obtain ⟨x, _, rfl⟩ := hv; exact .inr ⟨_, rfl⟩)
  unfold Instr.keyThatStays
  rw [if_pos this]
  rfl

theorem keyK_of {kt : TypeId} {kk : CK} (h : keyOk kt kk = true) : keyK kk = true := by cases kk <;> first | rfl | simp [keyOk] at h

theorem All2.setR {α β : Type} {R : α → β → Prop} {l : List α} {r : List β} (h : All2 R l r) {j : Nat} {a : α} {b : β} (hr : R a b) : All2 R (l.set j a) (r.set j b) := h.set hr

theorem snd_mupd (hT : TOK P T) (hQ : EQOK P) {o : Oper} {t kt e' : TypeId} {x y z : Operand} {x' y' z' : XO} {kk vk : CK} {s b : Nat} {zz : Option AV} (ho : o.op = .mapUpdate t x y z ∨ o.op = .insert t x y z) (ht : T t = some ⟨.map kt e', s, b, zz⟩) (hk : keyOk kt kk = true)
    (hx' : cO x = some x') (hc : cO y = some y') (hz : cO z = some z') : Snd P cmp r Γ o (.mupd kk vk x' y' z') := by
  intro ctx m hp w a ev base e K Q hE hH hfr hup hx hvc hK
  have hv := hE x x' hx' (by simp [need, XI.opnds])
  have hyv := hE y y' hc (by simp [need, XI.opnds])
  have hzv := hE z z' hz (by simp [need, XI.opnds])
  have hu := T_und hT ht
  simp only [xi] at hx
  split at hx
  case h_2 => cases hx
  rename_i id kv vv h1 h2 h3
  rw [h1] at hv
  rw [h2] at hyv
  rw [h3] at hzv
  split at hx
  case h_2 => cases hx
  rename_i kk' vk' ents hho
  split at hx
  case isFalse => cases hx
  rename_i hcond
  obtain ⟨rfl, rfl⟩ := hcond
  cases hcv : cvOf kk kv with
  | none => simp [hcv] at hx
  | some c =>
    cases hdv : cvOf vk vv with
    | none => simp [hcv, hdv] at hx
    | some d =>
      simp only [hcv, hdv, Option.bind_some, Option.map_some, Option.some.injEq] at hx
      subst hx
      obtain ⟨hok, hval⟩ := cvOf_snd hcv hyv
      obtain ⟨hokd, hvald⟩ := cvOf_snd hdv hzv
      obtain ⟨mb, bb, g1, g2, hv'⟩ := hv
      obtain ⟨mb', g1', hor, _⟩ := hH.obj id _ hho
      rw [g1] at g1'
      cases g1'
      obtain ⟨b', es, clock, k1, k2, k3⟩ := hor
      rw [g2] at k1
      cases k1
      have hlt : bb < w.heap.size := (Array.getElem?_eq_some_iff.1 k2).1
      have hg : (getObj bb).run P w = .ok (.map es clock) w := by simp [getObj, Sem.run, k2]
      have hset : ∀ ob, (setObj bb ob).run P w = .ok () { w with heap := w.heap.setIfInBounds bb ob } := fun ob => by simp [setObj, Sem.run, k2]
      have hck := run_checkKey hQ hk hok false w
      have hfk := run_findKey hQ hk hok w ents es.toList k3
      have fin : ∀ es' clock', (Instr.mapUpdate t (a.eval x) (a.eval y) (a.eval z)).run P w = .ok () { w with heap := w.heap.setIfInBounds bb (.map es' clock') } →
          All2 (EntR kk vk) (updC kk c d ents) es'.toList → o.wpIn (FR r) 0 P a w K Q := by
        intro es' clock' hr hall
        refine wpSk (w' := { w with heap := w.heap.setIfInBounds bb (.map es' clock') }) (by rcases ho with ho | ho <;> simp [ho]) ?_ (hK _ _ m trivial (Stp.upd1 hH g1 g2 ⟨by simp, fun k hkb => ?_, rfl, rfl, rfl⟩ ⟨bb, es', clock', g2, ?_, hall⟩))
        · rcases ho with ho | ho <;> simp [execOp, ho, hr]
        · simp [Array.getElem?_setIfInBounds, Ne.symm hkb]
        · simp [hlt]
      rcases findI_findC kk c ents with ⟨f1, f2, f3⟩ | ⟨j, a', v', f1, f2, f3, f4, f5⟩
      · simp only [f1, Option.bind_none] at hfk
        refine fin (es.push { key := valC kk c, val := valC vk d, born := clock }) (clock + 1) ?_ ?_
        · simp [Instr.mapUpdate, run_underlying hu, hv', hg, hval, hvald, hck, hfk, hset]
        · rw [f3, Array.toList_push]
          exact k3.append ⟨⟨hok, hokd, rfl, rfl⟩, trivial⟩
      · simp only [f1, Option.bind_some, f2, Option.map_some] at hfk
        obtain ⟨en, q1, q2⟩ := k3.get f2
        have q1' : es[j]? = some en := by simpa using q1
        have hkey : en.key = valC kk c := by rw [q2.2.2.1, eqC_val (keyK_of hk) f3]
        have hstay : (Instr.keyThatStays (valC kk c) (valC kk c)).run P w = .ok (valC kk c) w := run_keyStays (keyK_of hk) hok w
        refine fin (es.modify j fun e => { e with key := valC kk c, val := valC vk d }) clock ?_ ?_
        · simp [Instr.mapUpdate, run_underlying hu, hv', hg, hval, hvald, hck, hfk, hset, q1', hkey, hstay]
        · rw [f5]
          have e1 : (es.modify j fun e => { e with key := valC kk c, val := valC vk d }).toList = es.toList.set j { en with key := valC kk c, val := valC vk d } := by
            apply List.ext_getElem?
            intro i
            simp only [Array.getElem?_toList, Array.getElem?_modify, List.getElem?_set]
            by_cases hij : j = i
            · subst hij
              have hjl : j < es.size := (Array.getElem?_eq_some_iff.1 q1').1
              have hen : es[j] = en := (Array.getElem?_eq_some_iff.1 q1').2
              simp [hjl, hen]
            · simp [hij]
          rw [e1]
          exact k3.set ⟨hok, hokd, rfl, rfl⟩

theorem snd_mmk {o : Oper} {t : TypeId} {kk vk : CK} (ho : o.op = .makeMap t none) : Snd P cmp r Γ o (.mmk kk vk) := by
  intro ctx m hp w a ev base e K Q hE hH hfr hup hx hvc hK
  simp only [xi, Option.some.injEq] at hx
  subst hx
  have hm := hH.dom base (by simpa using hfr 0 (by simp))
  refine wpI (by simp [ho]) (v := .map (some w.heap.size)) (w' := w.alloc (.map #[] 0)) (by simp [execOp, ho, Instr.makeMap]) (hK _ _ (m.put base ⟨some w.heap.size, 0, 0⟩) ?_ ?_)
  · exact ⟨_, _, m.put_same _ _, rfl, rfl⟩
  · exact Stp.new1 hm rfl rfl rfl rfl rfl ⟨_, #[], 0, rfl, heap_alloc_new w _, trivial⟩

end
end Go.Proofs.Yteekkjfjpoaihaa.Eng

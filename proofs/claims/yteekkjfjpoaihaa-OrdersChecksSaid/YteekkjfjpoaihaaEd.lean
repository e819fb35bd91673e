/- The engine, part 4: one operation of the executor is sound: what does not call. -/
import Derived.Test.YteekkjfjpoaihaaEc
set_option linter.all false
namespace Go.Proofs.Yteekkjfjpoaihaa.Eng
open Go

def isAggD : TypeDesc → Bool
  | .struct _ => true
  | .array _ _ => true
  | _ => false

structure TOK (P : Program) (T : Tab) : Prop where
  und : ∀ t ti, T t = some ti → P.underlying t = some ti.d
  info : ∀ t ti, T t = some ti → ∃ i, P.info? t = some i ∧ i.size = ti.size ∧ i.bytes = ti.bytes ∧ ∀ z, ti.z = some z → ∃ zv, i.zero = some zv ∧ ∀ m, AR m z zv
  shape : ∀ t ti z, T t = some ti → ti.z = some z →
    (match z with
     | .s x => ti.size = 1 ∧ x.known = true ∧ isAggD ti.d = false
     | .pb pre n _ => ti.size = pre.length + n ∧ pre.all SV.known = true ∧ isAggD ti.d = true)

/-- '==' of the aggregates that are compared is cell by cell; they may be keys -/
structure EQOK (P : Program) : Prop where
  guard : ∀ t p n, alGet eqTab t = some (p, n) → P.eqGuardType P.depth t = false
  eq : ∀ t p n, alGet eqTab t = some (p, n) → ∀ (a b : List Int) (f g : Nat → Bool) (w : World), a.length = p → b.length = p →
    (Op.equal t (.agg (a.map (Value.int .i64) ++ bcells n f).toArray) (.agg (b.map (Value.int .i64) ++ bcells n g).toArray)).run P w = .ok (a == b && eqB n f g) w
  key : ∀ t p n, alGet eqTab t = some (p, n) → ∀ (e : Bool) (a : List Int) (f : Nat → Bool) (w : World), a.length = p → (Instr.checkKey e 10000 t (.agg (a.map (Value.int .i64) ++ bcells n f).toArray)).run P w = .ok () w
  und : ∀ t p n, alGet eqTab t = some (p, n) → ∃ d, P.underlying t = some d ∧ isAggD d = true

def FR (r : Option Nat) : Fence := { fn := fun _ => True, depth := none, alive := false, round := r }

section
variable {P : Program} {T : Tab} {cmp : Cmp} {r : Option Nat} {Γ : Cal → Option Spec}

theorem wpI {o : Oper} {a : Act} {w w' : World} {K : Act → World → Prop} {Q : Exit → Act → World → Prop} {v : Value} (hd : ∀ c, o.op ≠ .defer c)
    (hrun : (execOp a.eval o).run P w = .ok (.value v) w') (hK : K (a.put o.dst v) w') : o.wpIn (FR r) 0 P a w K Q :=
  ⟨fun _ _ => trivial, by rw [Oper.semAt_eq _ _ _ hd, hrun]; exact hK⟩

theorem wpSk {o : Oper} {a : Act} {w w' : World} {K : Act → World → Prop} {Q : Exit → Act → World → Prop} (hd : ∀ c, o.op ≠ .defer c)
    (hrun : (execOp a.eval o).run P w = .ok .skip w') (hK : K (a.put o.dst undef) w') : o.wpIn (FR r) 0 P a w K Q :=
  ⟨fun _ _ => trivial, by rw [Oper.semAt_eq _ _ _ hd, hrun]; exact hK⟩

theorem Stp.refl (cmp : Cmp) (m : MM) (w : World) (base : Nat) : Stp cmp m m w w [] base [] where
  ext := m.le_refl
  dom := fun _ _ h => .inl h
  size := Nat.le_refl _
  same := fun _ _ _ => rfl
  os := rfl
  tape := rfl
  output := rfl
  upd := fun _ h => by cases h
  new := fun _ _ h => by simp at h
  ndist := fun _ _ _ _ _ h => by simp at h

def MM.put (m : MM) (id : Nat) (mb : MB) : MM := fun i => if i = id then some mb else m i
theorem MM.le_put {m : MM} {id : Nat} {mb : MB} (h : m id = none) : m.le (m.put id mb) := by
  intro i x hx
  unfold MM.put
  split
  · rename_i e; subst e; rw [h] at hx; cases hx
  · exact hx
theorem MM.put_same (m : MM) (id : Nat) (mb : MB) : (m.put id mb) id = some mb := by simp [MM.put]

theorem Stp.new1 {m : MM} {w w' : World} {base : Nat} {o : AO} {obj : Obj} {mb : MB} (hm : m base = none) (hb : mb.b = some w.heap.size) (hh : w'.heap = w.heap.push obj) (hos : w'.os = w.os) (htp : w'.tape = w.tape) (hop : w'.output = w.output)
    (ho : OR cmp (m.put base mb) mb o w') : Stp cmp m (m.put base mb) w w' [] base [⟨false, o⟩] where
  ext := MM.le_put hm
  dom := fun id x h => by
    unfold MM.put at h
    split at h
    · rename_i e; exact .inr ⟨by omega, by simp; omega⟩
    · exact .inl h
  size := by rw [hh]; simp
  same := fun b hb _ => by rw [hh, Array.getElem?_push, if_neg (by omega)]
  os := hos
  tape := htp
  output := hop
  upd := fun _ h => by cases h
  new := fun k ho' h => by
    cases k with
    | zero =>
      simp at h
      subst h
      refine ⟨mb, m.put_same base mb, ho, fun b hb' => ?_⟩
      rw [hb] at hb'
      cases hb'
      rw [hh]
      simp
    | succ k => simp at h
  ndist := fun k k' _ _ _ h h' hne => by simp at h h'; omega

/-- the operands that must be what they say -/
def need (ev : XO → TV) : XI → List XO
  | .pick c a b => c :: (match ev c with | .av (.s (.bool t)) => bif t then [a] else [b] | _ => [])
  | x => x.opnds

/-- what is shown of an operation -/
def Snd (P : Program) (cmp : Cmp) (r : Option Nat) (Γ : Cal → Option Spec) (o : Oper) (x : XI) : Prop :=
  ∀ (ctx : Ctx) (m : MM) (h : Nat → Option HO) (w : World) (a : Act) (ev : XO → TV) (base : Nat) (e : Eff) (K : Act → World → Prop) (Q : Exit → Act → World → Prop),
    (∀ y xo, cO y = some xo → xo ∈ need ev x → TR m (ev xo) (a.eval y)) → HRel cmp ctx m h w → (∀ k, k < e.news.length → h (base + k) = none) → updOk h e.upd = true →
    xi Γ x ev h base = some e → e.vc = true →
    (∀ v w' m', TR m' e.val v → Stp cmp m m' w w' e.upd base e.news → K (a.put o.dst v) w') → o.wpIn (FR r) 0 P a w K Q

theorem addr_add (b o i : Nat) : (⟨b, o, none⟩ : Addr).add i = ⟨b, o + i, none⟩ := by unfold Addr.add; split <;> simp_all

/-- an operation that only computes -/
theorem snd_pure {o : Oper} {x : XI} (hd : ∀ c, o.op ≠ .defer c)
    (h : ∀ (ctx : Ctx) (m : MM) (h : Nat → Option HO) (w : World) (a : Act) (ev : XO → TV) (base : Nat) (e : Eff),
      (∀ y xo, cO y = some xo → xo ∈ need ev x → TR m (ev xo) (a.eval y)) → HRel cmp ctx m h w → xi Γ x ev h base = some e → e.vc = true →
      e.upd = [] ∧ e.news = [] ∧ ∃ v, (execOp a.eval o).run P w = .ok (.value v) w ∧ TR m e.val v) : Snd P cmp r Γ o x := by
  intro ctx m hp w a ev base e K Q hE hH hfr hup hx hvc hK
  obtain ⟨h1, h2, v, h3, h4⟩ := h ctx m hp w a ev base e hE hH hx hvc
  exact wpI hd h3 (hK v w m h4 (by rw [h1, h2]; exact Stp.refl cmp m w base))

theorem snd_mv {o : Oper} {y : Operand} {xo : XO} (ho : o.op = .move y ∨ o.op = .assign y) (hc : cO y = some xo) : Snd P cmp r Γ o (.mv xo) := by
  refine snd_pure (by rcases ho with ho | ho <;> simp [ho]) fun ctx m hp w a ev base e hE hH hx hvc => ?_
  simp only [xi, pureE, Option.some.injEq] at hx
  subst hx
  refine ⟨rfl, rfl, a.eval y, ?_, hE y xo hc (by simp [need, XI.opnds])⟩
  rcases ho with ho | ho <;> simp [execOp, ho]

theorem TR_bool {m : MM} {b : Bool} {v : Value} : TR m (B b) v ↔ v = .bool b := Iff.rfl
theorem TR_int {m : MM} {k : IntKind} {n : Int} {v : Value} : TR m (.av (.s (.int k n))) v ↔ v = .int k n := Iff.rfl

theorem snd_pick {o : Oper} {c x y : Operand} {c' x' y' : XO} (ho : o.op = .pick c x y) (hc : cO c = some c') (hx' : cO x = some x') (hy' : cO y = some y') : Snd P cmp r Γ o (.pick c' x' y') := by
  refine snd_pure (by simp [ho]) fun ctx m hp w a ev base e hE hH hx hvc => ?_
  have hcv := hE c c' hc (by simp [need])
  simp only [xi] at hx
  split at hx
  case h_2 => cases hx
  rename_i t ht
  rw [ht] at hcv
  have hcv' : a.eval c = .bool t := hcv
  have hsel : ∀ z z', cO z = some z' → z' = (bif t then x' else y') → TR m (ev z') (a.eval z) := fun z z' h1 h2 => hE z z' h1 (by cases t <;> simp [need, ht, h2])
  cases t with
  | true =>
    have hxv := hsel x x' hx' rfl
    refine ⟨?_, ?_, a.eval x, by simp [execOp, ho, hcv', asBool], ?_⟩
    all_goals (split at hx <;> first | cases hx | (simp only [pureE, Option.some.injEq] at hx; subst hx; first | rfl | skip))
    all_goals first | (simp at hvc; done) | simp_all
  | false =>
    have hyv := hsel y y' hy' rfl
    refine ⟨?_, ?_, a.eval y, by simp [execOp, ho, hcv', asBool], ?_⟩
    all_goals (split at hx <;> first | cases hx | (simp only [pureE, Option.some.injEq] at hx; subst hx; first | rfl | skip))
    all_goals first | (simp at hvc; done) | simp_all

theorem snd_not {o : Oper} {t : TypeId} {y : Operand} {y' : XO} (ho : o.op = .unOp .not t y) (hc : cO y = some y') : Snd P cmp r Γ o (.not y') := by
  refine snd_pure (by simp [ho]) fun ctx m hp w a ev base e hE hH hx hvc => ?_
  have hv := hE y y' hc (by simp [need, XI.opnds])
  simp only [xi] at hx
  split at hx
  case h_2 => cases hx
  rename_i b hb
  rw [hb, TR_bool] at hv
  simp only [pureE, Option.some.injEq] at hx
  subst hx
  exact ⟨rfl, rfl, .bool !b, by simp [execOp, ho, hv, Op.unary], rfl⟩

theorem rng64_wrap {e : Int} (h : rng64 e = true) : IntKind.i64.wrap e = e := by
  simp [rng64_eq] at h
  exact IntWalk.i64_in e h

theorem arith_snd {k : IntKind} {e : Int} {f : Eff} (h : arith k e = some f) (hvc : f.vc = true) : f.upd = [] ∧ f.news = [] ∧ f.val = .av (.s (.int k (k.wrap e))) := by
  unfold arith at h
  split at h
  · simp only [pureE, Option.some.injEq] at h
    subst h
    exact ⟨rfl, rfl, by rw [rng64_wrap hvc]⟩
  · simp only [pureE, Option.some.injEq] at h
    subst h
    exact ⟨rfl, rfl, rfl⟩

theorem snd_neg {o : Oper} {t : TypeId} {y : Operand} {y' : XO} (ho : o.op = .unOp .neg t y) (hc : cO y = some y') : Snd P cmp r Γ o (.neg y') := by
  refine snd_pure (by simp [ho]) fun ctx m hp w a ev base e hE hH hx hvc => ?_
  have hv := hE y y' hc (by simp [need, XI.opnds])
  simp only [xi] at hx
  split at hx
  case h_2 => cases hx
  rename_i k n hb
  rw [hb, TR_int] at hv
  obtain ⟨h1, h2, h3⟩ := arith_snd hx hvc
  refine ⟨h1, h2, .int k (k.wrap (0 - n)), by simp [execOp, ho, hv, Op.unary, Op.intArith], by rw [h3]; rfl⟩

theorem snd_conv (hT : TOK P T) {o : Oper} {s d : TypeId} {y : Operand} {y' : XO} {k k' : IntKind} (ho : o.op = .convert s d y) (hs : kindT T s = some k') (hd : kindT T d = some k) (hc : cO y = some y') : Snd P cmp r Γ o (.conv k y') := by
  refine snd_pure (by simp [ho]) fun ctx m hp w a ev base e hE hH hx hvc => ?_
  have hv := hE y y' hc (by simp [need, XI.opnds])
  have und : ∀ {t k}, kindT T t = some k → P.underlying t = some (.int k) := by
    intro t k h
    unfold kindT at h
    split at h
    · rename_i ht; cases h; exact hT.und _ _ ht
    · cases h
  simp only [xi] at hx
  split at hx
  case h_2 => cases hx
  rename_i k n hb
  rw [hb, TR_int] at hv
  simp only [pureE, Option.some.injEq] at hx
  subst hx
  exact ⟨rfl, rfl, _, by simp [execOp, ho, hv, convert, run_underlying (und hs), run_underlying (und hd), Conv.intToInt], rfl⟩

theorem run_eqGuard_int (op : BinOp) (t : TypeId) (x y : Operand) (k k' : IntKind) (a b : Int) (w : World) : (eqGuard op t x y (.int k a) (.int k' b)).run P w = .ok () w := by
  unfold eqGuard
  split <;> simp

theorem bin_snd {op : BinOp} {k : IntKind} {a b : Int} {e : Eff} (t : TypeId) (w : World) (hs : op ≠ .shl) (hs' : op ≠ .shr) (h : binI op k a b = some e) (hvc : e.vc = true) :
    e.upd = [] ∧ e.news = [] ∧ ∃ v, (binOp op t (.int k a) (.int k b)).run P w = .ok v w ∧ ∀ m, TR m e.val v := by
  unfold binI at h
  cases op
  case shl => exact absurd rfl hs
  case shr => exact absurd rfl hs'
  case add =>
    obtain ⟨h1, h2, h3⟩ := arith_snd h hvc
    exact ⟨h1, h2, .int k (k.wrap (a + b)), by simp [binOp, Op.intArith], fun m => by rw [h3]; rfl⟩
  case sub =>
    obtain ⟨h1, h2, h3⟩ := arith_snd h hvc
    exact ⟨h1, h2, .int k (k.wrap (a - b)), by simp [binOp, Op.intArith], fun m => by rw [h3]; rfl⟩
  case mul =>
    obtain ⟨h1, h2, h3⟩ := arith_snd h hvc
    exact ⟨h1, h2, .int k (k.wrap (a * b)), by simp [binOp, Op.intArith], fun m => by rw [h3]; rfl⟩
  case quo =>
    simp only at h
    split at h
    · simp only [pureE, Option.some.injEq] at h
      subst h
      simp only [Bool.and_eq_true, decide_eq_true_eq] at hvc
      refine ⟨rfl, rfl, .int .i64 (IntKind.i64.wrap (a.tdiv b)), by simp [binOp, Op.intDiv, hvc.1], fun m => ?_⟩
      rw [rng64_wrap hvc.2]; rfl
    · simp only [pureE, Option.some.injEq] at h
      subst h
      simp only [decide_eq_true_eq] at hvc
      exact ⟨rfl, rfl, _, by simp [binOp, Op.intDiv, hvc], fun m => rfl⟩
  case and =>
    simp only [pureE, Option.some.injEq] at h
    subst h
    exact ⟨rfl, rfl, .int k (bitop .and k a b), by simp only [binOp, ne_eq, not_true_eq_false, if_false]; rfl, fun m => rfl⟩
  case or =>
    simp only [pureE, Option.some.injEq] at h
    subst h
    exact ⟨rfl, rfl, .int k (bitop .or k a b), by simp only [binOp, ne_eq, not_true_eq_false, if_false]; rfl, fun m => rfl⟩
  case xor =>
    simp only [pureE, Option.some.injEq] at h
    subst h
    exact ⟨rfl, rfl, .int k (bitop .xor k a b), by simp only [binOp, ne_eq, not_true_eq_false, if_false]; rfl, fun m => rfl⟩
  case andNot =>
    simp only [pureE, Option.some.injEq] at h
    subst h
    exact ⟨rfl, rfl, .int k (bitop .andNot k a b), by simp only [binOp, ne_eq, not_true_eq_false, if_false]; rfl, fun m => rfl⟩
  case rem =>
    simp only [pureE, Option.some.injEq] at h
    subst h
    simp only [decide_eq_true_eq] at hvc
    exact ⟨rfl, rfl, .int k (a.tmod b), by simp [binOp, Op.intDiv, hvc], fun m => rfl⟩
  all_goals
    simp only [pureE, Option.some.injEq] at h
    subst h
    exact ⟨rfl, rfl, _, by simp [binOp, Op.intCmp], fun m => rfl⟩

theorem sh_snd {op : BinOp} {k k' : IntKind} {a b : Int} {e : Eff} (t : TypeId) (w : World) (hop : op = .shl ∨ op = .shr) (h : shI op k a b = some e) (hvc : e.vc = true) :
    e.upd = [] ∧ e.news = [] ∧ ∃ v, (binOp op t (.int k a) (.int k' b)).run P w = .ok v w ∧ ∀ m, TR m e.val v := by
  unfold shI at h
  rcases hop with rfl | rfl
  · simp only at h
    split at h
    · simp only [pureE, Option.some.injEq] at h
      subst h
      simp only [Bool.and_eq_true, decide_eq_true_eq] at hvc
      have hn : ¬ b < 0 := by omega
      refine ⟨rfl, rfl, .int .i64 (IntKind.i64.wrap (a * 2 ^ (min b.toNat 64))), by simp [binOp, Op.shift, hn, IntKind.bits], fun m => ?_⟩
      rw [rng64_wrap hvc.2]; rfl
    · simp only [pureE, Option.some.injEq] at h
      subst h
      simp only [decide_eq_true_eq] at hvc
      have hn : ¬ b < 0 := by omega
      exact ⟨rfl, rfl, _, by simp [binOp, Op.shift, hn], fun m => rfl⟩
  · simp only [pureE, Option.some.injEq] at h
    subst h
    simp only [decide_eq_true_eq] at hvc
    have hn : ¬ b < 0 := by omega
    exact ⟨rfl, rfl, _, by simp [binOp, Op.shift, hn], fun m => rfl⟩

theorem snd_bin {o : Oper} {op : BinOp} {t t' : TypeId} {x y : Operand} {x' y' : XO} (ho : o.op = .binOp op t x y t') (hx' : cO x = some x') (hy' : cO y = some y') : Snd P cmp r Γ o (.bin op x' y') := by
  refine snd_pure (by simp [ho]) fun ctx m hp w a ev base e hE hH hx hvc => ?_
  have hxv := hE x x' hx' (by simp [need, XI.opnds])
  have hyv := hE y y' hy' (by simp [need, XI.opnds])
  simp only [xi] at hx
  split at hx
  case h_2 => cases hx
  rename_i k n k' n' h1 h2
  rw [h1, TR_int] at hxv
  rw [h2, TR_int] at hyv
  have fin : ∀ {v : Value}, (binOp op t (.int k n) (.int k' n')).run P w = .ok v w → (execOp a.eval o).run P w = .ok (.value v) w := fun hv => by
    simp [execOp, ho, hxv, hyv, run_eqGuard_int, hv]
  split at hx
  · obtain ⟨h3, h4, v, h5, h6⟩ := sh_snd (P := P) (k' := k') t w (.inl rfl) hx hvc
    exact ⟨h3, h4, v, fin h5, h6 m⟩
  · obtain ⟨h3, h4, v, h5, h6⟩ := sh_snd (P := P) (k' := k') t w (.inr rfl) hx hvc
    exact ⟨h3, h4, v, fin h5, h6 m⟩
  · rename_i hs hs'
    split at hx
    · rename_i hk
      subst hk
      obtain ⟨h3, h4, v, h5, h6⟩ := bin_snd (P := P) t w hs hs' hx hvc
      exact ⟨h3, h4, v, fin h5, h6 m⟩
    · cases hx

theorem snd_nck {o : Oper} {y : Operand} {y' : XO} (ho : o.op = .nilCheck y) (hc : cO y = some y') : Snd P cmp r Γ o (.nck y') := by
  refine snd_pure (by simp [ho]) fun ctx m hp w a ev base e hE hH hx hvc => ?_
  have hv := hE y y' hc (by simp [need, XI.opnds])
  simp only [xi] at hx
  split at hx
  · rename_i hb
    simp only [pureE, Option.some.injEq] at hx
    subst hx
    rw [hb] at hv
    refine ⟨rfl, rfl, a.eval y, ?_, hv⟩
    obtain ⟨mb, b, _, _, hv⟩ := hv
    simp [execOp, ho, hv]
  · rename_i hb
    simp only [pureE, Option.some.injEq] at hx
    subst hx
    rw [hb] at hv
    refine ⟨rfl, rfl, a.eval y, ?_, hv⟩
    obtain ⟨vs, hv, _⟩ := hv
    simp [execOp, ho, hv]
  · rename_i hb
    simp only [pureE, Option.some.injEq] at hx
    subst hx
    rw [hb] at hv
    refine ⟨rfl, rfl, a.eval y, ?_, hv⟩
    obtain ⟨mb, b, _, _, hv⟩ := hv
    simp [execOp, ho, hv]
  · cases hx

theorem snd_extr {o : Oper} {y : Operand} {y' : XO} {i : Nat} (ho : o.op = .extract y i) (hc : cO y = some y') : Snd P cmp r Γ o (.extr y' i) := by
  refine snd_pure (by simp [ho]) fun ctx m hp w a ev base e hE hH hx hvc => ?_
  have hv := hE y y' hc (by simp [need, XI.opnds])
  simp only [xi] at hx
  split at hx
  case h_2 => cases hx
  rename_i l hl
  rw [hl] at hv
  obtain ⟨vs, hv, hall⟩ := hv
  split at hx
  case h_2 => cases hx
  rename_i u hu
  simp only [pureE, Option.some.injEq] at hx
  subst hx
  obtain ⟨b, h1, h2⟩ := hall.get hu
  exact ⟨rfl, rfl, b, by simp [execOp, ho, hv, Instr.extract, h1], h2⟩

theorem T_struct (hT : TOK P T) {t : TypeId} {fs : Array Field} {s b : Nat} {z : Option AV} (h : T t = some ⟨.struct fs, s, b, z⟩) : P.underlying t = some (.struct fs) := hT.und _ _ h
theorem T_size (hT : TOK P T) {t : TypeId} {n : Nat} (h : sizeT T t = some n) (w : World) : (sizeOf t).run P w = .ok n w := by
  unfold sizeT at h
  cases ht : T t with
  | none => simp [ht] at h
  | some ti =>
    obtain ⟨i, h1, h2, _⟩ := hT.info t ti ht
    simp [ht] at h
    simp [sizeOf, typeInfo, h1, h2, h]

theorem snd_fad (hT : TOK P T) {o : Oper} {t : TypeId} {y : Operand} {y' : XO} {f n : Nat} {q : Field} {fs : Array Field} {s b : Nat} {z : Option AV} (ho : o.op = .fieldAddr t y f) (hc : cO y = some y')
    (ht : T t = some ⟨.struct fs, s, b, z⟩) (hq : fs[f]? = some q) (hn : sizeT T q.type = some n) (h0 : n ≠ 0) : Snd P cmp r Γ o (.fad q.offset y') := by
  refine snd_pure (by simp [ho]) fun ctx m hp w a ev base e hE hH hx hvc => ?_
  have hv := hE y y' hc (by simp [need, XI.opnds])
  simp only [xi] at hx
  split at hx
  case h_2 => cases hx
  rename_i id b' o' hb
  rw [hb] at hv
  obtain ⟨mb, bb, h1, h2, hv⟩ := hv
  simp only [pureE, Option.some.injEq] at hx
  subst hx
  refine ⟨rfl, rfl, .pointer (some ⟨bb, mb.base + (b' + q.offset + o'), none⟩), ?_, mb, bb, h1, h2, rfl⟩
  simp [execOp, ho, hv, Instr.fieldAt, run_underlying (T_struct hT ht), hq, Instr.sureAddr, fieldPlace, T_size hT hn, h0, addr_add]

theorem T_und (hT : TOK P T) {t : TypeId} {d : TypeDesc} {s b : Nat} {z : Option AV} (h : T t = some ⟨d, s, b, z⟩) : P.underlying t = some d := hT.und _ _ h

theorem snd_iad (hT : TOK P T) {o : Oper} {t e' : TypeId} {y i : Operand} {y' i' : XO} {k n : Nat} {s b : Nat} {z : Option AV} (ho : o.op = .indexAddr t y i) (hc : cO y = some y') (hi : cO i = some i')
    (ht : T t = some ⟨.array k e', s, b, z⟩) (hn : sizeT T e' = some n) : Snd P cmp r Γ o (.iad k n y' i') := by
  refine snd_pure (by simp [ho]) fun ctx m hp w a ev base e hE hH hx hvc => ?_
  have hv := hE y y' hc (by simp [need, XI.opnds])
  have hiv := hE i i' hi (by simp [need, XI.opnds])
  simp only [xi] at hx
  split at hx
  case h_2 => cases hx
  rename_i id b' o' kk aa hb hb2
  rw [hb] at hv
  rw [hb2, TR_int] at hiv
  obtain ⟨mb, bb, h1, h2, hv⟩ := hv
  simp only [pureE, Option.some.injEq] at hx
  subst hx
  simp only [Bool.and_eq_true, decide_eq_true_eq] at hvc
  refine ⟨rfl, rfl, .pointer (some ⟨bb, mb.base + (b' + (o' + aa.toNat * n)), none⟩), ?_, mb, bb, h1, h2, rfl⟩
  have hc2 : 0 ≤ aa ∧ aa < (k : Int) := ⟨hvc.1, hvc.2⟩
  simp [execOp, ho, hv, hiv, Instr.indexAt, asIntOf, run_underlying (T_und hT ht), Instr.sureAddr, T_size hT hn, addr_add, hc2]

theorem snd_iadS (hT : TOK P T) {o : Oper} {t e' : TypeId} {y i : Operand} {y' i' : XO} {n : Nat} {s b : Nat} {z : Option AV} (ho : o.op = .indexAddr t y i) (hc : cO y = some y') (hi : cO i = some i')
    (ht : T t = some ⟨.slice e', s, b, z⟩) (hn : sizeT T e' = some n) : Snd P cmp r Γ o (.iadS n y' i') := by
  refine snd_pure (by simp [ho]) fun ctx m hp w a ev base e hE hH hx hvc => ?_
  have hv := hE y y' hc (by simp [need, XI.opnds])
  have hiv := hE i i' hi (by simp [need, XI.opnds])
  simp only [xi] at hx
  split at hx
  case h_3 => cases hx
  · rename_i id off sz' len kk aa hb hb2
    rw [hb] at hv
    rw [hb2, TR_int] at hiv
    split at hx
    case isFalse => cases hx
    rename_i hsz
    subst hsz
    simp only [pureE, Option.some.injEq] at hx
    subst hx
    simp only [Bool.and_eq_true, decide_eq_true_eq] at hvc
    obtain ⟨mb, h1, hcap, hv | ⟨bb, oo, h2, hv, hoo⟩⟩ := hv
    · omega
    · have ho2 : oo = mb.base + off * n := by rcases hoo with h | h <;> omega
      have hc2 : 0 ≤ aa ∧ aa < (len : Int) := ⟨hvc.1, hvc.2⟩
      refine ⟨rfl, rfl, .pointer (some ⟨bb, mb.base + (0 + (off + aa.toNat) * n), none⟩), ?_, mb, bb, h1, h2, rfl⟩
      simp [execOp, ho, hv, hiv, Instr.indexAt, asIntOf, run_underlying (T_und hT ht), T_size hT hn, addr_add, hc2, ho2, Nat.add_mul]
  · rename_i id off sz' len kk aa hb hb2
    rw [hb] at hv
    rw [hb2, TR_int] at hiv
    split at hx
    case isFalse => cases hx
    rename_i hsz
    subst hsz
    simp only [pureE, Option.some.injEq] at hx
    subst hx
    simp only [Bool.and_eq_true, decide_eq_true_eq] at hvc
    obtain ⟨mb, bb, c, h1, h2, hv⟩ := hv
    have hc2 : 0 ≤ aa ∧ aa < (len : Int) := ⟨hvc.1, hvc.2⟩
    refine ⟨rfl, rfl, .pointer (some ⟨bb, mb.base + (0 + (off + aa.toNat * n)), none⟩), ?_, mb, bb, h1, h2, rfl⟩
    simp [execOp, ho, hv, hiv, Instr.indexAt, asIntOf, run_underlying (T_und hT ht), T_size hT hn, addr_add, hc2]

end
end Go.Proofs.Yteekkjfjpoaihaa.Eng

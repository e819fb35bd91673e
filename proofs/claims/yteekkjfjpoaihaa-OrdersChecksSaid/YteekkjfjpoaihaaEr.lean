/- The engine, part 18: the small code's runs, as walks of the model's code. -/
import Derived.Test.YteekkjfjpoaihaaEq
import Derived.RangeFuncLeaves
set_option linter.all false
namespace Go.Proofs.Yteekkjfjpoaihaa.Eng
open Go

inductive XE where
  | n
  | x (id : Nat)
  | r
  deriving DecidableEq

def XE.to : XE → Exit
  | .n => .normal
  | .x id => .exit id
  | .r => .ret

def XE.unblock (id : Nat) : XE → XE
  | .x id' => bif Nat.beq id' id then .n else .x id'
  | e => e

/-- what holds of the ids below kp stays -/
def MM.leK (kp : Nat) (m m' : MM) : Prop := ∀ id mb, id < kp → m id = some mb → m' id = some mb
theorem MM.le.toK {m m' : MM} (h : m.le m') (kp : Nat) : MM.leK kp m m' := fun id mb _ e => h id mb e
theorem MM.leK.refl {kp : Nat} {m : MM} : MM.leK kp m m := fun _ _ _ h => h
theorem MM.leK.trans {kp : Nat} {a b c : MM} (h : MM.leK kp a b) (k : MM.leK kp b c) : MM.leK kp a c := fun id mb hi e => k id mb hi (h id mb hi e)

structure EnvOK (P : Program) (T : Tab) (Γ : Cal → Option Spec) : Prop where
  tok : TOK P T
  eqok : EQOK P
  G : GamOK P (compC T) Γ
  B : ∀ f sp, Γ (.f f) = some sp → Bodied P f
  F : GamFp Γ
  mix : P.follows .mixedOrders = true

def RelSt (T : Tab) (ctx : Ctx) (nt : Nat) (m : MM) (S : St) (a : Act) (w : World) : Prop := RelF (compC T) ctx nt m S.sl.get S.hp.get S.df a w

/-- code goes from a state to a state, and ends so -/
def Exec (P : Program) (T : Tab) (r : Option Nat) (nt kp : Nat) (c : XC) (S : St) (e : XE) (S' : St) : Prop :=
  ∀ (code : Code), compC T nt code = some c → ∀ (ctx : Ctx) (m : MM) (a : Act) (w : World) (Q : Exit → Act → World → Prop), RelSt T ctx nt m S a w →
    (∀ a' w' m', MM.leK kp m m' → RelSt T ctx nt m' S' a' w' → Q e.to a' w') → code.wpIn (FR r) 0 P Q a w

/-- another way to see a state -/
def Weak (T : Tab) (kp : Nat) (S S' : St) : Prop := ∀ ctx nt m a w, RelSt T ctx nt m S a w → ∃ m', MM.leK kp m m' ∧ RelSt T ctx nt m' S' a w

section
variable {P : Program} {T : Tab} {r : Option Nat} {Γ : Cal → Option Spec} {nt kp : Nat}

theorem evalX_TR {cmp : Cmp} {ctx : Ctx} {m : MM} {sl : Nat → Option Slot} {hp : Nat → Option HO} {df : List Nat} {a : Act} {w : World} (hR : RelF cmp ctx nt m sl hp df a w) {y : Operand} {xo : XO} (hy : cO y = some xo) (hc : (evalX sl xo).c = true) : TR m (evalX sl xo).v (a.eval y) := by
  cases y with
  | tmp t =>
    simp only [cO, Option.some.injEq] at hy
    subst hy
    simp only [evalX] at hc ⊢
    cases hs : sl t with
    | none => simp only [Option.getD_none]; trivial
    | some s =>
      rw [hs] at hc
      simp only [Option.getD_some] at hc ⊢
      exact (hR.slot t s hs).1 hc
  | const v =>
    simp only [cO, Option.map_eq_some_iff] at hy
    obtain ⟨av, h1, rfl⟩ := hy
    exact cV_snd h1 m
  | func f =>
    simp only [cO, Option.some.injEq] at hy
    subst hy
    exact ⟨[], rfl, trivial⟩
  | global g => simp [cO] at hy

theorem Exec.post {c : XC} {S S1 S2 : St} {e : XE} (h : Exec P T r nt kp c S e S1) (hw : Weak T kp S1 S2) : Exec P T r nt kp c S e S2 := fun code hc ctx m a w Q hR hQ =>
  h code hc ctx m a w Q hR fun a' w' m' hm hR' => let ⟨m2, h1, h2⟩ := hw ctx nt m' a' w' hR'; hQ a' w' m2 (hm.trans h1) h2

theorem Exec.pre {c : XC} {S S1 S2 : St} {e : XE} (hw : Weak T kp S S1) (h : Exec P T r nt kp c S1 e S2) : Exec P T r nt kp c S e S2 := fun code hc ctx m a w Q hR hQ =>
  let ⟨m2, h1, h2⟩ := hw ctx nt m a w hR; h code hc ctx m2 a w Q h2 fun a' w' m' hm hR' => hQ a' w' m' (h1.trans hm) hR'

/-- which code compiles to which -/
def Shape (T : Tab) (n : Nat) : XC → Code → Prop
  | .skip, .skip => True
  | .label _, .label _ => True
  | .ret, .ret => True
  | .exit i, .exit j => i = j
  | .reg o t, .region _ ops d => d = false ∧ compOps T n ops.toList ops.toList 0 = some (o, t)
  | .regD o t chk, .region _ ops d => d = true ∧ compOps T n ops.toList ops.toList 0 = some (o, t) ∧ fwdOk ops.toList = true ∧ slotsOk o (ancs ops.toList []) = true ∧
      chk = pairs o.length fun i j => !((ancs ops.toList []).getD j []).contains i && (match o[i]?, o[j]? with | some a, some b => clash a.x b.x | _, _ => false)
  | .seq x y, .seq a b => compC T n a = some x ∧ compC T n b = some y
  | .cond c x y, .cond o a b => cO o = some c ∧ compC T n a = some x ∧ compC T n b = some y
  | .block i x, .block j a => i = j ∧ compC T n a = some x
  | .loop x, .loop a => compC T n a = some x
  | .rf f ps x y, .rangeFunc g qs a b => cO g = some f ∧ ps = qs.toList ∧ (∀ t ∈ ps, t < n) ∧ compC T n a = some x ∧ compC T n b = some y
  | .scope x, .scope a => compC T n a = some x
  | _, _ => False

theorem compC_shape {T : Tab} {n : Nat} {code : Code} {c : XC} (hc : compC T n code = some c) : Shape T n c code := by
  cases code <;> simp only [compC, Option.bind_eq_some_iff, Option.map_eq_some_iff, Option.some.injEq] at hc
  case skip => subst hc; trivial
  case label => subst hc; trivial
  case ret => subst hc; trivial
  case exit => subst hc; rfl
  case region id ops d =>
    obtain ⟨⟨o, t⟩, h1, h2⟩ := hc
    cases d with
    | true =>
      simp only [if_true] at h2
      split at h2
      case isFalse => cases h2
      rename_i hb
      simp only [Option.some.injEq] at h2
      subst h2
      simp only [Bool.and_eq_true] at hb
      exact ⟨rfl, h1, hb.1, hb.2, rfl⟩
    | false =>
      simp only [Bool.false_eq_true, if_false, Option.some.injEq] at h2
      subst h2
      exact ⟨rfl, h1⟩
  case seq a b => obtain ⟨x, h1, y, h2, rfl⟩ := hc; exact ⟨h1, h2⟩
  case cond o a b => obtain ⟨z, h0, x, h1, y, h2, rfl⟩ := hc; exact ⟨h0, h1, h2⟩
  case block i a => obtain ⟨x, h1, rfl⟩ := hc; exact ⟨rfl, h1⟩
  case loop a => obtain ⟨x, h1, rfl⟩ := hc; exact h1
  case rangeFunc g qs a b =>
    split at hc
    case isFalse => cases hc
    rename_i hps
    simp only [Option.bind_eq_some_iff, Option.map_eq_some_iff] at hc
    obtain ⟨z, h0, x, h1, y, h2, rfl⟩ := hc
    exact ⟨h0, rfl, fun t ht => by simpa using List.all_eq_true.1 hps t ht, h1, h2⟩
  case scope a => obtain ⟨x, h1, rfl⟩ := hc; exact h1
  case goto => cases hc
  case refuse => cases hc

theorem exec_skip {S : St} : Exec P T r nt kp .skip S .n S := by
  intro code hc ctx m a w Q hR hQ
  have hsh := compC_shape hc
  cases code <;> try exact hsh.elim
  case skip => exact wpIn_skip (hQ a w m .refl hR)

theorem exec_label {l : Nat} {S : St} : Exec P T r nt kp (.label l) S .n S := by
  intro code hc ctx m a w Q hR hQ
  have hsh := compC_shape hc
  cases code <;> try exact hsh.elim
  case label => exact wpIn_label (hQ a w m .refl hR)

theorem exec_ret {S : St} : Exec P T r nt kp .ret S .r S := by
  intro code hc ctx m a w Q hR hQ
  have hsh := compC_shape hc
  cases code <;> try exact hsh.elim
  case ret => exact wpIn_ret (hQ a w m .refl hR)

theorem exec_exit {id : Nat} {S : St} : Exec P T r nt kp (.exit id) S (.x id) S := by
  intro code hc ctx m a w Q hR hQ
  have hsh := compC_shape hc
  cases code <;> try exact hsh.elim
  case exit j => cases (show id = j from hsh); exact wpIn_exit (hQ a w m .refl hR)

theorem exec_reg (hE : EnvOK P T Γ) {ops : List XOp} {tot : Nat} {S S' : St} {E : List Ef} (hx : xops Γ S.nx ops S = some (true, S', E)) : Exec P T r nt kp (.reg ops tot) S .n { S' with nx := S'.nx + tot } := by
  intro code hc ctx m a w Q hR hQ
  have hsh := compC_shape hc
  cases code <;> try exact hsh.elim
  case region id os d =>
    obtain ⟨rfl, h1⟩ := hsh
    obtain ⟨h3, h4⟩ := compOps_spec h1
    refine wpIn_region ?_
    have : List.range os.size = List.range' 0 ops.length := by rw [h3, List.range_eq_range', Array.length_toList]
    rw [this]
    have hdf := (xops_run hx).2.2.2.2.2
    refine reg_snd (ops := os.toList) hE.tok hE.eqok hE.G hE.B (by rw [h3]; simp) (fun i o hi => h4 i o (by simpa using hi)) hx hR fun a' w' m' hm hR' => hQ a' w' m' (hm.toK _) ?_
    unfold RelSt
    simp only [hdf]
    exact hR'

theorem exec_regD (hE : EnvOK P T Γ) {ops : List XOp} {tot : Nat} {chk : List (Nat × Nat)} {S S' : St} {E : List Ef} (hx : xops Γ S.nx ops S = some (true, S', E)) (hk : chk.all (okAt E) = true) : Exec P T r nt kp (.regD ops tot chk) S .n { S' with nx := S'.nx + tot } := by
  intro code hc ctx m a w Q hR hQ
  have hsh := compC_shape hc
  cases code <;> try exact hsh.elim
  case region id os d =>
    obtain ⟨rfl, h1, hf, hs, rfl⟩ := hsh
    obtain ⟨h3, h4⟩ := compOps_spec h1
    refine wpIn_region_any hE.mix ?_
    have hdf := (xops_run hx).2.2.2.2.2
    have hR0 : RelF (compC T) ctx nt m S.sl.get S.hp.get S.df a { w with drawn := w.drawn + 1 } := by
      refine ⟨hR.slot, hR.size, ?_, hR.df⟩
      have := hR.heap
      refine ⟨fun id ho h => ?_, this.dist, this.dom, this.os, this.tape, this.output, this.size, this.same0⟩
      obtain ⟨mb, g1, g2, g3, g4⟩ := this.obj id ho h
      exact ⟨mb, g1, OR.block (w := w) (fun _ _ => rfl) g2, g3, g4⟩
    have := regD_snd (ops := os.toList) (r := r) (P := P) (Q := Q) hE.tok hE.eqok hE.G hE.B hE.F h3 h4 hf hs hx hk hR0 fun a' w' m' hm hR' => hQ a' w' m' (hm.toK _) (by unfold RelSt; simp only [hdf]; exact hR')
    simpa using this

theorem exec_seq {x y : XC} {S S1 S2 : St} {e : XE} (h1 : Exec P T r nt kp x S .n S1) (h2 : Exec P T r nt kp y S1 e S2) : Exec P T r nt kp (.seq x y) S e S2 := by
  intro code hc ctx m a w Q hR hQ
  have hsh := compC_shape hc
  cases code <;> try exact hsh.elim
  case seq c1 c2 =>
    obtain ⟨h3, h4⟩ := hsh
    exact wpIn_seq (h1 c1 h3 ctx m a w _ hR fun a' w' m' hm hR' => h2 c2 h4 ctx m' a' w' Q hR' fun a'' w'' m'' hm' hR'' => hQ _ _ _ (hm.trans hm') hR'')

theorem exec_seq_x {x y : XC} {S S1 : St} {e : XE} (h1 : Exec P T r nt kp x S e S1) (he : e ≠ .n) : Exec P T r nt kp (.seq x y) S e S1 := by
  intro code hc ctx m a w Q hR hQ
  have hsh := compC_shape hc
  cases code <;> try exact hsh.elim
  case seq c1 c2 =>
    obtain ⟨h3, h4⟩ := hsh
    refine wpIn_seq (h1 c1 h3 ctx m a w _ hR fun a' w' m' hm hR' => ?_)
    have := hQ a' w' m' hm hR'
    cases e with
    | n => exact absurd rfl he
    | x id => exact this
    | r => exact this

theorem exec_cond {c : XO} {x y : XC} {S S1 : St} {e : XE} {t : Bool} (hc : evalX S.sl.get c = ⟨true, .av (.s (.bool t))⟩) (h : Exec P T r nt kp (bif t then x else y) S e S1) : Exec P T r nt kp (.cond c x y) S e S1 := by
  intro code hcc ctx m a w Q hR hQ
  have hsh := compC_shape hcc
  cases code <;> try exact hsh.elim
  case cond o c1 c2 =>
    obtain ⟨h2, h3, h4⟩ := hsh
    have hv := evalX_TR hR h2 (by rw [hc])
    rw [hc] at hv
    cases t with
    | true => exact wpIn_cond_true hv (h c1 h3 ctx m a w Q hR hQ)
    | false => exact wpIn_cond_false hv (h c2 h4 ctx m a w Q hR hQ)

theorem exec_block {id : Nat} {x : XC} {S S1 : St} {e : XE} (h : Exec P T r nt kp x S e S1) : Exec P T r nt kp (.block id x) S (e.unblock id) S1 := by
  intro code hc ctx m a w Q hR hQ
  have hsh := compC_shape hc
  cases code <;> try exact hsh.elim
  case block id' c1 =>
    obtain ⟨rfl, h3⟩ := hsh
    refine wpIn_block (h c1 h3 ctx m a w _ hR fun a' w' m' hm hR' => ?_)
    have := hQ a' w' m' hm hR'
    cases e with
    | n => exact this
    | x i =>
      simp only [XE.to, Exit.inBlock]
      simp only [XE.unblock] at this
      by_cases hi : i = id
      · rw [if_pos hi]
        subst hi
        rw [Nat.beq_refl] at this
        exact this
      · rw [if_neg hi]
        rw [beqF hi] at this
        exact this
    | r => exact this

/-- some rounds of a loop, and the one that leaves it -/
inductive LoopX (X : St → XE → St → Prop) : Nat → St → XE → St → Prop
  | done {S S' : St} {e : XE} : X S e S' → e ≠ .n → LoopX X 0 S e S'
  | step {k : Nat} {S S1 S' : St} {e : XE} : X S .n S1 → LoopX X k S1 e S' → LoopX X (k + 1) S e S'

open Classical in
theorem exec_loop {x : XC} {k : Nat} {S S1 : St} {e : XE} (h : LoopX (Exec P T r nt kp x) k S e S1) : Exec P T r nt kp (.loop x) S e S1 := by
  intro code hc ctx m a w Q hR hQ
  have hsh := compC_shape hc
  cases code <;> try exact hsh.elim
  case loop c1 =>
    have h3 : compC T nt c1 = some x := hsh
    let J : Nat → Act → World → Prop := fun k a w => ∃ S0 m0, LoopX (Exec P T r nt kp x) k S0 e S1 ∧ MM.leK kp m m0 ∧ RelSt T ctx nt m0 S0 a w
    have hlow : ∀ (a : Act) (w : World), (∃ k, J k a w) → ∃ k, J k a w ∧ ∀ j, j < k → ¬ J j a w := by
      intro a w ⟨k, hk⟩
      induction k using Nat.strongRecOn with
      | _ k ih =>
        by_cases hj : ∃ j, j < k ∧ J j a w
        · obtain ⟨j, h1, h2⟩ := hj
          exact ih j h1 h2
        · exact ⟨k, hk, fun j h1 h2 => hj ⟨j, h1, h2⟩⟩
    let μ : Act → World → Nat := fun a w => if hx : ∃ k, J k a w then Classical.choose (hlow a w hx) else 0
    have hle : ∀ a w k, J k a w → μ a w ≤ k := by
      intro a w k hk
      have hx : ∃ k, J k a w := ⟨k, hk⟩
      have hs := Classical.choose_spec (hlow a w hx)
      simp only [μ, dif_pos hx]
      exact Nat.le_of_not_lt fun hlt => hs.2 k hlt hk
    refine wpIn_loop (fun a w => ∃ k, J k a w) μ ⟨k, S, m, h, .refl, hR⟩ fun a w hx => ?_
    have hs := Classical.choose_spec (hlow a w hx)
    have hμ : μ a w = Classical.choose (hlow a w hx) := by simp only [μ, dif_pos hx]
    rw [← hμ] at hs
    obtain ⟨⟨S0, m0, g1, g2, g3⟩, _⟩ := hs
    generalize hn : μ a w = n at *
    cases g1 with
    | done h1 h2 =>
      refine h1 c1 h3 ctx m0 a w _ g3 fun a' w' m' hm hR' => ?_
      have := hQ a' w' m' (g2.trans hm) hR'
      cases e with
      | n => exact absurd rfl h2
      | x id => exact this
      | r => exact this
    | step h1 h2 =>
      refine h1 c1 h3 ctx m0 a w _ g3 fun a' w' m' hm hR' => ?_
      have hJ : J _ a' w' := ⟨_, m', h2, g2.trans hm, hR'⟩
      exact ⟨⟨_, hJ⟩, Nat.lt_succ_of_le (hle a' w' _ hJ)⟩

theorem stepR_scope {P : Program} {b : Frame} {a : Act} {k : List Item} {cs : List Frame} {w : World} {c : Code} : step P (lone (b.atR a (.code (.scope c) :: k)) cs w) = .next (lone (b.atR a (.code c :: .inScope c :: k)) cs w) :=
  step_lone_go (by simp [stepG, stepG.exec, Frame.atR])
theorem stepR_inScope {P : Program} {b : Frame} {a : Act} {k : List Item} {cs : List Frame} {w : World} {c : Code} : step P (lone (b.atR a (.inScope c :: k)) cs w) = .next (lone (b.atR a k) cs w) :=
  step_lone_go (by simp [stepG, stepG.exec, Frame.atR])

theorem wpIn_scope_straight {F : Fence} {n : Nat} {c : Code} {Q : Exit → Act → World → Prop} {a : Act} {w : World} (h : c.wpIn F n P (fun e a w => (∀ l, e ≠ .goto l) ∧ Q e a w) a w) : (Code.scope c).wpIn F n P Q a w := by
  intro b k cs hro hb hr
  have h0 : (lone (b.atR a (.code (.scope c) :: k)) cs w).fenced P F := fenced_calm hb hr rfl
  obtain ⟨e, a₁, w₁, ⟨hg, hq⟩, harr⟩ := h b (.inScope c :: k) cs hro hb hr
  cases e with
  | normal => exact ⟨.normal, a₁, w₁, hq, .head h0 stepR_scope (StepsIn.trans harr (.one (fenced_calm hb hr rfl) stepR_inScope))⟩
  | exit id =>
    have hx : exitTo id (.inScope c :: k) = exitTo id k := by simp [exitTo]
    exact ⟨.exit id, a₁, w₁, hq, fun k' hk => .head h0 stepR_scope (harr.1 k' (by rw [hx]; exact hk)),
      fun hr' hk => let ⟨k₁, h1, h2⟩ := harr.2 hr' (by rw [hx]; exact hk); ⟨k₁, h1, .head h0 stepR_scope h2⟩⟩
  | goto l => exact absurd rfl (hg l)
  | ret => exact ⟨_, a₁, w₁, hq, .of_steps (.one h0 stepR_scope) harr⟩
  | panic ch => exact ⟨_, a₁, w₁, hq, .of_steps (.one h0 stepR_scope) harr⟩
  | outgrown => exact ⟨_, a₁, w₁, hq, .of_steps (.one h0 stepR_scope) harr⟩

theorem exec_scope {x : XC} {S S1 : St} {e : XE} (h : Exec P T r nt kp x S e S1) : Exec P T r nt kp (.scope x) S e S1 := by
  intro code hc ctx m a w Q hR hQ
  have hsh := compC_shape hc
  cases code <;> try exact hsh.elim
  case scope c1 =>
    have h3 : compC T nt c1 = some x := hsh
    exact wpIn_scope_straight (h c1 h3 ctx m a w _ hR fun a' w' m' hm hR' => ⟨fun l => by cases e <;> simp [XE.to], hQ a' w' m' hm hR'⟩)

end
end Go.Proofs.Yteekkjfjpoaihaa.Eng

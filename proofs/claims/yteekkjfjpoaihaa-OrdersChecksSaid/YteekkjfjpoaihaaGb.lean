/- Contracts by hand, part 2: the steps' own lemmas. -/
import Derived.Test.YteekkjfjpoaihaaGa
import Derived.Test.YteekkjfjpoaihaaFe
set_option linter.all false
namespace Go.Proofs.Yteekkjfjpoaihaa.Eng
open Go Go.Proofs

def XC.a : XC → XC | .seq a _ => a | .cond _ a _ => a | c => c
def XC.b : XC → XC | .seq _ b => b | .cond _ _ b => b | c => c
def XC.i : XC → XC | .block _ b => b | .loop b => b | .scope b => b | c => c

/-- what is owed -/
def obOf (q : Option (Bool × XE × St × List Bool)) : Bool := match q with
  | some (ob, _) => ob
  | none => false

noncomputable def vw (ts ids : List Nat) (q : Option (Bool × XE × St × List Bool)) : Option (XE × List (Option Slot) × List (Option HO) × List Nat) :=
  q.map fun q => (q.2.1, ts.map q.2.2.1.sl.get, ids.map q.2.2.1.hp.get, q.2.2.1.df)

section
variable {P : Program} {T : Tab} {r : Option Nat} {Γ : Cal → Option Spec} {nt kp : Nat}

theorem exec_orun (hE : EnvOK P T Γ) (inr : Bool) (k : Nat) (os : List Bool) (ids : List Nat) (hr : inr = false → r = none) {c : XC} {S : St} {e : XE} {ts : List (Nat × Slot)} {hs : List HO} {nx : Nat} {df : List Nat}
    (hv : vw (ts.map (·.1)) ids (orun Γ inr k c S os) = some (e, ts.map (fun p => some ⟨p.2.c, p.2.v.ren fun j => ids.getD j 0⟩), hs.map (fun h => some (h.ren fun j => ids.getD j 0)), df.map fun j => ids.getD j 0))
    (hok : mkOk ts hs ids kp = true) (hdl : df.all (fun j => Nat.blt j hs.length) = true) (hob : obOf (orun Γ inr k c S os) = true) : Exec P T r nt kp c S e (mkSt ts hs nx df) := by
  refine exec_view hE hr (k := k) (os := os) (ids := ids) (ob := obOf (orun Γ inr k c S os)) ?_ hob hok hdl
  unfold vw at hv
  unfold view
  cases ho : orun Γ inr k c S os with
  | none => rw [ho] at hv; cases hv
  | some q =>
    rw [ho] at hv
    simp only [Option.map_some, Option.some.injEq, Prod.mk.injEq] at hv ⊢
    exact ⟨rfl, hv⟩

theorem loopx_up {X : St → XE → St → Prop} (S : Nat → St) (n : Nat) {e : XE} {S' : St} (h : ∀ i, i < n → X (S i) .n (S (i + 1))) (hl : X (S n) e S') (he : e ≠ .n) : ∀ i, i ≤ n → ∃ j, LoopX X j (S i) e S' := by
  have key : ∀ d i, i + d = n → ∃ j, LoopX X j (S i) e S' := by
    intro d
    induction d with
    | zero => intro i hi; rw [Nat.add_zero] at hi; subst hi; exact ⟨0, .done hl he⟩
    | succ d ih =>
      intro i hi
      obtain ⟨j, hj⟩ := ih (i + 1) (by omega)
      exact ⟨j + 1, .step (h i (by omega)) hj⟩
  exact fun i hi => key (n - i) i (by omega)

theorem exec_loop_up {x : XC} (S : Nat → St) (n : Nat) {e : XE} {S' : St} (h : ∀ i, i < n → Exec P T r nt kp x (S i) .n (S (i + 1))) (hl : Exec P T r nt kp x (S n) e S') (he : e ≠ .n) (i : Nat) (hi : i ≤ n) : Exec P T r nt kp (.loop x) (S i) e S' := by
  obtain ⟨j, hj⟩ := loopx_up (X := Exec P T r nt kp x) S n h hl he i hi
  exact exec_loop hj

/-- a function that hands back plain values -/
theorem shown_val {x : XFn} {m0 : MM} {hs : List HO} {args0 : List AV} {vals : List Value} {w : World} {val : TV} {base : Nat} {ts : List (Nat × Slot)} {ex : XE} (hview : RoView (compC T) m0 hs w) (hargs : All2 (AR m0) args0 vals) (hlen : Nat.ble args0.length x.nt = true)
    (hrun : Exec P T none x.nt 0 x.body (startSt args0 hs) ex (mkSt ts [] 0 [])) (hex : ex ≠ .n → ex = .r) (hres : resV (mkSt ts [] 0 []).sl.get (mkSt ts [] 0 []).hp.get x.res = some (true, val)) (hids : val.ids = []) : Shown P T x m0 hs args0 vals w val [] base where
  view := hview
  args := hargs
  len := Nat.le_of_ble_eq_true hlen
  run := ⟨mkSt ts [] 0 [], ex, val, [], hrun, by by_cases h : ex = .n; exact .inl h; exact .inr (hex h), rfl, hres, rfl, fun j hj => (by rw [hids] at hj; cases hj), (TV.ren_id fun j hj => (by rw [hids] at hj; cases hj)).symm, rfl, fun k id h => (by simp at h)⟩

end

/-- a function that reads only, by what it answers: the conditions, the answer, what it looks at -/
def pureS (g : List AV → (Nat → Option HO) → Option (Bool × TV × List Nat)) : Spec where
  run := fun args h _ => match g args h with
    | some (vc, v, rd) => some ⟨vc, v, [], [], some rd⟩
    | none => none

/-- .. hangs on what it looks at -/
def PureFp (g : List AV → (Nat → Option HO) → Option (Bool × TV × List Nat)) : Prop := ∀ args h h' q, g args h = some q → (∀ id ∈ q.2.2, h' id = h id) → g args h' = some q

theorem pureS_fp {g : List AV → (Nat → Option HO) → Option (Bool × TV × List Nat)} (hg : PureFp g) : SpecFp (pureS g) := by
  intro args h h' base e hr hf
  simp only [pureS] at hr ⊢
  split at hr
  · rename_i vc v rd hq
    cases hr
    have := hg _ _ h' _ hq hf
    simp only [this]
  · cases hr

theorem spec_pure {P : Program} {T : Tab} (hT : TOK P T) {f : FuncId} {x : XFn} (hx : FunOK P T f x) {g : List AV → (Nat → Option HO) → Option (Bool × TV × List Nat)}
    (h : ∀ (ctx : Ctx) (m : MM) (h : Nat → Option HO) (w : World) (args : List AV) (vals : List Value) (v : TV) (rd : List Nat) (base : Nat), HRel (compC T) ctx m h w → All2 (AR m) args vals → g args h = some (true, v, rd) →
      ∃ m0 hs args0, Shown P T x m0 hs args0 vals w v [] base) : SpecOK P (compC T) f (pureS g) := by
  refine spec_gen hT hx fun ctx m hh w args vals base e hH hargs hr hvc => ?_
  simp only [pureS] at hr
  split at hr
  · rename_i vc v rd hq
    cases hr
    simp only at hvc
    subst hvc
    exact ⟨rfl, h ctx m hh w args vals v rd base hH hargs hq⟩
  · cases hr

/-- no calls -/
def g0 : Cal → Option Spec := fun _ => none
theorem env0 : EnvOK PP T g0 := ⟨tokP, eqokP, ⟨fun _ _ h => (by cases h), fun _ _ h => (by cases h)⟩, fun _ _ h => (by cases h), fun _ _ h => (by cases h), mixP⟩

/-! ### R.Has -/

def L78 : XC := x78.body.b.a.b.i.i
abbrev H78 (q : List Int) (a b : Int) : List HO := [⟨true, .xvec .i64 2 q⟩, ⟨false, .row 38 [.int .i64 a, .int .i64 b] 0 ff⟩]
abbrev S78 (q : List Int) (n : Nat) (a b : Int) (i : Nat) : St := mkSt [(0, ⟨true, .av (.s (.sl 0 0 2 n))⟩), (3, ⟨true, .av (.s (.ptr 1 0 0))⟩), (5, ⟨true, I i⟩)] (H78 q a b) 2 []
abbrev R78 (v : Bool) : St := mkSt [(4, ⟨true, B v⟩)] [] 0 []

def pairAt (q : List Int) (i : Nat) (a b : Int) : Bool := q.getD (2 * i) 0 == a && q.getD (2 * i + 1) 0 == b

theorem e78a {q : List Int} {n : Nat} {a b : Int} {i : Nat} (hq : q.length = n * 2) (hi : i < n) (hn : n ≤ 1000000000) (hp : pairAt q i a b = false) : Exec PP T none x78.nt 0 L78 (S78 q n a b i) .n (S78 q n a b (i + 1)) := by
  refine exec_orun env0 false 60 [true, false] [0, 1] (fun _ => rfl) (by kernel_rfl) (by kernel_rfl) (by kernel_rfl) ?_
  rw [(show obOf (orun g0 false 60 L78 (S78 q n a b i) [true, false]) = (decide (Int.ofNat i < Int.ofNat n) && true &&
  (decide (0 ≤ Int.ofNat i) && decide (Int.ofNat i < Int.ofNat n) &&
          (decide (((0 + (0 + i) * 2).add 0).succ.succ ≤ q.length) && (decide (0 = 0) && true)) &&
        true &&
      (!false != ([q.getD (0 + (0 + i) * 2 + 0) 0, q.getD ((0 + (0 + i) * 2).add 0).succ 0] == [a, b] && true) &&
        true) &&
    (rng64 (Int.ofNat i.succ) && true))) from by kernel_rfl)]
  unfold pairAt at hp
  have e1 : (0 + (0 + i) * 2 + 0) = 2 * i := by omega
  have e2 : ((0 + (0 + i) * 2).add 0).succ = 2 * i + 1 := by simp; omega
  rw [e1, e2, beq_two, hp]
  simp [rng64_eq]
  omega

theorem e78b {q : List Int} {n : Nat} {a b : Int} {i : Nat} (hq : q.length = n * 2) (hi : i < n) (hp : pairAt q i a b = true) : Exec PP T none x78.nt 0 L78 (S78 q n a b i) .r (R78 true) := by
  refine exec_orun env0 false 60 [true, true] [] (fun _ => rfl) (by kernel_rfl) (by kernel_rfl) (by kernel_rfl) ?_
  rw [(show obOf (orun g0 false 60 L78 (S78 q n a b i) [true, true]) = (decide (Int.ofNat i < Int.ofNat n) && true &&
  (decide (0 ≤ Int.ofNat i) && decide (Int.ofNat i < Int.ofNat n) &&
        (decide (((0 + (0 + i) * 2).add 0).succ.succ ≤ q.length) && (decide (0 = 0) && true)) &&
      true &&
    (false != ([q.getD (0 + (0 + i) * 2 + 0) 0, q.getD ((0 + (0 + i) * 2).add 0).succ 0] == [a, b] && true) && true))) from by kernel_rfl)]
  unfold pairAt at hp
  have e1 : (0 + (0 + i) * 2 + 0) = 2 * i := by omega
  have e2 : ((0 + (0 + i) * 2).add 0).succ = 2 * i + 1 := by simp; omega
  rw [e1, e2, beq_two, hp]
  simp
  omega

theorem e78c {q : List Int} {n : Nat} {a b : Int} : Exec PP T none x78.nt 0 L78 (S78 q n a b n) (.x 0) (S78 q n a b n) := by
  refine exec_orun env0 false 60 [false] [0, 1] (fun _ => rfl) (by kernel_rfl) (by kernel_rfl) (by kernel_rfl) ?_
  rw [(show obOf (orun g0 false 60 L78 (S78 q n a b n) [false]) = (!decide (Int.ofNat n < Int.ofNat n) && true) from by kernel_rfl)]
  simp

/-- whether a list of pairs has a pair -/
def hasP (q : List Int) (n : Nat) (a b : Int) : Bool := (List.range n).any fun i => pairAt q i a b

abbrev A78 (n : Nat) (a b : Int) : List AV := [.s (.sl 0 0 2 n), .pb [.int .i64 a, .int .i64 b] 0 ff]
abbrev V78 (q : List Int) : List HO := [⟨true, .xvec .i64 2 q⟩]

abbrev M78 (q : List Int) (n : Nat) (a b : Int) : St := mkSt [(0, ⟨true, .av (.s (.sl 0 0 2 n))⟩), (3, ⟨true, .av (.s (.ptr 1 0 0))⟩)] (H78 q a b) 2 []

theorem x78a {q : List Int} {n : Nat} {a b : Int} : Exec PP T none x78.nt 0 x78.body.a (startSt (A78 n a b) (V78 q)) .n (M78 q n a b) := by
  refine exec_orun env0 false 60 [] [0, 1] (fun _ => rfl) (by kernel_rfl) (by kernel_rfl) (by kernel_rfl) (by kernel_rfl)
theorem x78b {q : List Int} {n : Nat} {a b : Int} : Exec PP T none x78.nt 0 x78.body.b.a.a (M78 q n a b) .n (S78 q n a b 0) := by
  refine exec_orun env0 false 60 [] [0, 1] (fun _ => rfl) (by kernel_rfl) (by kernel_rfl) (by kernel_rfl) (by kernel_rfl)
theorem x78c {q : List Int} {n : Nat} {a b : Int} : Exec PP T none x78.nt 0 x78.body.b.b (S78 q n a b n) .r (R78 false) := by
  refine exec_orun env0 false 60 [] [] (fun _ => rfl) (by kernel_rfl) (by kernel_rfl) (by kernel_rfl) (by kernel_rfl)

theorem any_first (f : Nat → Bool) (n : Nat) (h : (List.range n).any f = true) : ∃ p, p < n ∧ f p = true ∧ ∀ i, i < p → f i = false := by
  rw [List.any_eq_true] at h
  obtain ⟨x, hx, hf⟩ := h
  rw [List.mem_range] at hx
  induction x using Nat.strongRecOn with
  | _ x ih =>
    by_cases hc : ∃ i, i < x ∧ f i = true
    · obtain ⟨i, h1, h2⟩ := hc
      exact ih i h1 (by omega) h2
    · refine ⟨x, hx, hf, fun i hi => ?_⟩
      cases hh : f i with
      | false => rfl
      | true => exact absurd ⟨i, hi, hh⟩ hc

theorem any_none (f : Nat → Bool) (n : Nat) (h : (List.range n).any f = false) : ∀ i, i < n → f i = false := by
  intro i hi
  cases hh : f i with
  | false => rfl
  | true =>
    have : (List.range n).any f = true := List.any_eq_true.2 ⟨i, List.mem_range.2 hi, hh⟩
    rw [h] at this; cases this

theorem body78 {q : List Int} {n : Nat} {a b : Int} (hq : q.length = n * 2) (hn : n ≤ 1000000000) : Exec PP T none x78.nt 0 x78.body (startSt (A78 n a b) (V78 q)) .r (R78 (hasP q n a b)) := by
  refine exec_seq (x := x78.body.a) (y := x78.body.b) x78a ?_
  cases hh : hasP q n a b with
  | true =>
    obtain ⟨p, h1, h2, h3⟩ := any_first _ _ hh
    refine exec_seq_x (x := x78.body.b.a) (y := x78.body.b.b) (exec_seq (x := x78.body.b.a.a) (y := .block 0 (.loop L78)) x78b (exec_block (e := .r) (exec_loop_up (S78 q n a b) p (fun i hi => e78a hq (by omega) hn (h3 i hi)) (e78b hq h1 h2) (by simp) 0 (by omega)))) (by simp)
  | false =>
    have h3 := any_none _ _ hh
    exact exec_seq (x := x78.body.b.a) (y := x78.body.b.b) (exec_seq (x := x78.body.b.a.a) (y := .block 0 (.loop L78)) x78b (exec_block (e := .x 0) (exec_loop_up (S78 q n a b) n (fun i hi => e78a hq hi hn (h3 i hi)) e78c (by simp) 0 (by omega)))) x78c

def gHas (args : List AV) (h : Nat → Option HO) : Option (Bool × TV × List Nat) := match args with
  | [s, .pb [.int .i64 a, .int .i64 b] 0 _] => match srcOf (.av s) h .i64 2 with
    | some (vc, q, n, rd) => some (vc && bndL n, B (hasP q n a b), rd)
    | none => none
  | _ => none

theorem gHas_fp : PureFp gHas := by
  intro args h h' q hg hf
  unfold gHas at hg ⊢
  split at hg
  · split at hg
    · rename_i hs
      cases hg
      rw [srcOf_fp hs hf]
    · cases hg
  · cases hg

/-- one slice that is read, as the small heap -/
def mm1 (mb : MB) : MM := fun j => bif Nat.beq j 0 then some mb else none

theorem ro1 {cmp : Cmp} {w : World} {mb : MB} {o : AO} (h1 : ∀ m', OR cmp m' mb o w) (h2 : ∀ b, mb.b = some b → b < w.heap.size) : RoView cmp (mm1 mb) [⟨true, o⟩] w := by
  refine ⟨fun j ho hj => ?_, fun j hj => ?_⟩
  · cases j with
    | zero => simp only [List.getElem?_cons_zero, Option.some.injEq] at hj; subst hj; exact ⟨rfl, mb, rfl, h1 _, h2⟩
    | succ j => simp at hj
  · simp at hj
    show (bif Nat.beq j 0 then some mb else none) = none
    rw [beqF (by omega)]; rfl

theorem ok78 : SpecOK PP (compC T) 78 (pureS gHas) := by
  refine spec_pure tokP o78 fun ctx m h w args vals v rd base hH hargs hg => ?_
  unfold gHas at hg
  split at hg
  · rename_i s a b f
    split at hg
    · rename_i vc q n rd' hs
      simp only [Option.some.injEq, Prod.mk.injEq, Bool.and_eq_true] at hg
      obtain ⟨⟨hvc, hn⟩, rfl, rfl⟩ := hg
      match vals, hargs with
      | [v1, v2], ⟨ha1, ha2, _⟩ =>
        subst hvc
        obtain ⟨mb, k1, k2, k3, k4⟩ := view_slice hH ha1 hs
        refine ⟨mm1 mb, [⟨true, .xvec .i64 2 q⟩], A78 n a b, shown_val (ts := [(4, ⟨true, B (hasP q n a b)⟩)]) (ro1 k1 k2) ⟨k3 (mm1 mb) 0 rfl, ?_, trivial⟩ (by kernel_rfl) (body78 k4 (by simpa [bndL] using hn)) (fun _ => rfl) (by kernel_rfl) (by kernel_rfl)⟩
        obtain ⟨cs, e1, vs, e2, e3, e4⟩ := ha2
        refine ⟨cs, e1, vs, ?_, e3, by simpa [bcells] using e4⟩
        match vs, e2 with
        | [u1, u2], ⟨p1, p2, _⟩ => exact ⟨p1, p2, trivial⟩
    · cases hg
  · cases hg

end Go.Proofs.Yteekkjfjpoaihaa.Eng

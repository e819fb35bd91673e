/- The engine, part 19: a function's results; how it ends; a range over a function; a round. -/
import Derived.Test.YteekkjfjpoaihaaEr
import Derived.RangeFuncRecord
set_option linter.all false
namespace Go.Proofs.Yteekkjfjpoaihaa.Eng
open Go

/-- where a result lies -/
inductive XR where
  | t (n : Nat)
  | cell (a : Nat) (lk : LK)

def compR (T : Tab) : ResultVar → Option XR
  | .tmp t => some (.t t)
  | .cell a ty => (lkT T ty).map (.cell a)
def compRs (T : Tab) : List ResultVar → Option (List XR)
  | [] => some []
  | x :: r => (compR T x).bind fun y => (compRs T r).map (y :: ·)

def resV1 (sl : Nat → Option Slot) (hp : Nat → Option HO) : XR → Option (Bool × AV)
  | .t n => match evalX sl (.t n) with
    | ⟨c, .av v⟩ => some (c, v)
    | _ => none
  | .cell a lk => match evalX sl (.t a) with
    | ⟨c, .av (.s (.ptr id b o))⟩ => match hp id with
      | some ho => (ldO lk ho.o b o).map fun r => (c && r.1, r.2)
      | none => none
    | _ => none
def resVs (sl : Nat → Option Slot) (hp : Nat → Option HO) : List XR → Option (Bool × List AV)
  | [] => some (true, [])
  | x :: r => match resV1 sl hp x with
    | some (c, v) => match resVs sl hp r with
      | some (c', l) => some (c && c', v :: l)
      | none => none
    | none => none
def resV (sl : Nat → Option Slot) (hp : Nat → Option HO) (rs : List XR) : Option (Bool × TV) :=
  match resVs sl hp rs with
  | some (c, [v]) => some (c, .av v)
  | some (c, l) => some (c, .tup l)
  | none => none

/-- a function as the small code -/
structure XFn where
  nt : Nat
  body : XC
  res : List XR

noncomputable def compFn (T : Tab) (fn : Func) : Option XFn := match fn.body with
  | some b => match compC T fn.ntmps b, compRs T fn.results.toList with
    | some c, some rs => some ⟨fn.ntmps, c, rs⟩
    | _, _ => none
  | none => none

section
variable {P : Program} {T : Tab} {r : Option Nat} {Γ : Cal → Option Spec} {nt kp : Nat}

def resM (tmps : Array Value) : ResultVar → Sem Value
  | .tmp t => pure (tmps.getD t undef)
  | .cell ad t => do loadVar t (← asAddr (tmps.getD ad undef))

theorem results_resM (fn : Func) (tmps : Array Value) : results fn tmps = (do let vs ← fn.results.mapM (resM tmps); pure (if h : vs.size = 1 then vs[0] else .tuple vs)) := rfl

theorem resV1_snd (hT : TOK P T) {cmp : Cmp} {ctx : Ctx} {m : MM} {sl : Nat → Option Slot} {hp : Nat → Option HO} {df : List Nat} {a : Act} {w : World} (hR : RelF cmp ctx nt m sl hp df a w) {x : ResultVar} {y : XR} (hy : compR T x = some y) {c : Bool} {v : AV} (hv : resV1 sl hp y = some (c, v)) (hc : c = true) :
    ∃ u, (resM a.tmps x).run P w = .ok u w ∧ AR m v u := by
  cases x with
  | tmp t =>
    cases hy
    simp only [resV1] at hv
    split at hv
    case h_2 => cases hv
    rename_i c0 v0 he
    simp only [Option.some.injEq, Prod.mk.injEq] at hv
    obtain ⟨rfl, rfl⟩ := hv
    refine ⟨_, rfl, ?_⟩
    have := evalX_TR hR (y := .tmp t) rfl (by rw [he]; exact hc)
    rw [he] at this
    exact this
  | cell ad t =>
    obtain ⟨lk, hk, rfl⟩ := Option.map_eq_some_iff.1 hy
    simp only [resV1] at hv
    split at hv
    case h_2 => cases hv
    rename_i c0 id b' o' he
    split at hv
    case h_2 => cases hv
    rename_i hob hho
    obtain ⟨rv, hl, h2⟩ := Option.map_eq_some_iff.1 hv
    simp only [Prod.mk.injEq] at h2
    obtain ⟨rfl, rfl⟩ := h2
    simp only [Bool.and_eq_true] at hc
    have hp1 := evalX_TR hR (y := .tmp ad) rfl (by rw [he]; exact hc.1)
    rw [he] at hp1
    obtain ⟨mb, bb, h1, h2, hv⟩ := hp1
    obtain ⟨mb', h1', hor, _⟩ := hR.heap.obj id hob hho
    rw [h1] at h1'
    cases h1'
    have hv' : a.tmps.getD ad undef = .pointer (some ⟨bb, mb.base + (b' + o'), none⟩) := hv
    cases lk with
    | one =>
      obtain ⟨u, hu1, hu2⟩ := ld_one hor h2 hl hc.2
      refine ⟨u, ?_, hu2⟩
      simp only [resM, hv']
      simp [asAddr, loadVar, (lk_one hT hk).1, hu1]
    | many p q =>
      obtain ⟨cs, hcl, hcells, hu2⟩ := ld_many hor h2 hl hc.2
      refine ⟨.agg cs.toArray, ?_, hu2⟩
      have hrun := run_loadCells_list (P := P) w ⟨bb, mb.base + (b' + o'), none⟩ cs (fun j u hj => by rw [addr_add]; exact hcells j u hj)
      rw [hcl] at hrun
      simp only [resM, hv']
      simp [asAddr, loadVar, (lk_many hT hk).1, T_size hT (lk_many hT hk).2, hrun]

theorem resVs_snd (hT : TOK P T) {cmp : Cmp} {ctx : Ctx} {m : MM} {sl : Nat → Option Slot} {hp : Nat → Option HO} {df : List Nat} {a : Act} {w : World} (hR : RelF cmp ctx nt m sl hp df a w) : ∀ {xs : List ResultVar} {ys : List XR}, compRs T xs = some ys → ∀ {c : Bool} {l : List AV}, resVs sl hp ys = some (c, l) → c = true →
    ∃ us, (xs.mapM (resM a.tmps)).run P w = .ok us w ∧ All2 (AR m) l us
  | [], ys, hy, c, l, hv, hc => by
    simp only [compRs, Option.some.injEq] at hy
    subst hy
    simp only [resVs, Option.some.injEq, Prod.mk.injEq] at hv
    obtain ⟨_, rfl⟩ := hv
    exact ⟨[], rfl, trivial⟩
  | x :: xs, ys, hy, c, l, hv, hc => by
    simp only [compRs, Option.bind_eq_some_iff, Option.map_eq_some_iff] at hy
    obtain ⟨y, h1, zs, h2, rfl⟩ := hy
    simp only [resVs] at hv
    split at hv
    case h_2 => cases hv
    rename_i c0 v0 hv0
    split at hv
    case h_2 => cases hv
    rename_i c1 l1 hv1
    simp only [Option.some.injEq, Prod.mk.injEq] at hv
    obtain ⟨rfl, rfl⟩ := hv
    simp only [Bool.and_eq_true] at hc
    obtain ⟨u, g1, g2⟩ := resV1_snd hT hR h1 hv0 hc.1
    obtain ⟨us, g3, g4⟩ := resVs_snd hT hR h2 hv1 hc.2
    refine ⟨u :: us, ?_, g2, g4⟩
    rw [List.mapM_cons, Sem.run_bind]
    rw [g1]
    simp only [Result.andThen_ok, Sem.run_bind]
    rw [g3]
    rfl

theorem resV_snd (hT : TOK P T) {cmp : Cmp} {ctx : Ctx} {m : MM} {sl : Nat → Option Slot} {hp : Nat → Option HO} {df : List Nat} {a : Act} {w : World} (hR : RelF cmp ctx nt m sl hp df a w) {fn : Func} {ys : List XR} (hy : compRs T fn.results.toList = some ys) {c : Bool} {tv : TV} (hv : resV sl hp ys = some (c, tv)) (hc : c = true) :
    ∃ v, (results fn a.tmps).run P w = .ok v w ∧ TR m tv v := by
  have key : ∀ {c : Bool} {l : List AV}, resVs sl hp ys = some (c, l) → c = true → ∃ us, (results fn a.tmps).run P w = .ok (if h : us.size = 1 then us[0] else .tuple us) w ∧ All2 (AR m) l us.toList := by
    intro c l h1 h2
    obtain ⟨us, g1, g2⟩ := resVs_snd hT hR hy h1 h2
    refine ⟨us.toArray, ?_, g2⟩
    rw [results_resM, Sem.run_bind, Array.mapM_eq_mapM_toList, Sem.run_map, g1]
    rfl
  unfold resV at hv
  split at hv
  · rename_i c0 v0 h0
    simp only [Option.some.injEq, Prod.mk.injEq] at hv
    obtain ⟨rfl, rfl⟩ := hv
    obtain ⟨us, g1, g2⟩ := key h0 hc
    have hl : us.size = 1 := by have := All2.length g2; simpa using this
    rw [dif_pos hl] at g1
    refine ⟨_, g1, ?_⟩
    obtain ⟨us⟩ := us
    match us, g2 with
    | [u], g2 => exact g2.1
  · rename_i c0 l0 hne h0
    simp only [Option.some.injEq, Prod.mk.injEq] at hv
    obtain ⟨rfl, rfl⟩ := hv
    obtain ⟨us, g1, g2⟩ := key h0 hc
    have hl : us.size ≠ 1 := by
      intro e
      have := All2.length g2
      rw [Array.length_toList, e] at this
      match l0, this with
      | [v], _ => exact hne v rfl
    rw [dif_neg hl] at g1
    exact ⟨_, g1, us.toList, by simp, g2⟩
  · cases hv

/-! ### how a function ends -/

/-- the blocks for deferred calls are shut -/
def leaveH (h : Nat → Option HO) : List Nat → Nat → Option HO
  | [] => h
  | id :: r => leaveH (fun j => if j = id then some ⟨false, .gone⟩ else h j) r
def dfOk (h : Nat → Option HO) : List Nat → Bool
  | [] => true
  | id :: r => (match h id with | some ⟨false, .dfr⟩ => true | _ => false) && dfOk (fun j => if j = id then some ⟨false, .gone⟩ else h j) r

theorem Wr.putObj {w : World} {b : Nat} {o : Obj} : Wr w (w.putObj b o) b :=
  ⟨by simp, fun k hk => World.putObj_heap_other hk, rfl, rfl, rfl⟩

theorem HRel.turn {cmp : Cmp} {ctx : Ctx} {m : MM} {h : Nat → Option HO} {w w' : World} {id : Nat} {ho ho' : HO} {mb : MB} {b : Nat} (hH : HRel cmp ctx m h w) (hid : h id = some ho) (hro : ho.ro = false) (hl : ho.live = true) (hro' : ho'.ro = false)
    (hm : m id = some mb) (hb : mb.b = some b) (hw : Wr w w' b) (hor : OR cmp m mb ho'.o w') : HRel cmp ctx m (fun j => if j = id then some ho' else h j) w' := by
  have hs : Stp cmp m m w w' [(id, ho')] 0 [] := Stp.upd1 hH hm hb hw hor
  have := HRel.step hH hs (by simp [updOk, hid, hro, hl, hro']) rfl
  exact this

theorem leaves_snd {fn : Func} {tmps : Array Value} {R : Ending → World → Prop} {cmp : Cmp} {ctx : Ctx} {m : MM} : ∀ {df : List Nat} {ds : List Deferred} {h : Nat → Option HO} {w : World},
    All2 (fun id d => ∃ mb b, m id = some mb ∧ mb.b = some b ∧ d = ({ target := .collected b, args := #[] } : Deferred)) df ds → dfOk h df = true → HRel cmp ctx m h w →
    (∀ w', HRel cmp ctx m (leaveH h df) w' → ∃ v, (results fn tmps).run P w' = .ok v w' ∧ R (.returned v) w') → LeavesInM (FR none) 0 P fn tmps R ds .returning w
  | [], [], h, w, _, _, hH, hR => hR w hH
  | [], _ :: _, _, _, hd, _, _, _ => hd.elim
  | _ :: _, [], _, _, hd, _, _, _ => hd.elim
  | id :: df, d :: ds, h, w, ⟨⟨mb, b, h1, h2, h3⟩, hd⟩, hk, hH, hR => by
    subst h3
    simp only [dfOk, Bool.and_eq_true] at hk
    obtain ⟨hk1, hk2⟩ := hk
    split at hk1
    case h_2 => cases hk1
    rename_i hid
    obtain ⟨mb', g1, g2, g3, g4⟩ := hH.obj id _ hid
    rw [h1] at g1
    cases g1
    obtain ⟨b', g5, g6⟩ := g2
    rw [h2] at g5
    cases g5
    refine ⟨by simp, .inl ⟨b, _, rfl, run_takeDeferred g6, ?_⟩⟩
    exact leaves_snd hd hk2 (HRel.turn hH hid rfl rfl rfl h1 h2 Wr.putObj trivial) hR

/-- the slots that a function starts with -/
def argSl (l : List AV) (t : Nat) : Option Slot := (l[t]?).map fun v => ⟨true, .av v⟩

theorem argSl_slot {m : MM} {args : List AV} {vals : List Value} (ha : All2 (AR m) args vals) (n : Nat) (t : Nat) (s : Slot) (h : argSl args t = some s) : SlotR m s ((vals.toArray ++ Array.replicate n undef).getD t undef) := by
  unfold argSl at h
  obtain ⟨v, h1, rfl⟩ := Option.map_eq_some_iff.1 h
  obtain ⟨u, h2, h3⟩ := All2.get ha h1
  have : (vals.toArray ++ Array.replicate n undef).getD t undef = u := by
    rw [Array.getD_eq_getD_getElem?, Array.getElem?_append_left (by simpa using (List.getElem?_eq_some_iff.1 h2).1)]
    simp [h2]
  rw [this]
  exact ⟨fun _ => h3, fun h => (by cases h)⟩

/-- a function, by a run of its body -/
theorem callsIn_exec (hT : TOK P T) {f : FuncId} {fn : Func} {x : XFn} (hf : P.funcs[f]? = some fn) (hx : compFn T fn = some x) {args : List AV} {vals : List Value} {S S' : St} {e : XE} {tv : TV} (hlen : args.length ≤ x.nt)
    (hsl : ∀ t s, S.sl.get t = some s → argSl args t = some s) (hdf : S.df = []) (hrun : Exec P T none x.nt kp x.body S e S') (he : e = .n ∨ e = .r) (hd : dfOk S'.hp.get S'.df = true)
    (hres : resV S'.sl.get (leaveH S'.hp.get S'.df) x.res = some (true, tv)) {ctx : Ctx} {m : MM} {w : World} (hH : HRel (compC T) ctx m S.hp.get w) (hargs : All2 (AR m) args vals) {R : Ending → World → Prop}
    (hR : ∀ v w' m', MM.leK kp m m' → TR m' tv v → HRel (compC T) ctx m' (leaveH S'.hp.get S'.df) w' → R (.returned v) w') : CallsIn (FR none) 0 P f vals.toArray w R := by
  unfold compFn at hx
  split at hx
  case h_2 => cases hx
  rename_i b hb
  split at hx
  case h_2 => cases hx
  rename_i c rs hc hrs
  cases hx
  refine callsIn_of_wp_marks hf hb trivial (hrun b hc ctx m _ w _ ⟨fun t s h => argSl_slot hargs _ t s (hsl t s h), ?_, hH, by rw [hdf]; trivial⟩ fun a' w' m' hm hR' => ?_)
  · have := All2.length hargs
    simp [this]
    exact Nat.add_sub_cancel' hlen
  · have key : LeavesInM (FR none) 0 P fn a'.tmps R a'.defers .returning w' := by
      refine leaves_snd hR'.df hd hR'.heap fun w'' hH'' => ?_
      have hR'' : RelF (compC T) ctx fn.ntmps m' S'.sl.get (leaveH S'.hp.get S'.df) [] { a' with defers := [] } w'' := ⟨hR'.slot, hR'.size, hH'', trivial⟩
      obtain ⟨v, g1, g2⟩ := resV_snd hT hR'' hrs hres rfl
      exact ⟨v, g1, hR v w'' m' hm g2 hH''⟩
    rcases he with rfl | rfl
    · exact key
    · exact key

/-! ### a call's step, from what holds within -/

def wbOf (m : MM) (upd : List (Nat × HO)) (b : Nat) : Prop := ∃ u ∈ upd, ∃ mb, m u.1 = some mb ∧ mb.b = some b

/-- the caller's ids and the callee's new ones -/
def subM (m m1 : MM) (N : Nat → Nat) (base n : Nat) : MM := fun id => if base ≤ id ∧ id < base + n then m1 (N (id - base)) else m id

theorem sub_stp {cmp : Cmp} {ctx : Ctx} {m : MM} {h : Nat → Option HO} {w : World} {base : Nat} {upd : List (Nat × HO)} {news : List HO} (hH : HRel cmp ctx m h w) (hfr : ∀ k, k < news.length → h (base + k) = none)
    {m1 : MM} {h1 : Nat → Option HO} {w1 : World} (hH1 : HRel cmp ⟨w, wbOf m upd⟩ m1 h1 w1) {N : Nat → Nat} (hinj : ∀ i j, i < news.length → j < news.length → N i = N j → i = j)
    (hN : ∀ k, k < news.length → ∃ ho, h1 (N k) = some ho ∧ ho.ro = false ∧ ho.live = true)
    (hold : ∀ u ∈ upd, u.2.live = true → ∃ j ho, h1 j = some ho ∧ ho.live = true ∧ m1 j = m u.1 ∧ ∀ k, k < news.length → N k ≠ j)
    (hupd : ∀ u ∈ upd, ∃ mb, m u.1 = some mb ∧ OR cmp (subM m m1 N base news.length) mb u.2.o w1)
    (hnew : ∀ k ho, news[k]? = some ho → ∃ mb, m1 (N k) = some mb ∧ OR cmp (subM m m1 N base news.length) mb ho.o w1) :
    Stp cmp m (subM m m1 N base news.length) w w1 upd base news where
  ext := fun id mb hm => by
    unfold subM
    split
    · rename_i hc
      have := hH.dom id (by have := hfr (id - base) (by omega); rwa [show base + (id - base) = id by omega] at this)
      rw [hm] at this; cases this
    · exact hm
  dom := fun id mb hm => by
    unfold subM at hm
    split at hm
    · rename_i hc; exact .inr hc
    · exact .inl hm
  size := hH1.size
  same := fun b hb hne => hH1.same0 b hb fun ⟨u, hu, mb, h2, h3⟩ => hne u hu mb h2 h3
  os := hH1.os
  tape := hH1.tape
  output := hH1.output
  upd := hupd
  new := fun k ho hk => by
    obtain ⟨mb, g1, g2⟩ := hnew k ho hk
    have hkl : k < news.length := (List.getElem?_eq_some_iff.1 hk).1
    refine ⟨mb, by unfold subM; rw [if_pos (by omega), show base + k - base = k by omega]; exact g1, g2, fun b hb => ?_⟩
    obtain ⟨hoN, q1, q2, q3⟩ := hN k hkl
    obtain ⟨mb', q4, _, q5, q6⟩ := hH1.obj (N k) hoN q1
    rw [g1] at q4
    cases q4
    refine ⟨q5 q3 b hb, ?_⟩
    rcases q6 q2 q3 b hb with q7 | ⟨u, hu, mbu, q8, q9⟩
    · exact .inl q7
    · refine .inr ⟨u, hu, ?_, mbu, q8, q9⟩
      cases hl : u.2.live with
      | false => rfl
      | true =>
        obtain ⟨j, hoj, p1, p2, p3, p4⟩ := hold u hu hl
        exact absurd q9 (hH1.dist (N k) j hoN hoj mb mbu b (p4 k hkl) q1 p1 q2 q3 p2 g1 (by rw [p3]; exact q8) hb)
  ndist := fun k k' mb mb' b hk hk' hne hm hm' hb => by
    unfold subM at hm hm'
    rw [if_pos (by omega), show base + k - base = k by omega] at hm
    rw [if_pos (by omega), show base + k' - base = k' by omega] at hm'
    obtain ⟨ho, q1, q2, q3⟩ := hN k hk
    obtain ⟨ho', q1', _, q3'⟩ := hN k' hk'
    exact hH1.dist (N k) (N k') ho ho' mb mb' b (fun e => hne (hinj k k' hk hk' e)) q1 q1' q2 q3 q3' hm hm' hb

/-! ### a range over a function -/

def pjExit : LS → Option XE
  | .ready => some .n
  | .done .ret => some .r
  | .done (.exit id) => some (.x id)
  | .busy => none

noncomputable def rfH (S : St) (ps : List Nat) (asg body : XC) : Sto HO := (S.hp.set S.nx ⟨false, .dfr⟩).set (S.nx + 1) ⟨false, .loop S.sl ps asg body .ready⟩
noncomputable def rfS (S : St) (ps : List Nat) (asg body : XC) (e : Eff) : St :=
  { sl := S.sl, hp := (((rfH S ps asg body).setAll e.upd).setNews (S.nx + 2) e.news).set (S.nx + 1) ⟨false, .gone⟩, nx := S.nx + 2 + e.news.length, df := S.nx :: S.df }

theorem exec_rf (hE : EnvOK P T Γ) {f : XO} {ps : List Nat} {asg body : XC} {S : St} {fid : FuncId} {caps : List Nat} {sp : Spec} {e : Eff} {sl2 : Sto Slot} {ps2 : List Nat} {asg2 body2 : XC} {st : LS} {ex : XE}
    (hf : evalX S.sl.get f = ⟨true, .av (.s (.fn fid caps))⟩) (hn1 : (S.hp.get S.nx).isNone = true) (hn2 : (S.hp.get (S.nx + 1)).isNone = true) (hsp : Γ (.f fid) = some sp)
    (hrun : sp.run (.s (.yield (S.nx + 1)) :: capArgs caps) (rfH S ps asg body).get (S.nx + 2) = some e) (hvc : e.vc = true) (hup : updOk (rfH S ps asg body).get e.upd = true) (hnw : newsOk (rfH S ps asg body).get (S.nx + 2) e.news = true)
    (hl : (((rfH S ps asg body).setAll e.upd).setNews (S.nx + 2) e.news).get (S.nx + 1) = some ⟨false, .loop sl2 ps2 asg2 body2 st⟩) (hex : pjExit st = some ex) :
    Exec P T none nt kp (.rf f ps asg body) S ex (rfS S ps asg body e) := by
  intro code hc ctx m a w Q hR hQ
  have hsh := compC_shape hc
  cases code <;> try exact hsh.elim
  case rangeFunc g qs c1 c2 =>
    obtain ⟨g1, rfl, g2, g3, g4⟩ := hsh
    have hfv := evalX_TR hR g1 (by rw [hf])
    rw [hf] at hfv
    obtain ⟨cvs, hfv, hcaps⟩ := hfv
    have hn1' : S.hp.get S.nx = none := by simpa using hn1
    have hn2' : S.hp.get (S.nx + 1) = none := by simpa using hn2
    -- the two new blocks
    let lo : FuncId → Loop := fun fn => { state := .ready, pending := none, fn, tmps := a.tmps, params := qs, assign := c1, body := c2, defers := w.heap.size }
    let w1 : FuncId → World := fun fn => (w.alloc (.deferred (some []))).alloc (.loop (lo fn))
    let m1 := m.put S.nx ⟨some w.heap.size, 0, 0⟩
    let m2 := m1.put (S.nx + 1) ⟨some (w.heap.size + 1), 0, 0⟩
    have hm0 : m S.nx = none := hR.heap.dom _ hn1'
    have s1 : Stp (compC T) m m1 w (w.alloc (.deferred (some []))) [] S.nx [⟨false, .dfr⟩] :=
      Stp.new1 (obj := .deferred (some [])) hm0 rfl rfl rfl rfl rfl ⟨w.heap.size, rfl, World.alloc_heap_new w _⟩
    have hH1 := HRel.step hR.heap s1 rfl (by simp [newsOk, hn1'])
    have hh1 : newH (upH S.hp.get []) S.nx [⟨false, .dfr⟩] (S.nx + 1) = none := by
      simp only [newH, upH]
      rw [if_neg (by omega)]; exact hn2'
    have hm1 : m1 (S.nx + 1) = none := hH1.dom _ hh1
    have hsz : (w.alloc (.deferred (some []))).heap.size = w.heap.size + 1 := World.size_alloc _ _
    have s2 : ∀ fn, Stp (compC T) m1 m2 (w.alloc (.deferred (some []))) (w1 fn) [] (S.nx + 1) [⟨false, .loop S.sl qs.toList asg body .ready⟩] := by
      intro fn
      refine Stp.new1 (obj := .loop (lo fn)) hm1 (by rw [hsz]) rfl rfl rfl rfl ⟨w.heap.size + 1, lo fn, rfl, ?_, ?_, rfl, ?_, ?_, ?_, rfl, rfl⟩
      · have := World.alloc_heap_new (w.alloc (.deferred (some []))) (.loop (lo fn))
        rwa [hsz] at this
      · exact fun t s hs => (hR.slot t s hs).le (MM.le_trans s1.ext (MM.le_put hm1))
      · intro t ht; show t < a.tmps.size; rw [hR.size]; exact g2 t ht
      · show compC T a.tmps.size c1 = some asg; rw [hR.size]; exact g3
      · show compC T a.tmps.size c2 = some body; rw [hR.size]; exact g4
    have hH2 : ∀ fn, HRel (compC T) ctx m2 (rfH S qs.toList asg body).get (w1 fn) := by
      intro fn
      have := HRel.step hH1 (s2 fn) rfl (by simp [newsOk, hh1])
      have e1 : (rfH S qs.toList asg body).get = newH (upH (newH (upH S.hp.get []) S.nx [⟨false, .dfr⟩]) []) (S.nx + 1) [⟨false, .loop S.sl qs.toList asg body .ready⟩] := by
        funext j
        simp only [rfH, Sto.get_set, newH, upH]
      rw [e1]
      exact this
    have hle2 : m.le m2 := MM.le_trans s1.ext (MM.le_put hm1)
    refine wpIn_rangeFunc fun fn _ => ⟨w.heap.size + 1, _, w1 fn, { target := .fn (.func fid) cvs.toArray, args := #[.func (.yield (w.heap.size + 1)) #[] #[]] }, w1 fn, fid, ((Value.func (.yield (w.heap.size + 1)) #[] #[]) :: cvs).toArray, w1 fn, run_enterLoop_outer fn a.tmps qs c1 c2, ?_, fun _ _ => trivial, ?_, fun h => (by cases h), ?_⟩
    · simp [rangeCall, resolve, hfv, Deferred.ofValue]
      rfl
    · simp [invoke, run_callFunc (hE.B fid sp hsp)]
    · have hargs : All2 (AR m2) (.s (.yield (S.nx + 1)) :: capArgs caps) ((Value.func (.yield (w.heap.size + 1)) #[] #[]) :: cvs) :=
        ⟨⟨_, _, MM.put_same _ _ _, rfl, rfl⟩, (caps_spec hcaps).mono fun _ _ h => h.le hle2⟩
      refine CallsIn.mono (hE.G.1 fid sp hsp ctx m2 _ (w1 fn) _ _ (S.nx + 2) e (hH2 fn) hargs (fun k hk => (newsOk_spec hnw k e.news[k] (by simp [hk])).1) hup hrun hvc) ?_
      rintro en w3 ⟨v, m3, rfl, hv, hs⟩
      have hH3 := HRel.step (hH2 fn) hs hup hnw
      rw [← setAll_get, ← setNews_get] at hH3
      obtain ⟨mbl, k1, ⟨b, lo', k2, k3, k4⟩, _⟩ := hH3.obj _ _ hl
      have hle3 : m.le m3 := MM.le_trans hle2 hs.ext
      have hmb : m3 (S.nx + 1) = some ⟨some (w.heap.size + 1), 0, 0⟩ := hs.ext _ _ (MM.put_same _ _ _)
      rw [hmb] at k1
      cases k1
      cases k2
      have hH4 := HRel.turn (ho' := ⟨false, .gone⟩) hH3 hl rfl rfl rfl hmb rfl (Wr.putObj (o := .loop { lo' with state := .exhausted })) trivial
      have hR4 : RelSt T ctx nt m3 (rfS S qs.toList asg body e) { a with defers := [({ target := .collected w.heap.size, args := #[] } : Deferred)] ++ a.defers } (w3.putObj (w.heap.size + 1) (.loop { lo' with state := .exhausted })) := by
        refine ⟨fun t s h => (hR.slot t s h).le hle3, hR.size, ?_, ⟨⟨_, w.heap.size, hs.ext _ _ ((MM.le_put hm1) _ _ (MM.put_same _ _ _)), rfl, rfl⟩, hR.df.mono fun _ _ ⟨mb, b, q1, q2⟩ => ⟨mb, b, hle3 _ _ q1, q2⟩⟩⟩
        have e2 : (rfS S qs.toList asg body e).hp.get = fun j => if j = S.nx + 1 then some ⟨false, .gone⟩ else (((rfH S qs.toList asg body).setAll e.upd).setNews (S.nx + 2) e.news).get j := by
          funext j
          simp only [rfS, Sto.get_set]
        rw [e2]
        exact hH4
      have hfin := hQ _ _ m3 (hle3.toK kp) hR4
      cases st with
      | busy => cases hex
      | ready =>
        cases hex
        refine ⟨none, _, ?_, hfin⟩
        have := run_endLoop (P := P) k3 (by rw [k4.2.2.2.2.2.1]; simp)
        exact this.trans (congrArg (fun p => Result.ok p _) k4.2.2.2.2.2.2)
      | done j =>
        refine ⟨some (jcode j), w3.putObj (w.heap.size + 1) (.loop { lo' with state := .exhausted }), ?_, ?_⟩
        · have := run_endLoop (P := P) k3 (by rw [k4.2.2.2.2.2.1]; simp)
          exact this.trans (congrArg (fun p => Result.ok p _) k4.2.2.2.2.2.2)
        · cases j with
          | ret => cases hex; exact wpIn_ret hfin
          | exit id => cases hex; exact wpIn_exit hfin

/-! ### a round -/

def setPs (sl : Nat → Option Slot) : List Nat → List AV → Nat → Option Slot
  | p :: ps, v :: vs => setPs (fun t => if t = p then some ⟨true, .av v⟩ else sl t) ps vs
  | _, _ => sl

theorem setPs_slot {m : MM} : ∀ {ps : List Nat} {args : List AV} {vals : List Value} {sl : Nat → Option Slot} {tmps : Array Value}, All2 (AR m) args vals → (∀ t ∈ ps, t < tmps.size) → (∀ t s, sl t = some s → SlotR m s (tmps.getD t undef)) →
    (((ps.zip vals).foldl (fun tmps (x : Nat × Value) => tmps.setIfInBounds x.1 x.2) tmps).size = tmps.size) ∧
    ∀ t s, setPs sl ps args t = some s → SlotR m s (((ps.zip vals).foldl (fun tmps (x : Nat × Value) => tmps.setIfInBounds x.1 x.2) tmps).getD t undef)
  | [], _, _, _, _, _, _, h => ⟨by simp, fun t s hs => by simpa using h t s (by simpa [setPs] using hs)⟩
  | _ :: _, [], [], _, _, _, _, h => ⟨by simp, fun t s hs => by simpa using h t s (by simpa [setPs] using hs)⟩
  | _ :: _, [], _ :: _, _, _, ha, _, _ => ha.elim
  | _ :: _, _ :: _, [], _, _, ha, _, _ => ha.elim
  | p :: ps, v :: vs, u :: us, sl, tmps, ⟨h1, h2⟩, hp, h => by
    have := setPs_slot (ps := ps) (sl := fun t => if t = p then some ⟨true, .av v⟩ else sl t) (tmps := tmps.setIfInBounds p u) h2 (fun t ht => by simpa using hp t (by simp [ht])) (fun t s hs => by
      split at hs
      · rename_i e
        subst e
        cases hs
        have : t < tmps.size := hp t (by simp)
        simp [this]
        exact ⟨fun _ => h1, fun h => (by cases h)⟩
      · rename_i e
        have := h t s hs
        simp only [Array.getD_eq_getD_getElem?] at this ⊢
        rwa [Array.getElem?_setIfInBounds_ne (fun e' => e e'.symm)])
    refine ⟨?_, ?_⟩
    · simpa using this.1
    · simpa [setPs] using this.2

/-- how a round leaves its loop -/
def endLS : XE → LS
  | .n => .ready
  | .r => .done .ret
  | .x id => .done (.exit id)

def XE.isN : XE → Bool
  | .n => true
  | _ => false

/-- one round, by runs of the assignment and the body -/
theorem round_exec {id : Nat} {sl : Sto Slot} {ps : List Nat} {asg body : XC} {args : List AV} {vals : List Value} {S S1 S2 : St} {ex : XE} (hkp : id < kp) (hlen : args.length = ps.length)
    (hid : S.hp.get id = some ⟨false, .loop sl ps asg body .ready⟩) (hsl : ∀ t s, S.sl.get t = some s → setPs sl.get ps args t = some s) (hdf : S.df = [])
    (hasg : ∀ l nt, Exec P T (some l) nt kp asg S .n S1) {sl1 : Sto Slot} {ps1 : List Nat} {asg1 body1 : XC} (hid1 : S1.hp.get id = some ⟨false, .loop sl1 ps1 asg1 body1 .ready⟩)
    (hbody : ∀ l nt, Exec P T (some l) nt kp body { S1 with hp := S1.hp.set id ⟨false, .loop sl1 ps1 asg1 body1 .busy⟩ } ex S2) {sl2 : Sto Slot} {ps2 : List Nat} {asg2 body2 : XC} (hid2 : S2.hp.get id = some ⟨false, .loop sl2 ps2 asg2 body2 .busy⟩)
    {ctx : Ctx} {m : MM} {w : World} {mb : MB} {l : Nat} (hH : HRel (compC T) ctx m S.hp.get w) (hm : m id = some mb) (hb : mb.b = some l) (hargs : All2 (AR m) args vals) {R : Ending → World → Prop}
    (hR : ∀ v w' m', MM.leK kp m m' → v = .bool ex.isN → HRel (compC T) ctx m' (S2.hp.set id ⟨false, .loop sl2 ps2 asg2 body2 (endLS ex)⟩).get w' → R (.returned v) w') :
    ∃ f tmps assign body, (Instr.yield l vals.toArray).run P w = .ok (.round l f tmps assign body) w ∧ RoundIn (FR none) 0 P l f tmps assign body w R := by
  obtain ⟨mb', h1, ⟨b, lo, h2, h3, h4, h5, h6, h7, h8, h9, h10⟩, _⟩ := hH.obj _ _ hid
  rw [hm] at h1
  cases h1
  rw [hb] at h2
  cases h2
  have hvl := All2.length hargs
  refine ⟨lo.fn, _, lo.assign, lo.body, run_yield h3 (by rw [h5]; simp [hvl, hlen]), roundIn_of_wpIn trivial ?_⟩
  have hz : (lo.params.zip vals.toArray).foldl (fun tmps (x : Tmp × Value) => tmps.setIfInBounds x.1 x.2) lo.tmps = (ps.zip vals).foldl (fun tmps (x : Nat × Value) => tmps.setIfInBounds x.1 x.2) lo.tmps := by
    rw [h5, ← Array.foldl_toList]
    simp
  obtain ⟨q1, q2⟩ := setPs_slot hargs h6 h4
  rw [← hz] at q1 q2
  refine hasg l lo.tmps.size lo.assign h7 ctx m _ w _ ⟨fun t s h => q2 t s (hsl t s h), q1, hH, by rw [hdf]; trivial⟩ fun a1 w1 m1 hm1 hR1 => ?_
  have hmid : m1 id = some mb := hm1 _ _ hkp hm
  obtain ⟨mb1, g1, ⟨b1, lo1, g2, g3, g4⟩, _⟩ := hR1.heap.obj _ _ hid1
  rw [hmid] at g1
  cases g1
  rw [hb] at g2
  cases g2
  refine ⟨_, run_beginRound g3 g4.2.2.2.2.2.1, ?_⟩
  have hH1 := HRel.turn (ho' := ⟨false, .loop sl1 ps1 asg1 body1 .busy⟩) hR1.heap hid1 rfl rfl rfl hmid hb (Wr.putObj (o := .loop { lo1 with state := .busy }))
    ⟨l, _, hb, World.putObj_heap_same (Array.getElem?_eq_some_iff.1 g3).1, g4.1, g4.2.1, g4.2.2.1, g4.2.2.2.1, g4.2.2.2.2.1, rfl⟩
  refine hbody l lo.tmps.size lo.body h8 ctx m1 a1 _ _ ⟨hR1.slot, hR1.size, ?_, hR1.df⟩ fun a2 w2 m2 hm2 hR2 => ?_
  · have e1 : (S1.hp.set id ⟨false, .loop sl1 ps1 asg1 body1 .busy⟩).get = fun j => if j = id then some ⟨false, .loop sl1 ps1 asg1 body1 .busy⟩ else S1.hp.get j := by
      funext j; rw [Sto.get_set]
    show HRel (compC T) ctx m1 (S1.hp.set id ⟨false, .loop sl1 ps1 asg1 body1 .busy⟩).get _
    rw [e1]
    exact hH1
  · have hmid2 : m2 id = some mb := hm2 _ _ hkp hmid
    obtain ⟨mb2, g1, ⟨b2, lo2, k2, k3, k4⟩, _⟩ := hR2.heap.obj _ _ hid2
    rw [hmid2] at g1
    cases g1
    rw [hb] at k2
    cases k2
    have key : ∀ jump : Option Code, (match endLS ex with | .ready => jump = none | .busy => False | .done j => jump = some (jcode j)) →
        ∃ v w', (Instr.endRound l jump).run P w2 = .ok v w' ∧ R (.returned v) w' := by
      intro jump hj
      refine ⟨_, _, run_endRound jump k3, hR _ _ m2 (hm1.trans hm2) ?_ ?_⟩
      · cases ex <;> simp only [endLS] at hj <;> subst hj <;> rfl
      · have hlt := (Array.getElem?_eq_some_iff.1 k3).1
        have hH2 := HRel.turn (ho' := ⟨false, .loop sl2 ps2 asg2 body2 (endLS ex)⟩) hR2.heap hid2 rfl rfl rfl hmid2 hb (Wr.putObj (o := .loop { lo2 with state := if jump.isNone then .ready else .done, pending := jump }))
          ⟨l, _, hb, World.putObj_heap_same hlt, k4.1, k4.2.1, k4.2.2.1, k4.2.2.2.1, k4.2.2.2.2.1, by
            cases ex <;> simp only [endLS] at hj ⊢ <;> subst hj <;> exact ⟨rfl, rfl⟩⟩
        have e1 : (S2.hp.set id ⟨false, .loop sl2 ps2 asg2 body2 (endLS ex)⟩).get = fun j => if j = id then some ⟨false, .loop sl2 ps2 asg2 body2 (endLS ex)⟩ else S2.hp.get j := by
          funext j; rw [Sto.get_set]
        rw [e1]
        exact hH2
    cases ex with
    | n => exact key none rfl
    | r => exact key (some .ret) rfl
    | x i => exact key (some (.exit i)) rfl

end
end Go.Proofs.Yteekkjfjpoaihaa.Eng

/- A part of the proof of topChains_holds. -/
import Derived.Test.YteekkjfjpoaihaaOt07
set_option linter.all false
namespace Go.Proofs.Yteekkjfjpoaihaa.Eng
open Go Go.Proofs
/-- a function of an int and a slice of pairs that makes one list of ints, two a pair -/
def intPairsL (c : Int → List Int → Nat → Bool) (v : Int → List Int → Nat → TV) (ty : TypeId) (o : Int → List Int → Nat → List Int) : Spec where
  run := fun args h base => match args with
    | [.s (.int .i64 n), s] => match srcOf (.av s) h .i64 2 with
      | some (vc, q, m, rd) => some ⟨vc && (bndL m && c n q m), (v n q m).ren (renN [0] base), [], [⟨false, .ivec ty .i64 2 (o n q m)⟩], some rd⟩
      | none => none
    | _ => none
theorem intPairsL_fp {c : Int → List Int → Nat → Bool} {v : Int → List Int → Nat → TV} {ty : TypeId} {o : Int → List Int → Nat → List Int} : SpecFp (intPairsL c v ty o) := by
  intro args h h' base e hr hf
  simp only [intPairsL] at hr ⊢
  split at hr
  · split at hr
    · rename_i hs
      cases hr
      simp only [srcOf_fp hs hf]
    · cases hr
  · cases hr
theorem intPairsL_ok {f : FuncId} {x : XFn} (hx : FunOK PP T f x) {c : Int → List Int → Nat → Bool} {v : Int → List Int → Nat → TV} {ty : TypeId} {o : Int → List Int → Nat → List Int} (t : Int → List Int → Nat → List (Nat × Slot)) (hlen : Nat.ble 2 x.nt = true)
    (hb : ∀ n q m, q.length = m * 2 → m ≤ 1000000000 → c n q m = true → Exec PP T none x.nt 0 x.body (startSt (A40 n m) (H1 q)) .r (mkSt (t n q m) [⟨false, .ivec ty .i64 2 (o n q m)⟩] 1 []))
    (hres : ∀ n q m, resV (mkSt (t n q m) [⟨false, .ivec ty .i64 2 (o n q m)⟩] 1 []).sl.get (mkSt (t n q m) [⟨false, .ivec ty .i64 2 (o n q m)⟩] 1 []).hp.get x.res = some (true, v n q m)) (hids : ∀ n q m, (v n q m).ids.all (Nat.beq 0) = true) : SpecOK PP (compC T) f (intPairsL c v ty o) := by
  refine spec_gen tokP hx fun ctx m h w args vals base e hH hargs hr hvc => ?_
  simp only [intPairsL] at hr
  split at hr
  · rename_i n s
    split at hr
    · rename_i vc q m' rd hs
      cases hr
      simp only [Bool.and_eq_true] at hvc
      obtain ⟨rfl, hm, he⟩ := hvc
      match vals, hargs with
      | [v1, v2], ⟨ha1, ha2, _⟩ =>
        obtain ⟨mb, k1, k2, k3, k4⟩ := view_slice hH ha2 hs
        exact ⟨rfl, mm1 mb, H1 q, A40 n m', shown_new (tv := v n q m') (o := .ivec ty .i64 2 (o n q m')) (ro1 k1 k2) ⟨ha1, k3 (mm1 mb) 0 rfl, trivial⟩ hlen (hb n q m' k4 (by simpa [bndL] using hm) he) (fun _ => rfl) (hres n q m') (hids n q m') rfl rfl rfl (fun _ => rfl)⟩
    · cases hr
  · cases hr
def L12 : List (Nat × Spec) := [(60, pureS gNone), (61, pureS (gRel fun f => .av (.pb [] 49 (turnR f)))), (56, spTold)]
theorem L12_ok : SpecsL L12 := specsL_cons ok60 (pureS_fp gNone_fp) o60 (specsL_cons ok61 (pureS_fp (gRel_fp _)) o61 (specsL_cons ok56 spTold_fp o56 (fun p hp => absurd hp (by simp))))
noncomputable abbrev g12 : Cal → Option Spec := specsΓ L12
theorem env12 : EnvOK PP T g12 := envL L12_ok
theorem y12 {n : Int} {q : List Int} {m : Nat} {f : Nat → Bool} (h : eqB 49 f ff = false) : Exec PP T none x12.nt 0 x12.body.b.b (M12 n q m f 0) .r (mkSt [(4, lsS 0 (toldL (turnR f)).length), (5, ⟨true, I 0⟩)] [⟨false, .ivec 38 .i64 2 (flat (toldL (turnR f)))⟩] 1 []) := by
  refine exec_orun env12 false 90 [false] [18] (fun _ => rfl) (by kernel_rfl) (by kernel_rfl) (by kernel_rfl) ?_
  rw [(show obOf (orun g12 false 90 x12.body.b.b (M12 n q m f 0) [false]) = (true && true && ((!false != eqB 49 f fun x => false) && true) && true) from by kernel_rfl)]
  have h' : (eqB 49 f fun _ => false) = false := h
  simp [h']
theorem n12 {n : Int} {q : List Int} {m : Nat} {f : Nat → Bool} (h : eqB 49 f ff = true) : Exec PP T none x12.nt 0 x12.body.b.b (M12 n q m f 0) .r (mkSt [(4, ⟨true, .av (.s .nils)⟩), (5, ⟨true, I 0⟩)] [] 0 []) := by
  refine exec_orun env12 false 90 [true] [] (fun _ => rfl) (by kernel_rfl) (by kernel_rfl) (by kernel_rfl) ?_
  rw [(show obOf (orun g12 false 90 x12.body.b.b (M12 n q m f 0) [true]) = (true && true && ((false != eqB 49 f fun x => false) && true)) from by kernel_rfl)]
  have h' : (eqB 49 f fun _ => false) = true := h
  simp [h']
def turY (n : Int) (q : List Int) (m : Nat) : Bool := orderE n q m == 0 && !(eqB 49 (orderF n q m) ff)
def turN (n : Int) (q : List Int) (m : Nat) : Bool := orderE n q m == 0 && eqB 49 (orderF n q m) ff
def turL (n : Int) (q : List Int) (m : Nat) : List (Int × Int) := toldL (turnR (orderF n q m))
noncomputable abbrev sp12Y : Spec := intPairsL turY (fun n q m => .tup [.s (.sl 0 0 2 (turL n q m).length), .s (.int .i64 0)]) 38 fun n q m => flat (turL n q m)
theorem ok12Y : SpecOK PP (compC T) 12 sp12Y := intPairsL_ok o12 (fun n q m => [(4, lsS 0 (turL n q m).length), (5, ⟨true, I 0⟩)]) (by kernel_rfl) (fun n q m hq hm hc => (by
    unfold turY at hc
    simp only [Bool.and_eq_true, beq_iff_eq, Bool.not_eq_true'] at hc
    have hb := b12 (n := n) hq hm
    rw [hc.1] at hb
    exact exec_seq (x := x12.body.a) (y := x12.body.b) a12 (exec_seq (x := x12.body.b.a) (y := x12.body.b.b) hb (y12 hc.2)))) (fun n q m => by kernel_rfl) (fun n q m => by kernel_rfl)
theorem ok12N : SpecOK PP (compC T) 12 (pureS (intPairsX 0 turN fun _ _ _ => .tup [.s .nils, .s (.int .i64 0)])) :=
  intPairsX_ok o12 0 turN (fun n q m => [(4, ⟨true, .av (.s .nils)⟩), (5, ⟨true, I 0⟩)]) _ (by kernel_rfl) (fun n q m hq hm hc => (by
    unfold turN at hc
    simp only [Bool.and_eq_true, beq_iff_eq] at hc
    have hb := b12 (n := n) hq hm
    rw [hc.1] at hb
    exact exec_seq (x := x12.body.a) (y := x12.body.b) a12 (exec_seq (x := x12.body.b.a) (y := x12.body.b.b) hb (n12 hc.2)))) (fun n q m => by kernel_rfl) (fun n q m => by kernel_rfl)
end Go.Proofs.Yteekkjfjpoaihaa.Eng
namespace Go.Proofs.Yteekkjfjpoaihaa.Eng
open Go Go.Proofs
/-- a remainder as the program takes it -/
def umod (x k : Int) : Int := IntKind.i64.wrap ((IntKind.u64.wrap x).tmod (IntKind.u64.wrap k))
theorem umod_rng (x : Int) {k : Nat} (h : 0 < k) (h7 : k ≤ 7) : 0 ≤ umod x (Int.ofNat k) ∧ umod x (Int.ofNat k) < Int.ofNat k := by
  have e1 : IntKind.u64.wrap (Int.ofNat k) = Int.ofNat k := by
    simp only [IntKind.wrap, IntKind.signed, IntKind.bits, Bool.false_and, Bool.false_eq_true, if_false, Int.ofNat_eq_natCast]
    omega
  have e2 : 0 ≤ IntKind.u64.wrap x := by
    simp only [IntKind.wrap, IntKind.signed, IntKind.bits, Bool.false_and, Bool.false_eq_true, if_false]
    omega
  have e3 : 0 ≤ (IntKind.u64.wrap x).tmod (Int.ofNat k) := Int.tmod_nonneg _ e2
  have e4 : (IntKind.u64.wrap x).tmod (Int.ofNat k) < Int.ofNat k := Int.tmod_lt_of_pos _ (by simp; omega)
  have e5 : umod x (Int.ofNat k) = (IntKind.u64.wrap x).tmod (Int.ofNat k) := by
    unfold umod
    rw [e1]
    generalize (IntKind.u64.wrap x).tmod (Int.ofNat k) = y at e3 e4
    have : y < 7 := by
      have : Int.ofNat k ≤ 7 := by simp; omega
      omega
    have hy : y % 2 ^ 64 = y := by omega
    simp only [IntKind.wrap, IntKind.signed, IntKind.bits, hy]
    rw [if_neg (by simp; omega)]
  rw [e5]
  exact ⟨e3, e4⟩
end Go.Proofs.Yteekkjfjpoaihaa.Eng
namespace Go.Proofs.Yteekkjfjpoaihaa.Eng
open Go Go.Proofs
def FreeR (es : List (Nat × Nat)) (r : Nat → Bool) : Prop := ∀ p ∈ es, at7 r p.1 p.2 = false ∧ at7 r p.2 p.1 = false
def EdgeL (es : List (Nat × Nat)) : Prop := es.Nodup ∧ ∀ p ∈ es, p.1 < p.2 ∧ p.2 < 7
theorem EdgeL.tail {p : Nat × Nat} {es : List (Nat × Nat)} (h : EdgeL (p :: es)) : EdgeL es := ⟨(List.nodup_cons.1 h.1).2, fun q hq => h.2 q (by simp [hq])⟩
theorem FreeR.set {a b : Nat} {es : List (Nat × Nat)} {r : Nat → Bool} (he : EdgeL ((a, b) :: es)) (h : FreeR ((a, b) :: es) r) : FreeR es (relS r (Int.ofNat a) (Int.ofNat b)) ∧ FreeR es (relS r (Int.ofNat b) (Int.ofNat a)) := by
  have hab := he.2 (a, b) (by simp)
  have key : ∀ p ∈ es, (p.1, p.2) ≠ (a, b) ∧ (p.2, p.1) ≠ (a, b) := fun p hp => by
    have h1 := he.2 p (by simp [hp])
    have h2 := (List.nodup_cons.1 he.1).1
    refine ⟨fun e => h2 (by rw [← e]; exact hp), fun e => ?_⟩
    simp only [Prod.mk.injEq] at e
    simp at hab
    omega
  constructor
  · intro p hp
    have h1 := he.2 p (by simp [hp])
    have hf := h p (by simp [hp])
    obtain ⟨k1, k2⟩ := key p hp
    simp at hab
    constructor
    · rw [at7_relS7 (by omega) (by omega) (by omega) (by omega), hf.1]
      simpa using k1
    · rw [at7_relS7 (by omega) (by omega) (by omega) (by omega), hf.2]
      simpa using k2
  · intro p hp
    have h1 := he.2 p (by simp [hp])
    have hf := h p (by simp [hp])
    obtain ⟨k1, k2⟩ := key p hp
    simp at hab
    constructor
    · rw [at7_relS7 (by omega) (by omega) (by omega) (by omega), hf.1]
      simp at k2 ⊢
      omega
    · rw [at7_relS7 (by omega) (by omega) (by omega) (by omega), hf.2]
      simp at k1 ⊢
      omega
end Go.Proofs.Yteekkjfjpoaihaa.Eng
namespace Go.Proofs.Yteekkjfjpoaihaa.Eng
open Go Go.Proofs
/-- kinds of arguments -/
inductive PK where
  | int
  | sl (sz : Nat)
  | pr
  | bs (n : Nat)
  | gr (ty : TypeId) (n : Nat)
  | two (sz : Nat)
  | rb (ty : TypeId) (sz k : Nat)
/-- arguments, as plain data -/
inductive PA where
  | int (a : Int)
  | sl (sz : Nat) (q : List Int) (m : Nat)
  | pr (a b : Int)
  | bs (n : Nat) (f : Nat → Bool)
  | gr (ty : TypeId) (n : Nat) (a : Int) (f : Nat → Bool)
  | two (sz : Nat) (q q' : List Int) (m m' : Nat)
  | rb (ty : TypeId) (sz k : Nat) (f : Nat → Bool)
def rdA (h : Nat → Option HO) : PK → AV → Option (Bool × PA × List Nat)
  | .int, .s (.int .i64 a) => some (true, .int a, [])
  | .sl sz, v => match srcOf (.av v) h .i64 sz with
    | some (vc, q, m, rd) => some (vc && bndL m, .sl sz q m, rd)
    | none => none
  | .pr, .pb [.int .i64 a, .int .i64 b] 0 _ => some (true, .pr a b, [])
  | .bs n, .pb [] n' f => if n = n' then some (true, .bs n f, []) else none
  | .gr ty n, .s (.ptr g 0 0) => match h g with
    | some ⟨_, .row ty' [.int .i64 a] n' f⟩ => if ty = ty' ∧ n = n' then some (true, .gr ty n a f, [g]) else none
    | _ => none
  | .two sz, .pb [x, y] 0 _ => match srcOf (.av (.s x)) h .i64 sz, srcOf (.av (.s y)) h .i64 sz with
    | some (vc, q, m, rd), some (vc', q', m', rd') => some (vc && bndL m && (vc' && bndL m'), .two sz q q' m m', rd ++ rd')
    | _, _ => none
  | .rb ty sz k, .s (.sl g 0 sz' k') => match h g with
    | some ⟨_, .row ty' [] n f⟩ => if ty = ty' ∧ sz = sz' ∧ k = k' ∧ n = k * sz then some (true, .rb ty sz k f, [g]) else none
    | _ => none
  | _, _ => none
def rdAs (h : Nat → Option HO) : List PK → List AV → Option (Bool × List PA × List Nat)
  | [], [] => some (true, [], [])
  | k :: ks, v :: vs => match rdA h k v, rdAs h ks vs with
    | some (b, p, rd), some (b', ps, rd') => some (b && b', p :: ps, rd ++ rd')
    | _, _ => none
  | _, _ => none
def PA.objs : PA → List AO
  | .sl sz q _ => [.xvec .i64 sz q]
  | .gr ty n a f => [.row ty [.int .i64 a] n f]
  | .two sz q q' _ _ => [.xvec .i64 sz q, .xvec .i64 sz q']
  | .rb ty sz k f => [.row ty [] (k * sz) f]
  | _ => []
def PA.av (i : Nat) : PA → AV
  | .int a => .s (.int .i64 a)
  | .sl sz _ m => .s (.sl i 0 sz m)
  | .pr a b => .pb [.int .i64 a, .int .i64 b] 0 ff
  | .bs n f => .pb [] n f
  | .gr _ _ _ _ => .s (.ptr i 0 0)
  | .two sz _ _ m m' => .pb [.sl i 0 sz m, .sl (i + 1) 0 sz m'] 0 ff
  | .rb _ sz k _ => .s (.sl i 0 sz k)
def argsP : Nat → List PA → List AV
  | _, [] => []
  | i, p :: r => p.av i :: argsP (i + p.objs.length) r
def heapP : List PA → List HO
  | [] => []
  | p :: r => p.objs.map (fun o => ⟨true, o⟩) ++ heapP r
def PA.fit : PK → PA → Prop
  | .int, .int _ => True
  | .sl sz, .sl sz' q m => sz' = sz ∧ q.length = m * sz ∧ m ≤ 1000000000
  | .pr, .pr _ _ => True
  | .bs n, .bs n' _ => n' = n
  | .gr ty n, .gr ty' n' _ _ => ty' = ty ∧ n' = n
  | .rb ty sz k, .rb ty' sz' k' _ => ty' = ty ∧ sz' = sz ∧ k' = k
  | .two sz, .two sz' q q' m m' => sz' = sz ∧ (q.length = m * sz ∧ m ≤ 1000000000) ∧ q'.length = m' * sz ∧ m' ≤ 1000000000
  | _, _ => False
def Fits : List PK → List PA → Prop
  | [], [] => True
  | k :: ks, p :: ps => p.fit k ∧ Fits ks ps
  | _, _ => False
/-- what hangs on what is looked at -/
theorem rdA_fp {h h' : Nat → Option HO} {k : PK} {v : AV} {q : Bool × PA × List Nat} (hr : rdA h k v = some q) (hf : ∀ id ∈ q.2.2, h' id = h id) : rdA h' k v = some q := by
  unfold rdA at hr ⊢
  split at hr
  · exact hr
  · split at hr
    · rename_i hs
      cases hr
      simp only [srcOf_fp hs hf]
    · cases hr
  · exact hr
  · exact hr
  · split at hr
    · rename_i hg
      split at hr
      · rename_i hc
        cases hr
        simp only [hf _ (List.mem_singleton.2 rfl), hg, if_pos hc]
      · cases hr
    · cases hr
  · split at hr
    · rename_i hs ht
      cases hr
      simp only [srcOf_fp hs fun id hid => hf id (List.mem_append.2 (.inl hid)), srcOf_fp ht fun id hid => hf id (List.mem_append.2 (.inr hid))]
    · cases hr
  · split at hr
    · rename_i hg
      split at hr
      · rename_i hc
        cases hr
        simp only [hf _ (List.mem_singleton.2 rfl), hg, if_pos hc]
      · cases hr
    · cases hr
  · cases hr
theorem rdAs_fp {h h' : Nat → Option HO} : ∀ {ks : List PK} {vs : List AV} {q : Bool × List PA × List Nat}, rdAs h ks vs = some q → (∀ id ∈ q.2.2, h' id = h id) → rdAs h' ks vs = some q := by
  intro ks
  induction ks with
  | nil => intro vs q hr hf; cases vs <;> exact hr
  | cons k ks ih =>
    intro vs q hr hf
    cases vs with
    | nil => exact hr
    | cons v vs =>
      simp only [rdAs] at hr ⊢
      split at hr
      · rename_i h1 h2
        cases hr
        rw [rdA_fp h1 fun id hid => hf id (List.mem_append.2 (.inl hid)), ih h2 fun id hid => hf id (List.mem_append.2 (.inr hid))]
      · cases hr
section
variable {cmp : Cmp}
/-- blocks for objects that are only read -/
def Blk (cmp : Cmp) (w : World) (mbs : List MB) (os : List AO) : Prop := mbs.length = os.length ∧ ∀ (j : Nat) o mb, os[j]? = some o → mbs[j]? = some mb → (∀ m' : MM, OR cmp m' mb o w) ∧ ∀ b, mb.b = some b → b < w.heap.size
def Sits (mbs : List MB) (m : MM) (i : Nat) : Prop := ∀ (j : Nat) mb, mbs[j]? = some mb → m (i + j) = some mb
theorem blk_nil {w : World} : Blk cmp w [] [] := ⟨rfl, fun j o mb h => by simp at h⟩
theorem blk_one {w : World} {mb : MB} {o : AO} (h1 : ∀ m' : MM, OR cmp m' mb o w) (h2 : ∀ b, mb.b = some b → b < w.heap.size) : Blk cmp w [mb] [o] := ⟨rfl, fun j o' mb' h h' => by
  cases j with
  | zero => simp at h h'; subst h; subst h'; exact ⟨h1, h2⟩
  | succ j => simp at h⟩
theorem blk_append {w : World} {ms ms' : List MB} {os os' : List AO} (h : Blk cmp w ms os) (h' : Blk cmp w ms' os') : Blk cmp w (ms ++ ms') (os ++ os') := ⟨by simp [h.1, h'.1], fun j o mb k k' => by
  by_cases hj : j < os.length
  · rw [List.getElem?_append_left hj] at k
    rw [List.getElem?_append_left (by rw [h.1]; exact hj)] at k'
    exact h.2 j o mb k k'
  · rw [List.getElem?_append_right (by omega)] at k
    rw [List.getElem?_append_right (by rw [h.1]; omega), h.1] at k'
    exact h'.2 _ o mb k k'⟩
theorem Sits.left {ms ms' : List MB} {m : MM} {i : Nat} (h : Sits (ms ++ ms') m i) : Sits ms m i := fun j mb hj => h j mb (by
  have := (List.getElem?_eq_some_iff.1 hj).1
  rw [List.getElem?_append_left this]; exact hj)
theorem Sits.right {ms ms' : List MB} {m : MM} {i : Nat} (h : Sits (ms ++ ms') m i) : Sits ms' m (i + ms.length) := fun j mb hj => by
  have := h (ms.length + j) mb (by rw [List.getElem?_append_right (by omega), show ms.length + j - ms.length = j by omega]; exact hj)
  rw [← Nat.add_assoc] at this
  exact this
theorem Sits.one {mb : MB} {m : MM} {i : Nat} (h : Sits [mb] m i) : m i = some mb := by simpa using h 0 mb rfl
theorem view_arg {ctx : Ctx} {m : MM} {h : Nat → Option HO} {w : World} (hH : HRel cmp ctx m h w) {k : PK} {a : AV} {v : Value} {pa : PA} {rd : List Nat} (hv : AR m a v) (hr : rdA h k a = some (true, pa, rd)) :
    pa.fit k ∧ ∃ mbs : List MB, Blk cmp w mbs pa.objs ∧ ∀ (m' : MM) i, Sits mbs m' i → AR m' (pa.av i) v := by
  unfold rdA at hr
  split at hr
  · simp only [Option.some.injEq, Prod.mk.injEq, true_and] at hr
    obtain ⟨rfl, _⟩ := hr
    exact ⟨trivial, [], blk_nil, fun m' i _ => hv⟩
  · split at hr
    · rename_i hs
      simp only [Option.some.injEq, Prod.mk.injEq, Bool.and_eq_true] at hr
      obtain ⟨⟨rfl, hb⟩, rfl, _⟩ := hr
      obtain ⟨mb, k1, k2, k3, k4⟩ := view_slice hH hv hs
      exact ⟨⟨rfl, k4, by simpa [bndL] using hb⟩, [mb], blk_one k1 k2, fun m' i hi => k3 m' i hi.one⟩
    · cases hr
  · simp only [Option.some.injEq, Prod.mk.injEq, true_and] at hr
    obtain ⟨rfl, _⟩ := hr
    refine ⟨trivial, [], blk_nil, fun m' i _ => ?_⟩
    obtain ⟨cs, e1, vs, e2, e3, e4⟩ := hv
    refine ⟨cs, e1, vs, ?_, e3, by simpa [bcells] using e4⟩
    match vs, e2 with
    | [u1, u2], ⟨p1, p2, _⟩ => exact ⟨p1, p2, trivial⟩
  · split at hr
    · rename_i hn
      simp only [Option.some.injEq, Prod.mk.injEq, true_and] at hr
      obtain ⟨rfl, _⟩ := hr
      subst hn
      exact ⟨rfl, [], blk_nil, fun m' i _ => pb0_any hv⟩
    · cases hr
  · split at hr
    · rename_i hg
      split at hr
      · rename_i hc
        obtain ⟨rfl, rfl⟩ := hc
        simp only [Option.some.injEq, Prod.mk.injEq, true_and] at hr
        obtain ⟨rfl, _⟩ := hr
        obtain ⟨mb, k1, k2, k3⟩ := view_row hH hv hg (eqB_refl _ _)
        exact ⟨⟨rfl, rfl⟩, [mb], blk_one k1 k2, fun m' i hi => k3 m' i hi.one⟩
      · cases hr
    · cases hr
  · split at hr
    · rename_i hs ht
      simp only [Option.some.injEq, Prod.mk.injEq, Bool.and_eq_true] at hr
      obtain ⟨⟨⟨rfl, hb⟩, rfl, hb'⟩, rfl, _⟩ := hr
      obtain ⟨cs, e1, vs, e2, e3, e4⟩ := hv
      match vs, e2 with
      | [u1, u2], ⟨p1, p2, _⟩ =>
        obtain ⟨mb, k1, k2, k3, k4⟩ := view_slice (s := .s _) hH p1 hs
        obtain ⟨mb', r1, r2, r3, r4⟩ := view_slice (s := .s _) hH p2 ht
        refine ⟨⟨rfl, ⟨k4, by simpa [bndL] using hb⟩, r4, by simpa [bndL] using hb'⟩, [mb, mb'], blk_append (ms := [mb]) (os := [_]) (blk_one k1 k2) (blk_one r1 r2), fun m' i hi => ?_⟩
        exact ⟨cs, e1, [u1, u2], ⟨k3 m' i (hi.left (ms := [mb])).one, r3 m' (i + 1) (hi.right (ms := [mb])).one, trivial⟩, e3, by simpa [bcells] using e4⟩
    · cases hr
  · split at hr
    · rename_i hg
      split at hr
      · rename_i hc
        obtain ⟨rfl, rfl, rfl, rfl⟩ := hc
        simp only [Option.some.injEq, Prod.mk.injEq, true_and] at hr
        obtain ⟨rfl, _⟩ := hr
        obtain ⟨mb, h1, h2, h3, _⟩ := hH.obj _ _ hg
        obtain ⟨b, cs, g1, g2, g3, vs, g4, g5, g6⟩ := h2
        obtain ⟨mb', q1, q2, q3⟩ := hv
        rw [h1] at q1
        cases q1
        refine ⟨⟨rfl, rfl, rfl⟩, [mb], blk_one (fun m' => ⟨b, cs, g1, g2, g3, vs, ?_, g5, g6⟩) (fun b' hb' => h3 rfl b' hb'), fun m' i hi => ⟨mb, hi.one, q2, q3⟩⟩
        match vs, g4 with
        | [], _ => trivial
      · cases hr
    · cases hr
  · cases hr
theorem heapP_cons (p : PA) (r : List PA) : heapP (p :: r) = p.objs.map (fun o => ⟨true, o⟩) ++ heapP r := rfl
def objsP (pas : List PA) : List AO := pas.flatMap PA.objs
theorem heapP_eq : ∀ pas : List PA, heapP pas = (objsP pas).map fun o => ⟨true, o⟩
  | [] => rfl
  | p :: r => by rw [heapP_cons, heapP_eq r]; simp [objsP]
theorem view_args {ctx : Ctx} {m : MM} {h : Nat → Option HO} {w : World} (hH : HRel cmp ctx m h w) : ∀ {ks : List PK} {args : List AV} {vals : List Value} {pas : List PA} {rd : List Nat}, All2 (AR m) args vals → rdAs h ks args = some (true, pas, rd) →
    Fits ks pas ∧ ∃ mbs : List MB, Blk cmp w mbs (objsP pas) ∧ ∀ (m' : MM) i, Sits mbs m' i → All2 (AR m') (argsP i pas) vals := by
  intro ks
  induction ks with
  | nil =>
    intro args vals pas rd ha hr
    cases args with
    | nil =>
      simp only [rdAs, Option.some.injEq, Prod.mk.injEq, true_and] at hr
      obtain ⟨rfl, _⟩ := hr
      cases vals with
      | nil => exact ⟨trivial, [], blk_nil, fun _ _ _ => trivial⟩
      | cons _ _ => exact ha.elim
    | cons a args => simp [rdAs] at hr
  | cons k ks ih =>
    intro args vals pas rd ha hr
    cases args with
    | nil => simp [rdAs] at hr
    | cons a args =>
      cases vals with
      | nil => exact ha.elim
      | cons v vals =>
        simp only [rdAs] at hr
        split at hr
        · rename_i h1 h2
          simp only [Option.some.injEq, Prod.mk.injEq, Bool.and_eq_true] at hr
          obtain ⟨⟨rfl, rfl⟩, rfl, _⟩ := hr
          obtain ⟨f1, mb1, b1, s1⟩ := view_arg hH ha.1 h1
          obtain ⟨f2, mb2, b2, s2⟩ := ih ha.2 h2
          refine ⟨⟨f1, f2⟩, mb1 ++ mb2, by simpa [objsP] using blk_append b1 b2, fun m' i hi => ⟨s1 m' i hi.left, ?_⟩⟩
          have := s2 m' _ hi.right
          rw [b1.1] at this
          exact this
        · cases hr
end
/-- a contract of a function of plain data: the arguments' kinds, the condition, the answer, the new objects -/
def genS (ks : List PK) (c : List PA → Bool) (v : List PA → TV) (news : List PA → List HO) : Spec where
  run := fun args h base => match rdAs h ks args with
    | some (vc, pas, rd) => some ⟨vc && c pas, (v pas).ren (renN (List.range (news pas).length) base), [], (news pas).map fun ho => ho.ren (renN (List.range (news pas).length) base), some rd⟩
    | none => none
theorem genS_fp {ks : List PK} {c : List PA → Bool} {v : List PA → TV} {news : List PA → List HO} : SpecFp (genS ks c v news) := by
  intro args h h' base e hr hf
  simp only [genS] at hr ⊢
  split at hr
  · rename_i hs
    cases hr
    rw [rdAs_fp hs hf]
  · cases hr
/-- what a run must show -/
def GenRun (x : XFn) (pas : List PA) (tv : TV) (hs : List HO) : Prop :=
  ∃ ts nx ex, Exec PP T none x.nt 0 x.body (startSt (argsP 0 pas) (heapP pas)) ex (mkSt ts hs nx []) ∧ (ex ≠ .n → ex = .r) ∧ resV (mkSt ts hs nx []).sl.get (mkSt ts hs nx []).hp.get x.res = some (true, tv) ∧
    tv.ids.all (fun j => Nat.blt j hs.length) = true ∧ hs.all (fun ho => !ho.ro && ho.live && !ho.o.isLoop && ho.o.ids.all fun j => Nat.blt j hs.length) = true
theorem argsP_len : ∀ {ks : List PK} {pas : List PA} {i : Nat}, Fits ks pas → (argsP i pas).length = ks.length
  | [], [], _, _ => rfl
  | _ :: _, _ :: _, _, h => by simp [argsP, argsP_len h.2]
  | [], _ :: _, _, h => h.elim
  | _ :: _, [], _, h => h.elim
theorem ok_gen {f : FuncId} {x : XFn} (hx : FunOK PP T f x) {ks : List PK} {c : List PA → Bool} {v : List PA → TV} {news : List PA → List HO} (hlen : Nat.ble ks.length x.nt = true)
    (hrun : ∀ pas, Fits ks pas → c pas = true → GenRun x pas (v pas) (news pas)) : SpecOK PP (compC T) f (genS ks c v news) := by
  refine spec_gen tokP hx fun ctx m hh w args vals base e hH hargs hr hvc => ?_
  simp only [genS] at hr
  split at hr
  · rename_i vc pas rd hs
    cases hr
    simp only [Bool.and_eq_true] at hvc
    obtain ⟨rfl, hc⟩ := hvc
    obtain ⟨hf, mbs, hb, hsit⟩ := view_args hH hargs hs
    obtain ⟨ts, nx, ex, r1, r2, r3, r4, r5⟩ := hrun pas hf hc
    refine ⟨rfl, fun j => mbs[j]?, heapP pas, argsP 0 pas, ?_⟩
    refine shown_news (hs' := news pas) ⟨fun j ho hj => ?_, fun j hj => ?_⟩ (hsit _ 0 fun j mb hj => by rw [Nat.zero_add]; exact hj) (by rw [argsP_len hf]; exact hlen) r1 r2 r3 r4 r5
    · rw [heapP_eq, List.getElem?_map] at hj
      cases ho' : (objsP pas)[j]? with
      | none => rw [ho'] at hj; cases hj
      | some o =>
        rw [ho'] at hj
        cases hj
        have hl := (List.getElem?_eq_some_iff.1 ho').1
        obtain ⟨mb, hm⟩ : ∃ mb, mbs[j]? = some mb := ⟨_, List.getElem?_eq_getElem (by rw [hb.1]; exact hl)⟩
        obtain ⟨k1, k2⟩ := hb.2 j o _ ho' hm
        exact ⟨rfl, _, hm, k1 _, k2⟩
    · rw [heapP_eq, List.length_map] at hj
      exact List.getElem?_eq_none (by rw [hb.1]; exact hj)
  · cases hr
end Go.Proofs.Yteekkjfjpoaihaa.Eng
namespace Go.Proofs.Yteekkjfjpoaihaa.Eng
open Go Go.Proofs
theorem blt_lt {a b : Nat} (h : a < b) : Nat.blt a b = true := Nat.ble_eq_true_of_le h
/-- where a search of the first m numbers ends -/
def fstN (p : Nat → Bool) : Nat → Nat
  | 0 => 0
  | m + 1 => bif Nat.blt (fstN p m) m then fstN p m else bif p m then m else m + 1
theorem fstN_spec (p : Nat → Bool) : ∀ m, fstN p m ≤ m ∧ (∀ i, i < fstN p m → p i = false) ∧ (fstN p m < m → p (fstN p m) = true)
  | 0 => ⟨Nat.le_refl _, fun i hi => by simp [fstN] at hi, fun h => by simp [fstN] at h⟩
  | m + 1 => by
    obtain ⟨h1, h2, h3⟩ := fstN_spec p m
    unfold fstN
    by_cases hb : fstN p m < m
    · rw [show Nat.blt (fstN p m) m = true from blt_lt hb, cond_true]
      exact ⟨by omega, h2, fun _ => h3 hb⟩
    · have : Nat.blt (fstN p m) m = false := by
        cases hh : Nat.blt (fstN p m) m with
        | false => rfl
        | true => exact absurd (Nat.le_of_ble_eq_true hh) hb
      rw [this, cond_false]
      have e : fstN p m = m := by omega
      rw [e] at h2
      cases hp : p m with
      | true => exact ⟨by simp, fun i hi => h2 i (by simpa using hi), fun _ => by simpa using hp⟩
      | false =>
        refine ⟨by simp, fun i hi => ?_, fun h => by simp at h⟩
        simp at hi
        by_cases hi' : i < m
        · exact h2 i hi'
        · rw [show i = m by omega]; exact hp
theorem blt_self (m : Nat) : Nat.blt m m = false := by
  cases hh : Nat.blt m m with
  | false => rfl
  | true => exact absurd (Nat.le_of_ble_eq_true hh) (by omega)
theorem exec_loop_find {P : Program} {T : Tab} {r : Option Nat} {nt kp : Nat} {x : XC} (S : Nat → St) (p : Nat → Bool) (m : Nat) {eh ee : XE} {Sh : Nat → St} {Se : St} (step : ∀ i, i < m → p i = false → Exec P T r nt kp x (S i) .n (S (i + 1)))
    (hit : ∀ i, i < m → p i = true → Exec P T r nt kp x (S i) eh (Sh i)) (hh : eh ≠ .n) (out : Exec P T r nt kp x (S m) ee Se) (he : ee ≠ .n) :
    (fstN p m < m ∧ Exec P T r nt kp (.loop x) (S 0) eh (Sh (fstN p m))) ∨ (fstN p m = m ∧ Exec P T r nt kp (.loop x) (S 0) ee Se) := by
  obtain ⟨h1, h2, h3⟩ := fstN_spec p m
  by_cases hb : fstN p m < m
  · exact .inl ⟨hb, exec_loop_up S (fstN p m) (fun i hi => step i (by omega) (h2 i hi)) (hit _ hb (h3 hb)) hh 0 (by omega)⟩
  · have e : fstN p m = m := by omega
    exact .inr ⟨e, exec_loop_up S m (fun i hi => step i hi (h2 i (by omega))) out he 0 (by omega)⟩
/-- a number of a list, as the runs name it -/
def at1 (q : List Int) (i : Nat) : Int := q.getD (0 + (0 + i) * 1) 0
theorem at1_eq (q : List Int) (i : Nat) : at1 q i = q.getD i 0 := by unfold at1; congr 1; omega
abbrev s1S (id m : Nat) : Slot := ⟨true, .av (.s (.sl id 0 1 m))⟩
abbrev iS (a : Int) : Slot := ⟨true, I a⟩
abbrev V1 (q : List Int) : List HO := [⟨true, .xvec .i64 1 q⟩]
def L64 : XC := x64.body.b.b.b.a.b.i.i
abbrev S64 (q : List Int) (m : Nat) (a : Int) (i : Nat) : St := mkSt [(0, s1S 0 m), (3, iS a), (4, iS i)] (V1 q) 1 []
def mxF (q : List Int) : Nat → Int
  | 0 => at1 q 0
  | i + 1 => max (mxF q i) (at1 q (i + 1))
theorem a64 {q : List Int} {m : Nat}  : Exec PP T none x64.nt 0 x64.body.a (startSt [.s (.sl 0 0 1 m)] (V1 q)) .n (mkSt [(0, s1S 0 m)] (V1 q) 1 []) := by
  refine exec_orun env0 false 60 [] [0] (fun _ => rfl) (by kernel_rfl) (by kernel_rfl) (by kernel_rfl) (by kernel_rfl)
theorem b64 {q : List Int} {m : Nat} (h : 0 < m) : Exec PP T none x64.nt 0 x64.body.b.a (mkSt [(0, s1S 0 m)] (V1 q) 1 []) .n (mkSt [(0, s1S 0 m)] (V1 q) 1 []) := by
  refine exec_orun env0 false 60 [false] [0] (fun _ => rfl) (by kernel_rfl) (by kernel_rfl) (by kernel_rfl) ?_
  rw [(show obOf (orun g0 false 60 x64.body.b.a (mkSt [(0, s1S 0 m)] (V1 q) 1 []) [false]) = (!decide (Int.ofNat m < 1) && true) from by kernel_rfl)]
  first | rfl | (simp; done) | (simp; omega) | (simp [rng64]; done) | (simp [rng64]; omega)
theorem cc64 {q : List Int} {m : Nat} (hq : q.length = m * 1) (h : 0 < m) : Exec PP T none x64.nt 0 x64.body.b.b.a (mkSt [(0, s1S 0 m)] (V1 q) 1 []) .n (mkSt [(0, s1S 0 m), (3, iS (at1 q 0))] (V1 q) 1 []) := by
  refine exec_orun env0 false 60 [] [0] (fun _ => rfl) (by kernel_rfl) (by kernel_rfl) (by kernel_rfl) ?_
  rw [(show obOf (orun g0 false 60 x64.body.b.b.a (mkSt [(0, s1S 0 m)] (V1 q) 1 []) []) = (decide (0 < Int.ofNat m) && (decide (0 < q.length) && true)) from by kernel_rfl)]
  first | rfl | (simp; done) | (simp; omega) | (simp [rng64]; done) | (simp [rng64]; omega)
theorem d64 {q : List Int} {m : Nat} {a : Int}  : Exec PP T none x64.nt 0 x64.body.b.b.b.a.a (mkSt [(0, s1S 0 m), (3, iS a)] (V1 q) 1 []) .n (S64 q m a 1) := by
  refine exec_orun env0 false 60 [] [0] (fun _ => rfl) (by kernel_rfl) (by kernel_rfl) (by kernel_rfl) (by kernel_rfl)
theorem l64 {q : List Int} {m : Nat} {a : Int} {i : Nat} (hq : q.length = m * 1) (hm : m ≤ 1000000000) (hi : i < m) : Exec PP T none x64.nt 0 L64 (S64 q m a i) .n (S64 q m (max a (at1 q i)) (i + 1)) := by
  refine exec_orun env0 false 60 [true] [0] (fun _ => rfl) (by kernel_rfl) (by kernel_rfl) (by kernel_rfl) ?_
  rw [(show obOf (orun g0 false 60 L64 (S64 q m a i) [true]) = (decide (Int.ofNat i < Int.ofNat m) && true && (decide (0 ≤ Int.ofNat i) && decide (Int.ofNat i < Int.ofNat m) && (decide (0 + (0 + i) * 1 < q.length) && true) && (rng64 (Int.ofNat i.succ) && true))) from by kernel_rfl)]
  first | rfl | (simp; done) | (simp; omega) | (simp [rng64]; done) | (simp [rng64]; omega)
theorem z64 {q : List Int} {m : Nat} {a : Int}  : Exec PP T none x64.nt 0 L64 (S64 q m a m) (.x 0) (S64 q m a m) := by
  refine exec_orun env0 false 60 [false] [0] (fun _ => rfl) (by kernel_rfl) (by kernel_rfl) (by kernel_rfl) ?_
  rw [(show obOf (orun g0 false 60 L64 (S64 q m a m) [false]) = (!decide (Int.ofNat m < Int.ofNat m) && true) from by kernel_rfl)]
  first | rfl | (simp; done) | (simp; omega) | (simp [rng64]; done) | (simp [rng64]; omega)
theorem e64 {q : List Int} {m : Nat} {a : Int} {i : Nat}  : Exec PP T none x64.nt 0 x64.body.b.b.b.b (S64 q m a i) .r (RI 2 a) := by
  refine exec_orun env0 false 60 [] [] (fun _ => rfl) (by kernel_rfl) (by kernel_rfl) (by kernel_rfl) (by kernel_rfl)
theorem body64 {q : List Int} {m : Nat} (hq : q.length = m * 1) (hm : m ≤ 1000000000) (h : 0 < m) : Exec PP T none x64.nt 0 x64.body (startSt [.s (.sl 0 0 1 m)] (V1 q)) .r (RI 2 (mxF q (m - 1))) := by
  refine exec_seq (x := x64.body.a) (y := x64.body.b) a64 (exec_seq (x := x64.body.b.a) (y := x64.body.b.b) (b64 h) (exec_seq (x := x64.body.b.b.a) (y := x64.body.b.b.b) (cc64 hq h) (exec_seq (x := x64.body.b.b.b.a) (y := x64.body.b.b.b.b) (exec_seq (x := x64.body.b.b.b.a.a) (y := .block 0 (.loop L64)) d64 (exec_block (e := .x 0) ?_)) (e64 (q := q) (m := m) (i := m)))))
  have := exec_loop_up (fun j => S64 q m (mxF q j) (j + 1)) (m - 1) (fun j hj => l64 hq hm (by omega)) (e := .x 0) (S' := S64 q m (mxF q (m - 1)) m) (by show Exec _ _ _ _ _ _ (S64 q m (mxF q (m - 1)) (m - 1 + 1)) _ _; rw [show m - 1 + 1 = m by omega]; exact z64) (by simp) 0 (by omega)
  exact this
def cMax : List PA → Bool := fun pas => match pas with | [.sl _ _ m] => decide (0 < m) | _ => false
def vMax : List PA → TV := fun pas => match pas with | [.sl _ q m] => I (mxF q (m - 1)) | _ => anyT
noncomputable abbrev spMax : Spec := genS [.sl 1] cMax vMax fun _ => []
theorem ok64 : SpecOK PP (compC T) 64 spMax := ok_gen o64 (by kernel_rfl) fun pas hf hc => match pas, hf with
  | [.sl _ q m], ⟨⟨rfl, hq, hm⟩, _⟩ => ⟨_, 0, .r, body64 hq hm (of_decide_eq_true hc), fun _ => rfl, by kernel_rfl, by kernel_rfl, by kernel_rfl⟩
def L63 : XC := x63.body.b.a.b.i.i
abbrev S63 (q : List Int) (m : Nat) (v : Int) (i : Nat) : St := mkSt [(0, s1S 0 m), (1, iS v), (7, iS m), (8, iS i)] (V1 q) 1 []
theorem a63 {q : List Int} {m : Nat} {v : Int}  : Exec PP T none x63.nt 0 x63.body.a (startSt [.s (.sl 0 0 1 m), .s (.int .i64 v)] (V1 q)) .n (mkSt [(0, s1S 0 m), (1, iS v)] (V1 q) 1 []) := by
  refine exec_orun env0 false 60 [] [0] (fun _ => rfl) (by kernel_rfl) (by kernel_rfl) (by kernel_rfl) (by kernel_rfl)
theorem b63 {q : List Int} {m : Nat} {v : Int}  : Exec PP T none x63.nt 0 x63.body.b.a.a (mkSt [(0, s1S 0 m), (1, iS v)] (V1 q) 1 []) .n (S63 q m v 0) := by
  refine exec_orun env0 false 60 [] [0] (fun _ => rfl) (by kernel_rfl) (by kernel_rfl) (by kernel_rfl) (by kernel_rfl)
theorem l63 {q : List Int} {m : Nat} {v : Int} {i : Nat} (hq : q.length = m * 1) (hm : m ≤ 1000000000) (hi : i < m) (h : (v == at1 q i) = false) : Exec PP T none x63.nt 0 L63 (S63 q m v i) .n (S63 q m v (i + 1)) := by
  refine exec_orun env0 false 60 [true, false] [0] (fun _ => rfl) (by kernel_rfl) (by kernel_rfl) (by kernel_rfl) ?_
  rw [(show obOf (orun g0 false 60 L63 (S63 q m v i) [true, false]) = (decide (Int.ofNat i < Int.ofNat m) && true && (decide (0 ≤ Int.ofNat i) && decide (Int.ofNat i < Int.ofNat m) && (decide (0 + (0 + i) * 1 < q.length) && true) && (!v == q.getD (0 + (0 + i) * 1) 0 && true) && (rng64 (Int.ofNat i.succ) && true))) from by kernel_rfl)]
  unfold at1 at h
  rw [h]
  simp [rng64]
  omega
theorem h63 {q : List Int} {m : Nat} {v : Int} {i : Nat} (hq : q.length = m * 1) (hm : m ≤ 1000000000) (hi : i < m) (h : (v == at1 q i) = true) : Exec PP T none x63.nt 0 L63 (S63 q m v i) .r (RI 4 i) := by
  refine exec_orun env0 false 60 [true, true] [] (fun _ => rfl) (by kernel_rfl) (by kernel_rfl) (by kernel_rfl) ?_
  rw [(show obOf (orun g0 false 60 L63 (S63 q m v i) [true, true]) = (decide (Int.ofNat i < Int.ofNat m) && true && (decide (0 ≤ Int.ofNat i) && decide (Int.ofNat i < Int.ofNat m) && (decide (0 + (0 + i) * 1 < q.length) && true) && (v == q.getD (0 + (0 + i) * 1) 0 && true))) from by kernel_rfl)]
  unfold at1 at h
  rw [h]
  simp
  omega
theorem z63 {q : List Int} {m : Nat} {v : Int}  : Exec PP T none x63.nt 0 L63 (S63 q m v m) (.x 0) (S63 q m v m) := by
  refine exec_orun env0 false 60 [false] [0] (fun _ => rfl) (by kernel_rfl) (by kernel_rfl) (by kernel_rfl) ?_
  rw [(show obOf (orun g0 false 60 L63 (S63 q m v m) [false]) = (!decide (Int.ofNat m < Int.ofNat m) && true) from by kernel_rfl)]
  first | rfl | (simp; done) | (simp; omega) | (simp [rng64]; done) | (simp [rng64]; omega)
theorem e63 {q : List Int} {m : Nat} {v : Int}  : Exec PP T none x63.nt 0 x63.body.b.b (S63 q m v m) .r (RI 4 (-1)) := by
  refine exec_orun env0 false 60 [] [] (fun _ => rfl) (by kernel_rfl) (by kernel_rfl) (by kernel_rfl) (by kernel_rfl)
def idxF (q : List Int) (m : Nat) (v : Int) : Int := bif Nat.blt (fstN (fun i => v == at1 q i) m) m then Int.ofNat (fstN (fun i => v == at1 q i) m) else -1
theorem body63 {q : List Int} {m : Nat} {v : Int} (hq : q.length = m * 1) (hm : m ≤ 1000000000) : Exec PP T none x63.nt 0 x63.body (startSt [.s (.sl 0 0 1 m), .s (.int .i64 v)] (V1 q)) .r (RI 4 (idxF q m v)) := by
  refine exec_seq (x := x63.body.a) (y := x63.body.b) a63 ?_
  unfold idxF
  rcases exec_loop_find (S63 q m v) (fun i => v == at1 q i) m (fun i hi h => l63 hq hm hi h) (fun i hi h => h63 hq hm hi h) (by simp) z63 (by simp) with ⟨h1, h2⟩ | ⟨h1, h2⟩
  · rw [show Nat.blt (fstN (fun i => v == at1 q i) m) m = true from blt_lt h1, cond_true]
    exact exec_seq_x (x := x63.body.b.a) (y := x63.body.b.b) (exec_seq (x := x63.body.b.a.a) (y := .block 0 (.loop L63)) b63 (exec_block (e := .r) h2)) (by simp)
  · rw [show Nat.blt (fstN (fun i => v == at1 q i) m) m = false by rw [h1]; exact blt_self m, cond_false]
    exact exec_seq (x := x63.body.b.a) (y := x63.body.b.b) (exec_seq (x := x63.body.b.a.a) (y := .block 0 (.loop L63)) b63 (exec_block (e := .x 0) h2)) e63
def vIdx : List PA → TV := fun pas => match pas with | [.sl _ q m, .int v] => I (idxF q m v) | _ => anyT
noncomputable abbrev spIdx : Spec := genS [.sl 1, .int] (fun _ => true) vIdx fun _ => []
theorem ok63 : SpecOK PP (compC T) 63 spIdx := ok_gen o63 (by kernel_rfl) fun pas hf hc => match pas, hf with
  | [.sl _ q m, .int v], ⟨⟨rfl, hq, hm⟩, _, _⟩ => ⟨_, 0, .r, body63 hq hm, fun _ => rfl, by kernel_rfl, by kernel_rfl, by kernel_rfl⟩
end Go.Proofs.Yteekkjfjpoaihaa.Eng
namespace Go.Proofs.Yteekkjfjpoaihaa.Eng
open Go Go.Proofs
abbrev V2 (q q' : List Int) : List HO := [⟨true, .xvec .i64 1 q⟩, ⟨true, .xvec .i64 1 q'⟩]
def neqAt (q q' : List Int) (i : Nat) : Bool := at1 q i != at1 q' i
def intsE (q : List Int) (m : Nat) (q' : List Int) (m' : Nat) : Bool := decide (m = m') && !(Nat.blt (fstN (neqAt q q') m) m)
abbrev SI (q q' : List Int) (m m' i : Nat) : St := mkSt [(0, s1S 0 m), (1, s1S 1 m'), (5, iS i)] (V2 q q') 2 []
def L24 : XC := x24.body.b.b.a.b.i.i
theorem a24 {q q' : List Int} {m m' : Nat}  : Exec PP T none x24.nt 0 x24.body.a (startSt [.s (.sl 0 0 1 m), .s (.sl 1 0 1 m')] (V2 q q')) .n (mkSt [(0, s1S 0 m), (1, s1S 1 m')] (V2 q q') 2 []) := by
  refine exec_orun env0 false 60 [] [0, 1] (fun _ => rfl) (by kernel_rfl) (by kernel_rfl) (by kernel_rfl) (by kernel_rfl)
theorem b24r {q q' : List Int} {m m' : Nat} (h : ¬ m = m') : Exec PP T none x24.nt 0 x24.body.b.a (mkSt [(0, s1S 0 m), (1, s1S 1 m')] (V2 q q') 2 []) .r (RB 4 false) := by
  refine exec_orun env0 false 60 [true] [] (fun _ => rfl) (by kernel_rfl) (by kernel_rfl) (by kernel_rfl) ?_
  rw [(show obOf (orun g0 false 60 x24.body.b.a (mkSt [(0, s1S 0 m), (1, s1S 1 m')] (V2 q q') 2 []) [true]) = (Int.ofNat m != Int.ofNat m' && true) from by kernel_rfl)]
  all_goals (first | rfl | (simp; done) | (simp; omega) | (simp [rng64]; done) | (simp [rng64]; omega) | (simp [rng64_eq]; omega))
theorem b24 {q q' : List Int} {m m' : Nat} (h : m = m') : Exec PP T none x24.nt 0 x24.body.b.a (mkSt [(0, s1S 0 m), (1, s1S 1 m')] (V2 q q') 2 []) .n (mkSt [(0, s1S 0 m), (1, s1S 1 m')] (V2 q q') 2 []) := by
  refine exec_orun env0 false 60 [false] [0, 1] (fun _ => rfl) (by kernel_rfl) (by kernel_rfl) (by kernel_rfl) ?_
  rw [(show obOf (orun g0 false 60 x24.body.b.a (mkSt [(0, s1S 0 m), (1, s1S 1 m')] (V2 q q') 2 []) [false]) = (!Int.ofNat m != Int.ofNat m' && true) from by kernel_rfl)]
  all_goals (first | rfl | (simp; done) | (simp; omega) | (simp [rng64]; done) | (simp [rng64]; omega) | (simp [rng64_eq]; omega))
theorem i24 {q q' : List Int} {m m' : Nat}  : Exec PP T none x24.nt 0 x24.body.b.b.a.a (mkSt [(0, s1S 0 m), (1, s1S 1 m')] (V2 q q') 2 []) .n (SI q q' m m' 0) := by
  refine exec_orun env0 false 60 [] [0, 1] (fun _ => rfl) (by kernel_rfl) (by kernel_rfl) (by kernel_rfl) (by kernel_rfl)
theorem l24 {q q' : List Int} {m m' i : Nat} (hq : q.length = m * 1) (hq' : q'.length = m' * 1) (hm : m ≤ 1000000000) (hi : i < m) (hi' : i < m') (h : neqAt q q' i = false) : Exec PP T none x24.nt 0 L24 (SI q q' m m' i) .n (SI q q' m m' (i + 1)) := by
  refine exec_orun env0 false 60 [true, false] [0, 1] (fun _ => rfl) (by kernel_rfl) (by kernel_rfl) (by kernel_rfl) ?_
  rw [(show obOf (orun g0 false 60 L24 (SI q q' m m' i) [true, false]) = (decide (Int.ofNat i < Int.ofNat m) && true && (decide (0 ≤ Int.ofNat i) && decide (Int.ofNat i < Int.ofNat m) && (decide (0 + (0 + i) * 1 < q.length) && (decide (0 ≤ Int.ofNat i) && decide (Int.ofNat i < Int.ofNat m') && (decide (0 + (0 + i) * 1 < q'.length) && true))) && true && (!q.getD (0 + (0 + i) * 1) 0 != q'.getD (0 + (0 + i) * 1) 0 && true) && (rng64 (Int.ofNat i.succ) && true))) from by kernel_rfl)]
  unfold neqAt at1 at h
  rw [h]
  simp [rng64]
  omega
theorem h24 {q q' : List Int} {m m' i : Nat} (hq : q.length = m * 1) (hq' : q'.length = m' * 1) (hm : m ≤ 1000000000) (hi : i < m) (hi' : i < m') (h : neqAt q q' i = true) : Exec PP T none x24.nt 0 L24 (SI q q' m m' i) .r (RB 4 false) := by
  refine exec_orun env0 false 60 [true, true] [] (fun _ => rfl) (by kernel_rfl) (by kernel_rfl) (by kernel_rfl) ?_
  rw [(show obOf (orun g0 false 60 L24 (SI q q' m m' i) [true, true]) = (decide (Int.ofNat i < Int.ofNat m) && true && (decide (0 ≤ Int.ofNat i) && decide (Int.ofNat i < Int.ofNat m) && (decide (0 + (0 + i) * 1 < q.length) && (decide (0 ≤ Int.ofNat i) && decide (Int.ofNat i < Int.ofNat m') && (decide (0 + (0 + i) * 1 < q'.length) && true))) && true && (q.getD (0 + (0 + i) * 1) 0 != q'.getD (0 + (0 + i) * 1) 0 && true))) from by kernel_rfl)]
  unfold neqAt at1 at h
  rw [h]
  simp
  omega
theorem z24 {q q' : List Int} {m m' : Nat}  : Exec PP T none x24.nt 0 L24 (SI q q' m m' m) (.x 0) (SI q q' m m' m) := by
  refine exec_orun env0 false 60 [false] [0, 1] (fun _ => rfl) (by kernel_rfl) (by kernel_rfl) (by kernel_rfl) ?_
  rw [(show obOf (orun g0 false 60 L24 (SI q q' m m' m) [false]) = (!decide (Int.ofNat m < Int.ofNat m) && true) from by kernel_rfl)]
  all_goals (first | rfl | (simp; done) | (simp; omega) | (simp [rng64]; done) | (simp [rng64]; omega) | (simp [rng64_eq]; omega))
theorem e24 {q q' : List Int} {m m' : Nat}  : Exec PP T none x24.nt 0 x24.body.b.b.b (SI q q' m m' m) .r (RB 4 true) := by
  refine exec_orun env0 false 60 [] [] (fun _ => rfl) (by kernel_rfl) (by kernel_rfl) (by kernel_rfl) (by kernel_rfl)
theorem body24 {q q' : List Int} {m m' : Nat} (hq : q.length = m * 1) (hq' : q'.length = m' * 1) (hm : m ≤ 1000000000) : Exec PP T none x24.nt 0 x24.body (startSt [.s (.sl 0 0 1 m), .s (.sl 1 0 1 m')] (V2 q q')) .r (RB 4 (intsE q m q' m')) := by
  refine exec_seq (x := x24.body.a) (y := x24.body.b) a24 ?_
  unfold intsE
  by_cases h : m = m'
  · subst h
    rw [decide_eq_true rfl, Bool.true_and]
    refine exec_seq (x := x24.body.b.a) (y := x24.body.b.b) (b24 rfl) ?_
    rcases exec_loop_find (SI q q' m m) (neqAt q q') m (fun i hi h => l24 hq hq' hm hi hi h) (fun i hi h => h24 hq hq' hm hi hi h) (by simp) z24 (by simp) with ⟨h1, h2⟩ | ⟨h1, h2⟩
    · rw [blt_lt h1]
      exact exec_seq_x (x := x24.body.b.b.a) (y := x24.body.b.b.b) (exec_seq (x := x24.body.b.b.a.a) (y := .block 0 (.loop L24)) i24 (exec_block (e := .r) h2)) (by simp)
    · rw [show Nat.blt (fstN (neqAt q q') m) m = false by rw [h1]; exact blt_self m]
      exact exec_seq (x := x24.body.b.b.a) (y := x24.body.b.b.b) (exec_seq (x := x24.body.b.b.a.a) (y := .block 0 (.loop L24)) i24 (exec_block (e := .x 0) h2)) e24
  · rw [decide_eq_false h, Bool.false_and]
    exact exec_seq_x (x := x24.body.b.a) (y := x24.body.b.b) (b24r h) (by simp)
def vInts : List PA → TV := fun pas => match pas with | [.sl _ q m, .sl _ q' m'] => B (intsE q m q' m') | _ => anyT
noncomputable abbrev spInts : Spec := genS [.sl 1, .sl 1] (fun _ => true) vInts fun _ => []
theorem ok24 : SpecOK PP (compC T) 24 spInts := ok_gen o24 (by kernel_rfl) fun pas hf hc => match pas, hf with
  | [.sl _ q m, .sl _ q' m'], ⟨⟨rfl, hq, hm⟩, ⟨rfl, hq', hm'⟩, _⟩ => ⟨_, 0, .r, body24 hq hq' hm, fun _ => rfl, by kernel_rfl, by kernel_rfl, by kernel_rfl⟩
def joinF (q : List Int) (m : Nat) (a b : Int) : Bool := hasP q m (min a b) (max a b)
theorem take_all2 {q : List Int} {m : Nat} (hq : q.length = m * 2) : (q.drop (0 * 2)).take (m * 2) = q := by simp [← hq]
theorem take_all1 {q : List Int} {m : Nat} (hq : q.length = m * 1) : (q.drop (0 * 1)).take (m * 1) = q := by simp [← hq]
def forF (q : List Int) (m : Nat) (a b c d : Int) : Bool := bif a == c && b == d then true else bif a == c then !(joinF q m b d) else b == d && !(joinF q m a c)
end Go.Proofs.Yteekkjfjpoaihaa.Eng
namespace Go.Proofs.Yteekkjfjpoaihaa.Eng
open Go Go.Proofs
theorem take2 {q : List Int} {m : Nat} (hq : q.length = m * 2) : q.take (m * 2) = q := by simp [← hq]
end Go.Proofs.Yteekkjfjpoaihaa.Eng
namespace Go.Proofs.Yteekkjfjpoaihaa.Eng
open Go Go.Proofs
/-- the two numbers of a pair, as the runs name them -/
def ra (q : List Int) (i : Nat) : Int := q.getD (0 + ((0 + i) * 2 + 0)) 0
def rb (q : List Int) (i : Nat) : Int := q.getD (0 + ((0 + i) * 2 + 1)) 0
def OkO (n : Nat) (b : Int) (o : List Int) : Prop := o.length = n ∧ ∀ x ∈ o, 0 ≤ x ∧ x ≤ b
theorem OkO.at {n : Nat} {b : Int} {o : List Int} (h : OkO n b o) (hb : 0 ≤ b) (i : Nat) : 0 ≤ at1 o i ∧ at1 o i ≤ b := by
  rw [at1_eq, List.getD_eq_getElem?_getD]
  cases hi : o[i]? with
  | none => simpa using hb
  | some x => exact h.2 x (List.mem_of_getElem? hi)
end Go.Proofs.Yteekkjfjpoaihaa.Eng
namespace Go.Proofs.Yteekkjfjpoaihaa.Eng
open Go Go.Proofs
theorem ra_f (q : List Int) (i : Nat) : q.getD (0 + (0 + i) * 2 + 0) 0 = ra q i := rfl
theorem rb_f (q : List Int) (i : Nat) : q.getD ((0 + (0 + i) * 2).add 0).succ 0 = rb q i := rfl
end Go.Proofs.Yteekkjfjpoaihaa.Eng
namespace Go.Proofs.Yteekkjfjpoaihaa.Eng
open Go Go.Proofs
/-- what is reached, each with its number of steps -/
abbrev SL := List ((Nat × Nat) × Nat)
def knwN (L : SL) (p : Nat × Nat) : Bool := L.any fun z => p == z.1
def stpN (L : SL) (p : Nat × Nat) : Nat := match L.find? (fun z => p == z.1) with | some z => z.2 | none => 0
def keysL (L : SL) : List (Nat × Nat) := L.map fun z => z.1
def fcN (q : List Int) (m : Nat) (z y : Nat × Nat) : Bool := forF q m (Int.ofNat z.1) (Int.ofNat z.2) (Int.ofNat y.1) (Int.ofNat y.2)
def cstep (q : List Int) (m : Nat) (A : List (Nat × Nat)) (L : SL) (i k : Nat) : SL :=
  bif !(knwN L (A.getD k (0, 0))) && fcN q m ((keysL L).getD i (0, 0)) (A.getD k (0, 0)) then L ++ [(A.getD k (0, 0), stpN L ((keysL L).getD i (0, 0)) + 1)] else L
def crow (q : List Int) (m : Nat) (A : List (Nat × Nat)) (L : SL) (i : Nat) : Nat → SL
  | 0 => L
  | k + 1 => cstep q m A (crow q m A L i k) i k
structure CI (L : SL) : Prop where
  nd : (keysL L).Nodup
  rng : ∀ p ∈ keysL L, p.1 < 7 ∧ p.2 < 7
  st : ∀ z ∈ L, z.2 ≤ L.length
theorem stpN_le {L : SL} (h : CI L) (p : Nat × Nat) : stpN L p ≤ L.length := by
  unfold stpN
  cases hf : L.find? fun z => p == z.1 with
  | none => simp
  | some z => exact h.st z (List.mem_of_find?_eq_some hf)
theorem CI.step {q : List Int} {m : Nat} {A : List (Nat × Nat)} (hA : ∀ p ∈ A, p.1 < 7 ∧ p.2 < 7) {L : SL} (h : CI L) {i k : Nat} (hk : k < A.length) : CI (cstep q m A L i k) := by
  unfold cstep
  cases hc : (!(knwN L (A.getD k (0, 0))) && fcN q m ((keysL L).getD i (0, 0)) (A.getD k (0, 0))) with
  | false => exact h
  | true =>
    rw [cond_true]
    simp only [Bool.and_eq_true, Bool.not_eq_true'] at hc
    have hn : A.getD k (0, 0) ∉ keysL L := fun hm => by
      obtain ⟨z, hz, e⟩ := List.mem_map.1 hm
      have : knwN L (A.getD k (0, 0)) = true := List.any_eq_true.2 ⟨z, hz, by rw [e]; simp⟩
      rw [hc.1] at this
      cases this
    refine ⟨?_, fun p hp => ?_, fun z hz => ?_⟩
    · rw [show keysL (L ++ [(A.getD k (0, 0), stpN L ((keysL L).getD i (0, 0)) + 1)]) = keysL L ++ [A.getD k (0, 0)] by simp [keysL]]
      rw [List.nodup_append]
      refine ⟨h.nd, by simp, fun a ha b hb => ?_⟩
      rw [List.mem_singleton] at hb
      subst hb
      exact fun e => hn (e ▸ ha)
    · rw [show keysL (L ++ [(A.getD k (0, 0), stpN L ((keysL L).getD i (0, 0)) + 1)]) = keysL L ++ [A.getD k (0, 0)] by simp [keysL]] at hp
      rcases List.mem_append.1 hp with hp | hp
      · exact h.rng p hp
      · rw [List.mem_singleton] at hp
        subst hp
        exact hA _ (by simp [hk])
    · rw [List.length_append]
      rcases List.mem_append.1 hz with hz | hz
      · have := h.st z hz
        simp
        omega
      · rw [List.mem_singleton] at hz
        subst hz
        have := stpN_le h ((keysL L).getD i (0, 0))
        show stpN L ((keysL L).getD i (0, 0)) + 1 ≤ L.length + 1
        omega
theorem CI.row {q : List Int} {m : Nat} {A : List (Nat × Nat)} (hA : ∀ p ∈ A, p.1 < 7 ∧ p.2 < 7) {L : SL} (h : CI L) {i : Nat} : ∀ k, k ≤ A.length → CI (crow q m A L i k)
  | 0, _ => h
  | k + 1, hk => (CI.row hA h k (by omega)).step hA (by omega)
end Go.Proofs.Yteekkjfjpoaihaa.Eng
namespace Go.Proofs.Yteekkjfjpoaihaa.Eng
open Go Go.Proofs
theorem CI.start {x : Nat × Nat} (h1 : x.1 < 7) (h2 : x.2 < 7) : CI [(x, 0)] where
  nd := by simp [keysL]
  rng := fun p hp => by
    simp [keysL] at hp
    subst hp
    exact ⟨h1, h2⟩
  st := fun z hz => by
    rw [List.mem_singleton] at hz
    subst hz
    simp
end Go.Proofs.Yteekkjfjpoaihaa.Eng
namespace Go.Proofs.Yteekkjfjpoaihaa.Eng
open Go Go.Proofs
def roH (h : HO) : HO := ⟨true, h.o⟩
theorem spec_ro {f : FuncId} {x : XFn} (hx : FunOK PP T f x) {A : List AV} {hs : List HO} {B : Nat} {ts : List (Nat × Slot)} {ex : XE} {nx : Nat} {tv : TV}
    (hcl : hs.all (fun h => h.o.ids.all fun j => Nat.blt j hs.length) = true) (hai : (A.flatMap AV.ids).all (fun j => Nat.blt j hs.length) = true) (hlen : Nat.ble A.length x.nt = true)
    (hrun : Exec PP T none x.nt hs.length x.body (mkSt (slotsOf A) (hs.map roH) B []) ex (mkSt ts (hs.map roH) nx [])) (hex : ex ≠ .n → ex = .r) (hres : resV (mkSt ts (hs.map roH) nx []).sl.get (mkSt ts (hs.map roH) nx []).hp.get x.res = some (true, tv)) (hids : tv.ids = []) :
    SpecOK PP (compC T) f (spAt A (mkSt [] hs B []).hp.get B tv [] []) := by
  have hidx : ∀ (j : Nat) (o : HO), (hs.map roH)[j]? = some o → ∃ h, hs[j]? = some h ∧ o = roH h := fun j o hj => by
    rw [List.getElem?_map] at hj
    cases hh : hs[j]? with
    | none => rw [hh] at hj; cases hj
    | some h => rw [hh] at hj; cases hj; exact ⟨h, rfl, rfl⟩
  have hsome : ∀ j, j < hs.length → ((mkSt (slotsOf A) (hs.map roH) B []).hp.get j).isSome = true := fun j hj => by
    rw [mkSt_hp]
    simp
    omega
  have hclo : ∀ (j : Nat) (o : HO), (hs.map roH)[j]? = some o → ∀ i ∈ o.o.ids, i < hs.length := fun j o hj i hi => by
    obtain ⟨h, h1, rfl⟩ := hidx j o hj
    exact Nat.le_of_ble_eq_true (List.all_eq_true.1 (List.all_eq_true.1 hcl h (List.mem_of_getElem? h1)) i hi)
  have hA : AtOK (mkSt [] hs B []).hp.get (mkSt (slotsOf A) (hs.map roH) B []).hp hs.length B [] [] (hs.map roH) := {
    start := fun j o hj => by
      rw [mkSt_hp] at hj
      rw [mkSt_hp]
      obtain ⟨h, h1, rfl⟩ := hidx j o hj
      exact ⟨h, h1, rfl, fun hro => by cases hro⟩
    keep := hsome
    len := by simp
    new := rfl
    news_eq := by rw [List.drop_eq_nil_of_le (by simp)]; rfl
    upd_eq := fun u hu => by cases hu
    ids := fun j o hj i hi => by
      rw [List.length_map]
      exact hclo j o hj i hi }
  obtain ⟨_, fn, hf, hxf⟩ := hx
  intro ctx m h w args vals base e hH hargs hfr hup hr hvc
  simp only [spAt, Option.some.injEq] at hr
  subst hr
  obtain ⟨rfl, rfl, rfl⟩ := atB_of hvc
  refine callsIn_exec (kp := hs.length) (S := mkSt (slotsOf args) (hs.map roH) base []) (tv := tv) tokP hf hxf (Nat.le_of_ble_eq_true hlen) (fun t s hs' => by
    have := (alGet_slots args 0 t s hs').2
    simpa using this) rfl hrun (by by_cases h : ex = .n; exact .inl h; exact .inr (hex h)) rfl hres (hrel_part hH (fun j o hj i hi => hsome i (hclo j o (by rw [mkSt_hp] at hj; exact hj) i hi)) hA.start) (All2.sub hargs fun j hj => if_pos (hsome j (Nat.le_of_ble_eq_true (List.all_eq_true.1 hai j hj)))) fun v w' m1 hk hv hH1 => ?_
  have e1 : leaveH (mkSt ts (hs.map roH) nx []).hp.get (mkSt ts (hs.map roH) nx []).df = fun j => (hs.map roH)[j]? := by
    funext j
    show (mkSt ts (hs.map roH) nx []).hp.get j = _
    rw [mkSt_hp]
  rw [e1] at hH1
  have hv' : TR (subM m m1 (fun k => hs.length + k) base 0) tv v := by
    have := TR.ren (m' := subM m m1 (fun k => hs.length + k) base 0) (ρ := fun j => j) hv (fun j hj => by rw [hids] at hj; cases hj)
    rw [TV.ren_id (fun j hj => rfl)] at this
    exact this
  exact ⟨v, _, rfl, hv', hA.stp hH hfr (fun id mb hid hm => hk id mb hid (by simp [hA.keep id hid, hm])) hH1⟩
end Go.Proofs.Yteekkjfjpoaihaa.Eng
namespace Go.Proofs.Yteekkjfjpoaihaa.Ori
/-- an arrow forces another one -/
def Gam (E : Nat → Nat → Prop) (x y : Nat × Nat) : Prop := (x.1 = y.1 ∧ ¬ E x.2 y.2) ∨ (x.2 = y.2 ∧ ¬ E x.1 y.1)
/-- what is reached from an arrow -/
inductive Cls (E : Nat → Nat → Prop) (x : Nat × Nat) : Nat × Nat → Prop
  | refl : Cls E x x
  | step {y z : Nat × Nat} : Cls E x y → Gam E y z → E z.1 z.2 → Cls E x z
structure Graph (E : Nat → Nat → Prop) : Prop where
  sym : ∀ {a b}, E a b → E b a
  irr : ∀ a, ¬ E a a
section
variable {E : Nat → Nat → Prop}
theorem Cls.mem {x y : Nat × Nat} (h : Cls E x y) (hx : E x.1 x.2) : E y.1 y.2 := by
  cases h with
  | refl => exact hx
  | step _ _ h => exact h
theorem Gam.symm (hG : Graph E) {x y : Nat × Nat} (h : Gam E x y) : Gam E y x := by
  rcases h with ⟨h1, h2⟩ | ⟨h1, h2⟩
  · exact .inl ⟨h1.symm, fun h => h2 (hG.sym h)⟩
  · exact .inr ⟨h1.symm, fun h => h2 (hG.sym h)⟩
theorem Cls.trans {x y z : Nat × Nat} (h : Cls E x y) (k : Cls E y z) : Cls E x z := by
  induction k with
  | refl => exact h
  | step _ g e ih => exact .step ih g e
theorem Cls.symm (hG : Graph E) {x y : Nat × Nat} (hx : E x.1 x.2) (h : Cls E x y) : Cls E y x := by
  induction h with
  | refl => exact .refl
  | step h g _ ih => exact (Cls.step .refl (g.symm hG) (h.mem hx)).trans ih
variable {b c : Nat}
end
end Go.Proofs.Yteekkjfjpoaihaa.Ori
namespace Go.Proofs.Yteekkjfjpoaihaa.Eng
open Go Go.Proofs
open Go.Proofs.Yteekkjfjpoaihaa.Ori
/-- a graph as the program keeps it -/
structure GOK (n : Nat) (f : Nat → Bool) : Prop where
  sym : ∀ {x y}, x < n → y < n → at7 f x y = true → at7 f y x = true
  irr : ∀ {x}, x < n → at7 f x x = false
def Ed (n : Nat) (f : Nat → Bool) (x y : Nat) : Prop := x < n ∧ y < n ∧ at7 f x y = true
end Go.Proofs.Yteekkjfjpoaihaa.Eng
namespace Go.Proofs.Yteekkjfjpoaihaa.Eng
open Go Go.Proofs
open Go.Proofs.Yteekkjfjpoaihaa.Ori
def Rl (o : Nat → Bool) (x y : Nat) : Prop := x < 7 ∧ y < 7 ∧ at7 o x y = true
theorem transB_iff {f : Nat → Bool} : transB f = true ↔ ∀ a b, a < 7 → b < 7 → at7 f a b = true → at7 f b a = false ∧ ∀ c, c < 7 → at7 f b c = true → at7 f a c = true := by
  unfold transB
  rw [Bool.not_eq_true', List.any_eq_false]
  constructor
  · intro h a b ha hb hab
    have h1 := h a (List.mem_range.2 ha)
    rw [Bool.not_eq_true, List.any_eq_false] at h1
    have h2 := h1 b (List.mem_range.2 hb)
    unfold bb51 at h2
    rw [hab, Bool.true_and, Bool.not_eq_true, Bool.or_eq_false_iff, List.any_eq_false] at h2
    refine ⟨h2.1, fun c hc hbc => ?_⟩
    have h3 := h2.2 c (List.mem_range.2 hc)
    unfold bc51 at h3
    rw [hbc] at h3
    simpa using h3
  · intro h a ha
    rw [Bool.not_eq_true, List.any_eq_false]
    intro b hb
    have ha := List.mem_range.1 ha
    have hb := List.mem_range.1 hb
    unfold bb51
    cases hab : at7 f a b with
    | false => simp
    | true =>
      obtain ⟨h1, h2⟩ := h a b ha hb hab
      rw [h1, Bool.true_and, Bool.false_or, Bool.not_eq_true, List.any_eq_false]
      intro c hc
      unfold bc51
      cases hbc : at7 f b c with
      | false => simp
      | true => rw [h2 c (List.mem_range.1 hc) hbc]; simp
section
variable {n : Nat} {f : Nat → Bool}
/-- what orient has in hand, before it fails -/
structure OInv (n : Nat) (f : Nat → Bool) (s : (Nat → Bool) × (Nat → Bool)) : Prop where
  gok : GOK n s.2
  sub : ∀ {x y}, Ed n s.2 x y → Ed n f x y
  osub : ∀ {x y}, Rl s.1 x y → Ed n f x y
  dis : ∀ {x y}, Rl s.1 x y → ¬ Ed n s.2 x y ∧ ¬ Ed n s.2 y x
  all : ∀ {x y}, Ed n f x y → Ed n s.2 x y ∨ Rl s.1 x y ∨ Rl s.1 y x
theorem OInv.zero (hf : GOK n f) : OInv n f (ff, f) where
  gok := hf
  sub := id
  osub := fun h => by have := h.2.2; cases this
  dis := fun h => by have := h.2.2; cases this
  all := .inl
end
end Go.Proofs.Yteekkjfjpoaihaa.Eng
namespace Go.Proofs.Yteekkjfjpoaihaa.Eng
open Go Go.Proofs
def hB (f : Nat → Bool) (g : Nat → Nat) (i : Nat) : Nat → Nat
  | 0 => 0
  | c + 1 => bif at7 f c i then max (hB f g i c) (g c + 1) else hB f g i c
def hgt (f : Nat → Bool) (n : Nat) : Nat → Nat → Nat
  | 0, _ => 0
  | k + 1, i => hB f (hgt f n k) i n
def cntB (p : Nat → Bool) : Nat → Nat
  | 0 => 0
  | n + 1 => cntB p n + bif p n then 1 else 0
theorem cntB_le (p : Nat → Bool) : ∀ n, cntB p n ≤ n
  | 0 => Nat.le_refl _
  | n + 1 => by
    have := cntB_le p n
    unfold cntB
    cases p n <;> simp <;> omega
theorem cntB_mono {p q : Nat → Bool} : ∀ {n : Nat}, (∀ x, x < n → p x = true → q x = true) → cntB p n ≤ cntB q n
  | 0, _ => Nat.le_refl _
  | n + 1, h => by
    have h1 := cntB_mono (p := p) (q := q) (n := n) fun x hx => h x (by omega)
    have h2 := h n (by omega)
    unfold cntB
    cases hp : p n with
    | false => cases q n <;> simp <;> omega
    | true => rw [h2 hp]; simp; omega
theorem cntB_lt {p q : Nat → Bool} : ∀ {n : Nat}, (∀ x, x < n → p x = true → q x = true) → (∃ x, x < n ∧ p x = false ∧ q x = true) → cntB p n < cntB q n
  | 0, _, ⟨x, hx, _⟩ => absurd hx (by omega)
  | n + 1, h, ⟨x, hx, hp, hq⟩ => by
    unfold cntB
    by_cases hxn : x = n
    · subst hxn
      have h1 := cntB_mono (p := p) (q := q) (n := x) fun y hy => h y (by omega)
      rw [hp, hq]
      simp
      omega
    · have h1 := cntB_lt (p := p) (q := q) (n := n) (fun y hy => h y (by omega)) ⟨x, by omega, hp, hq⟩
      have h2 := h n (by omega)
      cases hpn : p n with
      | false => cases q n <;> simp <;> omega
      | true => rw [h2 hpn]; simp; omega
/-- how many nodes are below one -/
def prc (f : Nat → Bool) (n i : Nat) : Nat := cntB (fun c => at7 f c i) n
theorem prc_lt {f : Nat → Bool} {n c i : Nat} (ht : transB f = true) (hn : n ≤ 7) (hc : c < n) (hi : i < n) (h : at7 f c i = true) : prc f n c < prc f n i := by
  have key : ∀ a b, a < 7 → b < 7 → at7 f a b = true → at7 f b a = false ∧ ∀ c, c < 7 → at7 f b c = true → at7 f a c = true := by
    exact transB_iff.1 ht
  refine cntB_lt (fun x hx hp => (key x c (by omega) (by omega) hp).2 i (by omega) h) ⟨c, hc, ?_, h⟩
  cases hcc : at7 f c c with
  | false => rfl
  | true =>
    have := (key c c (by omega) (by omega) hcc).1
    rw [hcc] at this
    cases this
theorem hB_le {f : Nat → Bool} {g : Nat → Nat} {i b : Nat} : ∀ n, (∀ c, c < n → at7 f c i = true → g c + 1 ≤ b) → hB f g i n ≤ b
  | 0, _ => by simp [hB]
  | c + 1, h => by
    have h1 := hB_le (f := f) (g := g) (i := i) (b := b) c fun x hx => h x (by omega)
    unfold hB
    cases hc : at7 f c i with
    | false => simpa using h1
    | true =>
      have := h c (by omega) hc
      simp
      omega
theorem hgt_le (f : Nat → Bool) (n : Nat) : ∀ k i, hgt f n k i ≤ k
  | 0, i => Nat.le_refl _
  | k + 1, i => hB_le n fun c hc _ => by
    have := hgt_le f n k c
    omega
abbrev HL (ro : Bool) (n : Nat) (f : Nat → Bool) (q : List Int) : List HO := [⟨ro, .row 70 [] 49 f⟩, ⟨ro, .row 3 [.int .i64 (Int.ofNat n)] 0 ff⟩, ⟨ro, .ivec 3 .i64 1 q⟩, ⟨ro, .row 131 [.fn 95 [1, 0, 3]] 0 ff⟩]
abbrev AL (i : Nat) : List AV := [.s (.int .i64 (Int.ofNat i)), .s (.ptr 1 0 0), .s (.ptr 0 0 0), .s (.ptr 3 0 0)]
noncomputable abbrev spO (ro : Bool) (n : Nat) (f : Nat → Bool) (q : List Int) (i v : Nat) : Spec := spAt (AL i) (mkSt [] (HL ro n f q) 4 []).hp.get 4 (I (Int.ofNat v)) [] []
abbrev sl95 (i : Nat) : List (Nat × Slot) := [(0, iS i), (1, g1S 1), (2, g1S 0), (3, g1S 3)]
def L95 : XC := x95.body.b.b.a.b.i.i
abbrev S95 (n : Nat) (f : Nat → Bool) (q : List Int) (i : Nat) (e : Int) (c : Nat) : St := mkSt (sl95 i ++ [(6, iS e), (8, iS n), (9, iS c)]) (HL true n f q) 4 []
abbrev id4 : List Nat := [0, 1, 2, 3]
def L9s (s : Spec) : List (Nat × Spec) := [(95, s)]
theorem L9s_ok {s : Spec} (h : SpecOK PP (compC T) 95 s) (hfp : SpecFp s) : SpecsL (L9s s) := specsL_cons h hfp o95 (fun p hp => absurd hp (by simp))
noncomputable abbrev g9s (s : Spec) : Cal → Option Spec := specsΓ (L9s s)
theorem env9s {s : Spec} (h : SpecOK PP (compC T) 95 s) (hfp : SpecFp s) : EnvOK PP T (g9s s) := envL (L9s_ok h hfp)
theorem a95 {n : Nat} {f : Nat → Bool} {q : List Int} {i : Nat}  : Exec PP T none x95.nt 4 x95.body.a (mkSt (sl95 i) (HL true n f q) 4 []) .n (mkSt (sl95 i) (HL true n f q) 4 []) := by
  refine exec_orunG env0 false 60 [] id4 (fun _ => rfl) (by kernel_rfl) (by kernel_rfl) (by kernel_rfl) (by kernel_rfl)
theorem b95 {n : Nat} {f : Nat → Bool} {q : List Int} {i : Nat}  : Exec PP T none x95.nt 4 x95.body.b.a (mkSt (sl95 i) (HL true n f q) 4 []) .n (mkSt (sl95 i ++ [(6, iS 0)]) (HL true n f q) 4 []) := by
  refine exec_orunG env0 false 60 [] id4 (fun _ => rfl) (by kernel_rfl) (by kernel_rfl) (by kernel_rfl) (by kernel_rfl)
theorem cc95 {n : Nat} {f : Nat → Bool} {q : List Int} {i : Nat}  : Exec PP T none x95.nt 4 x95.body.b.b.a.a (mkSt (sl95 i ++ [(6, iS 0)]) (HL true n f q) 4 []) .n (S95 n f q i 0 0) := by
  refine exec_orunG env0 false 60 [] id4 (fun _ => rfl) (by kernel_rfl) (by kernel_rfl) (by kernel_rfl) (by kernel_rfl)
theorem l95f {n : Nat} {f : Nat → Bool} {q : List Int} {i : Nat} {e : Int} {c : Nat} (hn : n ≤ 7) (hi : i < n) (hc : c < n) (h : at7 f c i = false) : Exec PP T none x95.nt 4 L95 (S95 n f q i e c) .n (S95 n f q i e (c + 1)) := by
  refine exec_orunG env0 false 60 [true, false] id4 (fun _ => rfl) (by kernel_rfl) (by kernel_rfl) (by kernel_rfl) ?_
  rw [(show obOf (orun g0 false 60 L95 (S95 n f q i e c) [true, false]) = (decide (Int.ofNat c < Int.ofNat n) && true && (decide (0 ≤ Int.ofNat c) && decide (Int.ofNat c < 7) && (decide (0 ≤ Int.ofNat i) && decide (Int.ofNat i < 7) && (decide (0 + (0 + c * 7 + i * 1) < 49) && true)) && (!f (0 + (0 + c * 7 + i * 1)) && true) && (rng64 (Int.ofNat c.succ) && true))) from by kernel_rfl)]
  simp only [at7_raw, h]
  simp [rng64]
  omega
theorem l95t {n : Nat} {f : Nat → Bool} {q : List Int} {i : Nat} {e : Int} {c v : Nat} (hs : SpecOK PP (compC T) 95 (spO true n f q c v)) (hn : n ≤ 7) (hi : i < n) (hc : c < n) (hv : v < 100) (h : at7 f c i = true) : Exec PP T none x95.nt 4 L95 (S95 n f q i e c) .n (S95 n f q i (max e (Int.ofNat v + 1)) (c + 1)) := by
  refine exec_orunG (env9s hs spAt_fp) false 60 [true, true] id4 (fun _ => rfl) (by kernel_rfl) (by kernel_rfl) (by kernel_rfl) ?_
  rw [(show obOf (orun (g9s (spO true n f q c v)) false 60 L95 (S95 n f q i e c) [true, true]) = (decide (Int.ofNat c < Int.ofNat n) && true && (decide (0 ≤ Int.ofNat c) && decide (Int.ofNat c < 7) && (decide (0 ≤ Int.ofNat i) && decide (Int.ofNat i < 7) && (decide (0 + (0 + c * 7 + i * 1) < 49) && true)) && (f (0 + (0 + c * 7 + i * 1)) && (atB (AL c) (AL c) (mkSt [] (HL true n f q) 4 []).hp.get (mkSt [] (HL true n f q) 4 []).hp.get 4 4 && (rng64 (Int.ofNat v.succ) && true))) && (rng64 (Int.ofNat c.succ) && true))) from by kernel_rfl)]
  simp only [at7_raw, h]
  simp [rng64]
  omega
theorem z95 {n : Nat} {f : Nat → Bool} {q : List Int} {i : Nat} {e : Int}  : Exec PP T none x95.nt 4 L95 (S95 n f q i e n) (.x 0) (S95 n f q i e n) := by
  refine exec_orunG env0 false 60 [false] id4 (fun _ => rfl) (by kernel_rfl) (by kernel_rfl) (by kernel_rfl) ?_
  rw [(show obOf (orun g0 false 60 L95 (S95 n f q i e n) [false]) = (!decide (Int.ofNat n < Int.ofNat n) && true) from by kernel_rfl)]
  all_goals (first | rfl | (simp; done) | (simp; omega) | (simp [rng64]; done) | (simp [rng64]; omega) | (simp [rng64_eq]; omega))
theorem d95 {n : Nat} {f : Nat → Bool} {q : List Int} {i : Nat} {e : Int}  : Exec PP T none x95.nt 4 x95.body.b.b.b (S95 n f q i e n) .r (mkSt [(5, iS e)] (HL true n f q) 4 []) := by
  refine exec_orunG env0 false 60 [] id4 (fun _ => rfl) (by kernel_rfl) (by kernel_rfl) (by kernel_rfl) (by kernel_rfl)
theorem body95 {n : Nat} {f : Nat → Bool} {q : List Int} {i : Nat} {g : Nat → Nat} (hn : n ≤ 7) (hi : i < n) (hg : ∀ c, g c < 100) (hs : ∀ c, c < n → at7 f c i = true → SpecOK PP (compC T) 95 (spO true n f q c (g c))) :
    Exec PP T none x95.nt 4 x95.body (mkSt (sl95 i) (HL true n f q) 4 []) .r (mkSt [(5, iS (hB f g i n))] (HL true n f q) 4 []) := by
  refine exec_seq (x := x95.body.a) (y := x95.body.b) a95 (exec_seq (x := x95.body.b.a) (y := x95.body.b.b) b95 (exec_seq (x := x95.body.b.b.a) (y := x95.body.b.b.b) (exec_seq (x := x95.body.b.b.a.a) (y := .block 0 (.loop L95)) cc95 (exec_block (e := .x 0) (S1 := S95 n f q i (hB f g i n) n) ?_)) d95))
  exact exec_loop_up (fun c => S95 n f q i (hB f g i c) c) n (fun c hc => by
    cases h : at7 f c i with
    | false =>
      have : hB f g i (c + 1) = hB f g i c := by show (bif at7 f c i then _ else _) = _; rw [h]; rfl
      simp only [this]
      exact l95f hn hi hc h
    | true =>
      have : ((hB f g i (c + 1) : Nat) : Int) = max ((hB f g i c : Nat) : Int) (Int.ofNat (g c) + 1) := by
        show (((bif at7 f c i then max (hB f g i c) (g c + 1) else hB f g i c) : Nat) : Int) = _
        rw [h, cond_true]
        simp
        omega
      simp only [this]
      exact l95t (hs c hc h) hn hi hc (hg c) h) z95 (by simp) 0 (by omega)
theorem ok95 {n : Nat} {f : Nat → Bool} {q : List Int} (ht : transB f = true) (hn : n ≤ 7) : ∀ (k : Nat) (ro : Bool) (i : Nat), k ≤ 50 → i < n → prc f n i < k → SpecOK PP (compC T) 95 (spO ro n f q i (hgt f n k i))
  | 0, ro, i, _, hi, hk => absurd hk (by omega)
  | k + 1, ro, i, h50, hi, hk => by
    have := body95 (f := f) (q := q) (g := hgt f n k) hn hi (fun c => by
      have := hgt_le f n k c
      omega) (fun c hc h => ok95 ht hn k true c (by omega) hc (by
      have := prc_lt ht hn hc hi h
      omega))
    exact spec_ro o95 (hs := HL ro n f q) (A := AL i) (by kernel_rfl) (by kernel_rfl) (by kernel_rfl) this (fun _ => rfl) (by kernel_rfl) rfl
def L62 : XC := x62.body.b.b.b.b.a.b.i.i
abbrev S62 (n : Nat) (f : Nat → Bool) (q : List Int) (i : Nat) : St := mkSt [(5, s1S 2 n), (6, g1S 3), (11, iS n), (12, iS i)] (HL false n f q) 4 []
def lqF (f : Nat → Bool) (n : Nat) : Nat → List Int
  | 0 => List.replicate n 0
  | i + 1 => (lqF f n i).set (0 + (0 + i) * 1) (Int.ofNat (hgt f n 8 i))
theorem lqF_len (f : Nat → Bool) (n : Nat) : ∀ i, (lqF f n i).length = n
  | 0 => by simp [lqF]
  | i + 1 => by simp [lqF, lqF_len f n i]
theorem lqF_at (f : Nat → Bool) (n : Nat) : ∀ i j, j < i → j < n → (lqF f n i).getD j 0 = Int.ofNat (hgt f n 8 j)
  | 0, j, h, _ => absurd h (by omega)
  | i + 1, j, h, hj => by
    show ((lqF f n i).set (0 + (0 + i) * 1) (Int.ofNat (hgt f n 8 i))).getD j 0 = _
    rw [show 0 + (0 + i) * 1 = i by omega, List.getD_eq_getElem?_getD, List.getElem?_set]
    by_cases e : i = j
    · subst e
      simp [lqF_len, hj]
    · rw [if_neg e, ← List.getD_eq_getElem?_getD]
      exact lqF_at f n i j (by omega) hj
theorem a62 {n : Nat} {f : Nat → Bool}  : Exec PP T none x62.nt 0 x62.body.a (startSt [.pb [] 49 f, .s (.int .i64 (Int.ofNat n))] []) .n (mkSt [(2, g1S 0), (3, g1S 1)] [⟨false, .row 70 [] 49 f⟩, ⟨false, .row 3 [.int .i64 (Int.ofNat n)] 0 ff⟩] 2 []) := by
  refine exec_orun env0 false 60 [] [0, 1] (fun _ => rfl) (by kernel_rfl) (by kernel_rfl) (by kernel_rfl) (by kernel_rfl)
theorem b62 {n : Nat} {f : Nat → Bool} (hn : n ≤ 7) : Exec PP T none x62.nt 0 x62.body.b.a (mkSt [(2, g1S 0), (3, g1S 1)] [⟨false, .row 70 [] 49 f⟩, ⟨false, .row 3 [.int .i64 (Int.ofNat n)] 0 ff⟩] 2 []) .n (mkSt [(2, g1S 0), (3, g1S 1), (5, s1S 2 n)] [⟨false, .row 70 [] 49 f⟩, ⟨false, .row 3 [.int .i64 (Int.ofNat n)] 0 ff⟩, ⟨false, .ivec 3 .i64 1 (List.replicate n 0)⟩] 3 []) := by
  refine exec_orun env0 false 60 [] [0, 1, 2] (fun _ => rfl) (by kernel_rfl) (by kernel_rfl) (by kernel_rfl) ?_
  rw [(show obOf (orun g0 false 60 x62.body.b.a (mkSt [(2, g1S 0), (3, g1S 1)] [⟨false, .row 70 [] 49 f⟩, ⟨false, .row 3 [.int .i64 (Int.ofNat n)] 0 ff⟩] 2 []) []) = (decide (0 ≤ Int.ofNat n) && decide (n ≤ 1000000000) && true && true && true) from by kernel_rfl)]
  simp [bndL]
  omega
theorem cc62 {n : Nat} {f : Nat → Bool} {q : List Int}  : Exec PP T none x62.nt 0 x62.body.b.b.a (mkSt [(2, g1S 0), (3, g1S 1), (5, s1S 2 n)] [⟨false, .row 70 [] 49 f⟩, ⟨false, .row 3 [.int .i64 (Int.ofNat n)] 0 ff⟩, ⟨false, .ivec 3 .i64 1 q⟩] 3 []) .n (mkSt [(2, g1S 0), (3, g1S 1), (5, s1S 2 n), (6, g1S 3)] [⟨false, .row 70 [] 49 f⟩, ⟨false, .row 3 [.int .i64 (Int.ofNat n)] 0 ff⟩, ⟨false, .ivec 3 .i64 1 q⟩, ⟨false, .row 131 [.nilf] 0 ff⟩] 4 []) := by
  refine exec_orun env0 false 60 [] [0, 1, 2, 3] (fun _ => rfl) (by kernel_rfl) (by kernel_rfl) (by kernel_rfl) (by kernel_rfl)
theorem d62 {n : Nat} {f : Nat → Bool} {q : List Int}  : Exec PP T none x62.nt 0 x62.body.b.b.b.a (mkSt [(2, g1S 0), (3, g1S 1), (5, s1S 2 n), (6, g1S 3)] [⟨false, .row 70 [] 49 f⟩, ⟨false, .row 3 [.int .i64 (Int.ofNat n)] 0 ff⟩, ⟨false, .ivec 3 .i64 1 q⟩, ⟨false, .row 131 [.nilf] 0 ff⟩] 4 []) .n (mkSt [(3, g1S 1), (5, s1S 2 n), (6, g1S 3)] (HL false n f q) 4 []) := by
  refine exec_orun env0 false 60 [] [0, 1, 2, 3] (fun _ => rfl) (by kernel_rfl) (by kernel_rfl) (by kernel_rfl) (by kernel_rfl)
theorem e62 {n : Nat} {f : Nat → Bool} {q : List Int}  : Exec PP T none x62.nt 0 x62.body.b.b.b.b.a.a (mkSt [(3, g1S 1), (5, s1S 2 n), (6, g1S 3)] (HL false n f q) 4 []) .n (S62 n f q 0) := by
  refine exec_orun env0 false 60 [] [0, 1, 2, 3] (fun _ => rfl) (by kernel_rfl) (by kernel_rfl) (by kernel_rfl) (by kernel_rfl)
theorem l62 {n : Nat} {f : Nat → Bool} {q : List Int} {i v : Nat} (hs : SpecOK PP (compC T) 95 (spO false n f q i v)) (hq : q.length = n) (hn : n ≤ 7) (hi : i < n) : Exec PP T none x62.nt 0 L62 (S62 n f q i) .n (S62 n f (q.set (0 + (0 + i) * 1) (Int.ofNat v)) (i + 1)) := by
  refine exec_orunG (env9s hs spAt_fp) false 60 [true] [0, 1, 2, 3] (fun _ => rfl) (by kernel_rfl) (by kernel_rfl) (by kernel_rfl) ?_
  rw [(show obOf (orun (g9s (spO false n f q i v)) false 60 L62 (S62 n f q i) [true]) = (decide (Int.ofNat i < Int.ofNat n) && true && (atB (AL i) (AL i) (mkSt [] (HL false n f q) 4 []).hp.get (mkSt [] (HL false n f q) 4 []).hp.get 4 4 && (decide (0 ≤ Int.ofNat i) && decide (Int.ofNat i < Int.ofNat n) && (decide (0 + (0 + i) * 1 < q.length) && true && true && true)) && (rng64 (Int.ofNat i.succ) && true))) from by kernel_rfl)]
  simp [rng64, hq]
  omega
theorem z62 {n : Nat} {f : Nat → Bool} {q : List Int}  : Exec PP T none x62.nt 0 L62 (S62 n f q n) (.x 0) (S62 n f q n) := by
  refine exec_orun env0 false 60 [false] [0, 1, 2, 3] (fun _ => rfl) (by kernel_rfl) (by kernel_rfl) (by kernel_rfl) ?_
  rw [(show obOf (orun g0 false 60 L62 (S62 n f q n) [false]) = (!decide (Int.ofNat n < Int.ofNat n) && true) from by kernel_rfl)]
  all_goals (first | rfl | (simp; done) | (simp; omega) | (simp [rng64]; done) | (simp [rng64]; omega) | (simp [rng64_eq]; omega))
theorem f62 {n : Nat} {f : Nat → Bool} {q : List Int}  : Exec PP T none x62.nt 0 x62.body.b.b.b.b.b (S62 n f q n) .r (mkSt [(4, s1S 0 n)] [⟨false, .ivec 3 .i64 1 q⟩] 1 []) := by
  refine exec_orun env0 false 60 [] [2] (fun _ => rfl) (by kernel_rfl) (by kernel_rfl) (by kernel_rfl) (by kernel_rfl)
theorem body62 {n : Nat} {f : Nat → Bool} (ht : transB f = true) (hn : n ≤ 7) : Exec PP T none x62.nt 0 x62.body (startSt [.pb [] 49 f, .s (.int .i64 (Int.ofNat n))] []) .r (mkSt [(4, s1S 0 n)] [⟨false, .ivec 3 .i64 1 (lqF f n n)⟩] 1 []) := by
  refine exec_seq (x := x62.body.a) (y := x62.body.b) a62 (exec_seq (x := x62.body.b.a) (y := x62.body.b.b) (b62 hn) (exec_seq (x := x62.body.b.b.a) (y := x62.body.b.b.b) cc62 (exec_seq (x := x62.body.b.b.b.a) (y := x62.body.b.b.b.b) d62 (exec_seq (x := x62.body.b.b.b.b.a) (y := x62.body.b.b.b.b.b) (exec_seq (x := x62.body.b.b.b.b.a.a) (y := .block 0 (.loop L62)) e62 (exec_block (e := .x 0) (S1 := S62 n f (lqF f n n) n) ?_)) f62))))
  exact exec_loop_up (fun i => S62 n f (lqF f n i) i) n (fun i hi => l62 (ok95 ht hn 8 false i (by omega) hi (by
    have := cntB_le (fun c => at7 f c i) n
    unfold prc
    omega)) (lqF_len f n i) hn hi) z62 (by simp) 0 (by omega)
def cLay : List PA → Bool := fun pas => match pas with | [.bs _ f, .int n] => transB f && (decide (0 ≤ n) && decide (n ≤ 7)) | _ => false
def nLay : List PA → List HO := fun pas => match pas with | [.bs _ f, .int n] => [⟨false, .ivec 3 .i64 1 (lqF f n.toNat n.toNat)⟩] | _ => [⟨false, .ivec 3 .i64 1 []⟩]
def vLay : List PA → TV := fun pas => match pas with | [.bs _ f, .int n] => .av (.s (.sl 0 0 1 n.toNat)) | _ => .av (.s (.sl 0 0 1 0))
noncomputable abbrev spLay : Spec := genS [.bs 49, .int] cLay vLay nLay
theorem ok62 : SpecOK PP (compC T) 62 spLay := ok_gen o62 (by kernel_rfl) fun pas hf hc => match pas, hf with
  | [.bs _ f, .int n], ⟨rfl, _, _⟩ => by
    unfold cLay at hc
    simp only [Bool.and_eq_true, decide_eq_true_eq] at hc
    obtain ⟨k, rfl⟩ : ∃ k : Nat, n = Int.ofNat k := ⟨n.toNat, by simp; omega⟩
    exact ⟨_, 1, .r, body62 hc.1 (by have := hc.2.2; simp at this; omega), fun _ => rfl, by kernel_rfl, by kernel_rfl, by kernel_rfl⟩
end Go.Proofs.Yteekkjfjpoaihaa.Eng
namespace Go.Proofs.Yteekkjfjpoaihaa.Eng
open Go Go.Proofs
noncomputable def Lr20 : List (Nat × Spec) := [(59, pureS (intPairsX 0 anyC orderR)), (62, spLay)]
theorem Lr20_ok : SpecsL Lr20 := specsL_cons ok59 (pureS_fp (intPairsX_fp _ _ _)) o59 (specsL_cons ok62 (genS_fp) o62 (fun p hp => absurd hp (by simp)))
noncomputable abbrev gr20 : Cal → Option Spec := specsΓ Lr20
theorem envr20 : EnvOK PP T gr20 := envL Lr20_ok
def ordC (n : Int) (q : List Int) (m : Nat) : Bool := orderE n q m == 0 && (transB (orderF n q m) && (decide (1 ≤ n) && decide (n ≤ 7)))
theorem ordC_at {n : Nat} {q : List Int} {m : Nat} (h : ordC (Int.ofNat n) q m = true) : orderE (Int.ofNat n) q m = 0 ∧ transB (orderF (Int.ofNat n) q m) = true ∧ 1 ≤ n ∧ n ≤ 7 := by
  unfold ordC at h
  simp only [Bool.and_eq_true, decide_eq_true_eq, beq_iff_eq] at h
  have h1 := h.2.2.1
  have h2 := h.2.2.2
  simp at h1 h2
  exact ⟨h.1, h.2.1, by omega, by omega⟩
theorem body20 {n : Nat} {q : List Int} {m : Nat} (hq : q.length = m * 2) (hm : m ≤ 1000000000) (h : ordC (Int.ofNat n) q m = true) : Exec PP T none x20.nt 0 x20.body (startSt (A40 (Int.ofNat n) m) (H1 q)) .r (mkSt [(4, s1S 0 n), (5, iS 0)] [⟨false, .ivec 3 .i64 1 (lqF (orderF (Int.ofNat n) ((q.drop (0 * 2)).take (m * 2)) m) n n)⟩] 1 []) := by
  refine exec_orun envr20 false 60 [false] [10] (fun _ => rfl) (by kernel_rfl) (by kernel_rfl) (by kernel_rfl) ?_
  rw [(show obOf (orun gr20 false 60 x20.body (startSt (A40 (Int.ofNat n) m) (H1 q)) [false]) = (decide ((0 + m) * 2 ≤ q.length) && (decide (m ≤ 1000000000) && true) && true && (!orderE (Int.ofNat n) (List.take (m * 2) q) m != 0 && true && (transB (orderF (Int.ofNat n) (List.take (m * 2) q) m) && (decide (0 ≤ Int.ofNat n) && decide (Int.ofNat n ≤ 7)) && true && true && true && true))) from by kernel_rfl)]
  obtain ⟨h1, h2, h3, h4⟩ := ordC_at h
  simp only [take_all2 hq, take2 hq, cLay, h1, h2]
  simp [bndL, hq]
  omega
def cLays : List PA → Bool := fun pas => match pas with | [.int n, .sl _ q m] => ordC n q m | _ => false
def nLays : List PA → List HO := fun pas => match pas with | [.int n, .sl _ q m] => [⟨false, .ivec 3 .i64 1 (lqF (orderF n q m) n.toNat n.toNat)⟩] | _ => [⟨false, .ivec 3 .i64 1 []⟩]
def vLays : List PA → TV := fun pas => match pas with | [.int n, .sl _ q m] => .tup [.s (.sl 0 0 1 n.toNat), .s (.int .i64 0)] | _ => .tup [.s (.sl 0 0 1 0), .s (.int .i64 0)]
noncomputable abbrev spLays : Spec := genS [.int, .sl 2] cLays vLays nLays
theorem ordC_nat {n : Int} {q : List Int} {m : Nat} (h : ordC n q m = true) : ∃ k : Nat, n = Int.ofNat k := by
  unfold ordC at h
  simp only [Bool.and_eq_true, decide_eq_true_eq, beq_iff_eq] at h
  exact ⟨n.toNat, by simp; omega⟩
theorem ok20 : SpecOK PP (compC T) 20 spLays := ok_gen o20 (by kernel_rfl) fun pas hf hc => match pas, hf with
  | [.int n, .sl _ q m], ⟨_, ⟨rfl, hq, hm⟩, _⟩ => by
    obtain ⟨k, rfl⟩ := ordC_nat hc
    have := body20 hq hm hc
    rw [take_all2 hq] at this
    exact ⟨_, 1, .r, this, fun _ => rfl, by kernel_rfl, by kernel_rfl, by kernel_rfl⟩
noncomputable def Li19 : List (Nat × Spec) := [(64, spMax), (63, spIdx)]
theorem Li19_ok : SpecsL Li19 := specsL_cons ok64 (genS_fp) o64 (specsL_cons ok63 (genS_fp) o63 (fun p hp => absurd hp (by simp)))
noncomputable abbrev gi19 : Cal → Option Spec := specsΓ Li19
theorem envi19 : EnvOK PP T gi19 := envL Li19_ok
noncomputable def s65 : Spec := callS x65 (crun g0 false 60)
theorem ok65 : SpecOK PP (compC T) 65 s65 := callS_ok tokP o65 fun c S S' e kp nt hr => (crun_snd env0 (fun _ => rfl) 60 c S S' e hr).1
noncomputable def Lv19 : List (Nat × Spec) := [(65, s65)]
theorem Lv19_ok : SpecsL Lv19 := specsL_cons ok65 (callS_fp) o65 (fun p hp => absurd hp (by simp))
noncomputable abbrev gv19 : Cal → Option Spec := specsΓ Lv19
theorem envv19 : EnvOK PP T gv19 := envL Lv19_ok
abbrev HN (f : Nat → Bool) (l o : List Int) : List HO := [⟨false, .row 70 [] 49 f⟩, ⟨false, .ivec 3 .i64 1 l⟩, ⟨false, .ivec 3 .i64 1 o⟩]
abbrev D19 (n : Nat) (f : Nat → Bool) (l : List Int) : St := mkSt [(0, iS n), (6, g1S 0), (8, s1S 1 n)] [⟨false, .row 70 [] 49 f⟩, ⟨false, .ivec 3 .i64 1 l⟩] 2 []
abbrev E19 (n : Nat) (f : Nat → Bool) (l : List Int) (a : Nat) : St := mkSt [(0, iS n), (6, g1S 0), (8, s1S 1 n), (9, iS a)] [⟨false, .row 70 [] 49 f⟩, ⟨false, .ivec 3 .i64 1 l⟩] 2 []
abbrev S19 (n : Nat) (f : Nat → Bool) (l : List Int) (a : Nat) (o : List Int) (on : Nat) : St := mkSt [(0, iS n), (6, g1S 0), (8, s1S 1 n), (9, iS a), (10, s1S 2 on)] (HN f l o) 3 []
abbrev U19 (n : Nat) (f : Nat → Bool) (l : List Int) (a : Nat) (o : List Int) (on k : Nat) : St := mkSt [(0, iS n), (6, g1S 0), (8, s1S 1 n), (9, iS a), (10, s1S 2 on), (35, iS n), (36, iS k)] (HN f l o) 3 []
def L19 : XC := x19.body.b.b.b.b.b.b.a.i.i
def M19 : XC := L19.b.i.a.b.i.i
theorem a19 {n : Nat} {q : List Int} {m : Nat}  : Exec PP T none x19.nt 0 x19.body.a (startSt (A40 (Int.ofNat n) m) (H1 q)) .n (mkSt [(0, iS n), (1, lsS 0 m)] (H1 q) 1 []) := by
  refine exec_orun env0 false 60 [] [0] (fun _ => rfl) (by kernel_rfl) (by kernel_rfl) (by kernel_rfl) (by kernel_rfl)
theorem b19 {n : Nat} {q : List Int} {m : Nat} (hq : q.length = m * 2) (hm : m ≤ 1000000000) : Exec PP T none x19.nt 0 x19.body.b.a (mkSt [(0, iS n), (1, lsS 0 m)] (H1 q) 1 []) .n (mkSt [(0, iS n), (6, g1S 0), (7, iS (orderE (Int.ofNat n) ((q.drop (0 * 2)).take (m * 2)) m))] [⟨false, .row 70 [] 49 (orderF (Int.ofNat n) ((q.drop (0 * 2)).take (m * 2)) m)⟩] 1 []) := by
  refine exec_orun envr20 false 60 [] [9] (fun _ => rfl) (by kernel_rfl) (by kernel_rfl) (by kernel_rfl) ?_
  rw [(show obOf (orun gr20 false 60 x19.body.b.a (mkSt [(0, iS n), (1, lsS 0 m)] (H1 q) 1 []) []) = (decide ((0 + m) * 2 ≤ q.length) && (decide (m ≤ 1000000000) && true) && true) from by kernel_rfl)]
  simp [bndL, hq]
  omega
theorem cc19 {n : Nat} {f : Nat → Bool}  : Exec PP T none x19.nt 0 x19.body.b.b.a (mkSt [(0, iS n), (6, g1S 0), (7, iS 0)] [⟨false, .row 70 [] 49 f⟩] 1 []) .n (mkSt [(0, iS n), (6, g1S 0)] [⟨false, .row 70 [] 49 f⟩] 1 []) := by
  refine exec_orun env0 false 60 [false] [0] (fun _ => rfl) (by kernel_rfl) (by kernel_rfl) (by kernel_rfl) (by kernel_rfl)
theorem d19 {n : Nat} {f : Nat → Bool} (ht : transB f = true) (hn : n ≤ 7) : Exec PP T none x19.nt 0 x19.body.b.b.b.a (mkSt [(0, iS n), (6, g1S 0)] [⟨false, .row 70 [] 49 f⟩] 1 []) .n (D19 n f (lqF f n n)) := by
  refine exec_orun envr20 false 60 [] [0, 1] (fun _ => rfl) (by kernel_rfl) (by kernel_rfl) (by kernel_rfl) ?_
  rw [(show obOf (orun gr20 false 60 x19.body.b.b.b.a (mkSt [(0, iS n), (6, g1S 0)] [⟨false, .row 70 [] 49 f⟩] 1 []) []) = (transB f && (decide (0 ≤ Int.ofNat n) && decide (Int.ofNat n ≤ 7)) && true && true && true) from by kernel_rfl)]
  simp only [cLay, ht]
  simp
  omega
theorem e19 {n : Nat} {f : Nat → Bool} {l : List Int} {a : Nat} (hl : l.length = n) (h1 : 1 ≤ n) (hn : n ≤ 7) : Exec PP T none x19.nt 0 x19.body.b.b.b.b.a (D19 n f l) .n (mkSt [(0, iS n), (6, g1S 0), (8, s1S 1 n), (9, iS (idxF ((l.drop (0 * 1)).take (n * 1)) n (mxF ((l.drop (0 * 1)).take (n * 1)) (n - 1))))] [⟨false, .row 70 [] 49 f⟩, ⟨false, .ivec 3 .i64 1 l⟩] 2 []) := by
  refine exec_orun envi19 false 60 [] [0, 1] (fun _ => rfl) (by kernel_rfl) (by kernel_rfl) (by kernel_rfl) ?_
  rw [(show obOf (orun gi19 false 60 x19.body.b.b.b.b.a (D19 n f l) []) = (decide ((0 + n) * 1 ≤ l.length) && decide (n ≤ 1000000000) && true && decide (0 < n) && (decide ((0 + n) * 1 ≤ l.length) && decide (n ≤ 1000000000) && true && true && true)) from by kernel_rfl)]
  simp [bndL, hl, cMax]
  omega
theorem f19 {n : Nat} {f : Nat → Bool} {l : List Int} {a : Nat}  : Exec PP T none x19.nt 0 x19.body.b.b.b.b.b.a (E19 n f l a) .n (S19 n f l a [Int.ofNat a] 1) := by
  refine exec_orun env0 false 60 [] [0, 1, 2] (fun _ => rfl) (by kernel_rfl) (by kernel_rfl) (by kernel_rfl) (by kernel_rfl)
theorem l19a {n : Nat} {f : Nat → Bool} {l : List Int} {a : Nat} {o : List Int} {on : Nat} (hl : l.length = n) (ha : a < n) (h : 0 < at1 l a) : Exec PP T none x19.nt 0 L19.a (S19 n f l a o on) .n (S19 n f l a o on) := by
  refine exec_orun env0 false 60 [true] [0, 1, 2] (fun _ => rfl) (by kernel_rfl) (by kernel_rfl) (by kernel_rfl) ?_
  rw [(show obOf (orun g0 false 60 L19.a (S19 n f l a o on) [true]) = (decide (0 ≤ Int.ofNat a) && decide (Int.ofNat a < Int.ofNat n) && (decide (0 + (0 + a) * 1 < l.length) && true) && (decide (l.getD (0 + (0 + a) * 1) 0 > 0) && true)) from by kernel_rfl)]
  unfold at1 at h
  simp only [decide_eq_true h]
  simp [hl]
  omega
theorem l19x {n : Nat} {f : Nat → Bool} {l : List Int} {a : Nat} {o : List Int} {on : Nat} (hl : l.length = n) (ha : a < n) (h : ¬ 0 < at1 l a) : Exec PP T none x19.nt 0 L19.a (S19 n f l a o on) (.x 0) (S19 n f l a o on) := by
  refine exec_orun env0 false 60 [false] [0, 1, 2] (fun _ => rfl) (by kernel_rfl) (by kernel_rfl) (by kernel_rfl) ?_
  rw [(show obOf (orun g0 false 60 L19.a (S19 n f l a o on) [false]) = (decide (0 ≤ Int.ofNat a) && decide (Int.ofNat a < Int.ofNat n) && (decide (0 + (0 + a) * 1 < l.length) && true) && (!decide (l.getD (0 + (0 + a) * 1) 0 > 0) && true)) from by kernel_rfl)]
  unfold at1 at h
  rw [decide_eq_false h]
  simp [hl]
  omega
theorem l19c {n : Nat} {f : Nat → Bool} {l : List Int} {a : Nat} {o : List Int} {on : Nat}  : Exec PP T none x19.nt 0 L19.b.i.a.a (S19 n f l a o on) .n (U19 n f l a o on 0) := by
  refine exec_orun env0 false 60 [] [0, 1, 2] (fun _ => rfl) (by kernel_rfl) (by kernel_rfl) (by kernel_rfl) (by kernel_rfl)
def tst19 (f : Nat → Bool) (l : List Int) (a k : Nat) : Bool := at7 f k a && (at1 l k == at1 l a - 1)
theorem m19f {n : Nat} {f : Nat → Bool} {l : List Int} {a : Nat} {o : List Int} {on k : Nat} (hl : l.length = n) (hn : n ≤ 7) (ha : a < n) (hk : k < n) (hv : 0 ≤ at1 l a ∧ at1 l a ≤ 100) (h : tst19 f l a k = false) : Exec PP T none x19.nt 0 M19 (U19 n f l a o on k) .n (U19 n f l a o on (k + 1)) := by
  refine exec_orun env0 false 60 [true, false] [0, 1, 2] (fun _ => rfl) (by kernel_rfl) (by kernel_rfl) (by kernel_rfl) ?_
  rw [(show obOf (orun g0 false 60 M19 (U19 n f l a o on k) [true, false]) = (decide (Int.ofNat k < Int.ofNat n) && true && (decide (0 ≤ Int.ofNat k) && decide (Int.ofNat k < 7) && (decide (0 ≤ Int.ofNat a) && decide (Int.ofNat a < 7) && (decide (0 + (0 + k * 7 + a * 1) < 49) && ((!f (0 + (0 + k * 7 + a * 1)) == true || true) && ((!f (0 + (0 + k * 7 + a * 1)) == true || true) && ((!f (0 + (0 + k * 7 + a * 1)) == true || f (0 + (0 + k * 7 + a * 1)) == true && (f (0 + (0 + k * 7 + a * 1)) == true && true) && (decide (0 ≤ Int.ofNat k) && decide (Int.ofNat k < Int.ofNat n))) && ((!f (0 + (0 + k * 7 + a * 1)) == true || f (0 + (0 + k * 7 + a * 1)) == true && true && decide (0 + (0 + k) * 1 < l.length)) && ((!f (0 + (0 + k * 7 + a * 1)) == true || true) && ((!f (0 + (0 + k * 7 + a * 1)) == true || true) && ((!f (0 + (0 + k * 7 + a * 1)) == true || f (0 + (0 + k * 7 + a * 1)) == true && (f (0 + (0 + k * 7 + a * 1)) == true && true) && (decide (0 ≤ Int.ofNat a) && decide (Int.ofNat a < Int.ofNat n))) && ((!f (0 + (0 + k * 7 + a * 1)) == true || f (0 + (0 + k * 7 + a * 1)) == true && true && decide (0 + (0 + a) * 1 < l.length)) && ((!f (0 + (0 + k * 7 + a * 1)) == true || f (0 + (0 + k * 7 + a * 1)) == true && true && rng64 (l.getD (0 + (0 + a) * 1) 0 - 1)) && ((!f (0 + (0 + k * 7 + a * 1)) == true || f (0 + (0 + k * 7 + a * 1)) == true && (f (0 + (0 + k * 7 + a * 1)) == true && true) && true) && ((bif f (0 + (0 + k * 7 + a * 1)) then f (0 + (0 + k * 7 + a * 1)) == true else true) && true && true))))))))))))) && true && ((!bif f (0 + (0 + k * 7 + a * 1)) then l.getD (0 + (0 + k) * 1) 0 == l.getD (0 + (0 + a) * 1) 0 - 1 else false) && true) && (rng64 (Int.ofNat k.succ) && true))) from by kernel_rfl)]
  simp only [at7_raw]
  unfold tst19 at1 at h
  unfold at1 at hv
  revert h
  generalize (l.getD (0 + (0 + k) * 1) 0 == l.getD (0 + (0 + a) * 1) 0 - 1) = Z
  cases at7 f k a <;> cases Z <;> simp [rng64_eq, hl] at hv ⊢ <;> omega
theorem m19t {n : Nat} {f : Nat → Bool} {l : List Int} {a : Nat} {o : List Int} {on k : Nat} (hl : l.length = n) (hn : n ≤ 7) (ha : a < n) (hk : k < n) (hv : 0 ≤ at1 l a ∧ at1 l a ≤ 100) (h : tst19 f l a k = true) : Exec PP T none x19.nt 0 M19 (U19 n f l a o on k) (.x 2) (S19 n f l k o on) := by
  refine exec_orun env0 false 60 [true, true] [0, 1, 2] (fun _ => rfl) (by kernel_rfl) (by kernel_rfl) (by kernel_rfl) ?_
  rw [(show obOf (orun g0 false 60 M19 (U19 n f l a o on k) [true, true]) = (decide (Int.ofNat k < Int.ofNat n) && true && (decide (0 ≤ Int.ofNat k) && decide (Int.ofNat k < 7) && (decide (0 ≤ Int.ofNat a) && decide (Int.ofNat a < 7) && (decide (0 + (0 + k * 7 + a * 1) < 49) && ((!f (0 + (0 + k * 7 + a * 1)) == true || true) && ((!f (0 + (0 + k * 7 + a * 1)) == true || true) && ((!f (0 + (0 + k * 7 + a * 1)) == true || f (0 + (0 + k * 7 + a * 1)) == true && (f (0 + (0 + k * 7 + a * 1)) == true && true) && (decide (0 ≤ Int.ofNat k) && decide (Int.ofNat k < Int.ofNat n))) && ((!f (0 + (0 + k * 7 + a * 1)) == true || f (0 + (0 + k * 7 + a * 1)) == true && true && decide (0 + (0 + k) * 1 < l.length)) && ((!f (0 + (0 + k * 7 + a * 1)) == true || true) && ((!f (0 + (0 + k * 7 + a * 1)) == true || true) && ((!f (0 + (0 + k * 7 + a * 1)) == true || f (0 + (0 + k * 7 + a * 1)) == true && (f (0 + (0 + k * 7 + a * 1)) == true && true) && (decide (0 ≤ Int.ofNat a) && decide (Int.ofNat a < Int.ofNat n))) && ((!f (0 + (0 + k * 7 + a * 1)) == true || f (0 + (0 + k * 7 + a * 1)) == true && true && decide (0 + (0 + a) * 1 < l.length)) && ((!f (0 + (0 + k * 7 + a * 1)) == true || f (0 + (0 + k * 7 + a * 1)) == true && true && rng64 (l.getD (0 + (0 + a) * 1) 0 - 1)) && ((!f (0 + (0 + k * 7 + a * 1)) == true || f (0 + (0 + k * 7 + a * 1)) == true && (f (0 + (0 + k * 7 + a * 1)) == true && true) && true) && ((bif f (0 + (0 + k * 7 + a * 1)) then f (0 + (0 + k * 7 + a * 1)) == true else true) && true && true))))))))))))) && true && ((bif f (0 + (0 + k * 7 + a * 1)) then l.getD (0 + (0 + k) * 1) 0 == l.getD (0 + (0 + a) * 1) 0 - 1 else false) && true))) from by kernel_rfl)]
  simp only [at7_raw]
  unfold tst19 at1 at h
  unfold at1 at hv
  revert h
  generalize (l.getD (0 + (0 + k) * 1) 0 == l.getD (0 + (0 + a) * 1) 0 - 1) = Z
  cases at7 f k a <;> cases Z <;> simp [rng64_eq, hl] at hv ⊢ <;> omega
theorem l19d {n : Nat} {f : Nat → Bool} {l : List Int} {a : Nat} {o : List Int} {on : Nat} (ho : o.length = on) (hon : on ≤ 100) : Exec PP T none x19.nt 0 L19.b.i.b (S19 n f l a o on) .n (S19 n f l a (o.take (on * 1) ++ [Int.ofNat a]) (on + 1)) := by
  refine exec_orun env0 false 60 [] [0, 1, 4] (fun _ => rfl) (by kernel_rfl) (by kernel_rfl) (by kernel_rfl) ?_
  rw [(show obOf (orun g0 false 60 L19.b.i.b (S19 n f l a o on) []) = (decide (1 ≤ 1) && decide (on * 1 ≤ o.length) && decide (on.succ ≤ 1000000000) && true && true && true) from by kernel_rfl)]
  simp [bndL, ho]
  omega
theorem i19 {n : Nat} {f : Nat → Bool} {l : List Int} {a : Nat} {o : List Int} {on : Nat}  : Exec PP T none x19.nt 0 x19.body.b.b.b.b.b.b.b.b (S19 n f l a o on) .r (mkSt [(4, s1S 0 on), (5, iS 0)] [⟨false, .ivec 3 .i64 1 o⟩] 1 []) := by
  refine exec_orun env0 false 60 [] [2] (fun _ => rfl) (by kernel_rfl) (by kernel_rfl) (by kernel_rfl) (by kernel_rfl)
end Go.Proofs.Yteekkjfjpoaihaa.Eng
namespace Go.Proofs.Yteekkjfjpoaihaa.Eng
open Go Go.Proofs
theorem r191 {n : Nat} {f : Nat → Bool} {l : List Int} {a : Nat} {uy0 : Int}  : Exec PP T none x19.nt 0 x19.body.b.b.b.b.b.b.b.a (S19 n f l a [uy0] 1) .n (S19 n f l a [uy0] 1) := by
  refine exec_orun envv19 false 60 [] [0, 1, 2] (fun _ => rfl) (by kernel_rfl) (by kernel_rfl) (by kernel_rfl) (by kernel_rfl)
theorem r192 {n : Nat} {f : Nat → Bool} {l : List Int} {a : Nat} {uy0 uy1 : Int}  : Exec PP T none x19.nt 0 x19.body.b.b.b.b.b.b.b.a (S19 n f l a [uy0, uy1] 2) .n (S19 n f l a [uy1, uy0] 2) := by
  refine exec_orun envv19 false 60 [] [0, 1, 2] (fun _ => rfl) (by kernel_rfl) (by kernel_rfl) (by kernel_rfl) (by kernel_rfl)
theorem r193 {n : Nat} {f : Nat → Bool} {l : List Int} {a : Nat} {uy0 uy1 uy2 : Int}  : Exec PP T none x19.nt 0 x19.body.b.b.b.b.b.b.b.a (S19 n f l a [uy0, uy1, uy2] 3) .n (S19 n f l a [uy2, uy1, uy0] 3) := by
  refine exec_orun envv19 false 60 [] [0, 1, 2] (fun _ => rfl) (by kernel_rfl) (by kernel_rfl) (by kernel_rfl) (by kernel_rfl)
theorem r194 {n : Nat} {f : Nat → Bool} {l : List Int} {a : Nat} {uy0 uy1 uy2 uy3 : Int}  : Exec PP T none x19.nt 0 x19.body.b.b.b.b.b.b.b.a (S19 n f l a [uy0, uy1, uy2, uy3] 4) .n (S19 n f l a [uy3, uy2, uy1, uy0] 4) := by
  refine exec_orun envv19 false 60 [] [0, 1, 2] (fun _ => rfl) (by kernel_rfl) (by kernel_rfl) (by kernel_rfl) (by kernel_rfl)
theorem r195 {n : Nat} {f : Nat → Bool} {l : List Int} {a : Nat} {uy0 uy1 uy2 uy3 uy4 : Int}  : Exec PP T none x19.nt 0 x19.body.b.b.b.b.b.b.b.a (S19 n f l a [uy0, uy1, uy2, uy3, uy4] 5) .n (S19 n f l a [uy4, uy3, uy2, uy1, uy0] 5) := by
  refine exec_orun envv19 false 60 [] [0, 1, 2] (fun _ => rfl) (by kernel_rfl) (by kernel_rfl) (by kernel_rfl) (by kernel_rfl)
theorem r196 {n : Nat} {f : Nat → Bool} {l : List Int} {a : Nat} {uy0 uy1 uy2 uy3 uy4 uy5 : Int}  : Exec PP T none x19.nt 0 x19.body.b.b.b.b.b.b.b.a (S19 n f l a [uy0, uy1, uy2, uy3, uy4, uy5] 6) .n (S19 n f l a [uy5, uy4, uy3, uy2, uy1, uy0] 6) := by
  refine exec_orun envv19 false 60 [] [0, 1, 2] (fun _ => rfl) (by kernel_rfl) (by kernel_rfl) (by kernel_rfl) (by kernel_rfl)
theorem r197 {n : Nat} {f : Nat → Bool} {l : List Int} {a : Nat} {uy0 uy1 uy2 uy3 uy4 uy5 uy6 : Int}  : Exec PP T none x19.nt 0 x19.body.b.b.b.b.b.b.b.a (S19 n f l a [uy0, uy1, uy2, uy3, uy4, uy5, uy6] 7) .n (S19 n f l a [uy6, uy5, uy4, uy3, uy2, uy1, uy0] 7) := by
  refine exec_orun envv19 false 60 [] [0, 1, 2] (fun _ => rfl) (by kernel_rfl) (by kernel_rfl) (by kernel_rfl) (by kernel_rfl)
theorem r198 {n : Nat} {f : Nat → Bool} {l : List Int} {a : Nat} {uy0 uy1 uy2 uy3 uy4 uy5 uy6 uy7 : Int}  : Exec PP T none x19.nt 0 x19.body.b.b.b.b.b.b.b.a (S19 n f l a [uy0, uy1, uy2, uy3, uy4, uy5, uy6, uy7] 8) .n (S19 n f l a [uy7, uy6, uy5, uy4, uy3, uy2, uy1, uy0] 8) := by
  refine exec_orun envv19 false 60 [] [0, 1, 2] (fun _ => rfl) (by kernel_rfl) (by kernel_rfl) (by kernel_rfl) (by kernel_rfl)
theorem r199 {n : Nat} {f : Nat → Bool} {l : List Int} {a : Nat} {uy0 uy1 uy2 uy3 uy4 uy5 uy6 uy7 uy8 : Int}  : Exec PP T none x19.nt 0 x19.body.b.b.b.b.b.b.b.a (S19 n f l a [uy0, uy1, uy2, uy3, uy4, uy5, uy6, uy7, uy8] 9) .n (S19 n f l a [uy8, uy7, uy6, uy5, uy4, uy3, uy2, uy1, uy0] 9) := by
  refine exec_orun envv19 false 60 [] [0, 1, 2] (fun _ => rfl) (by kernel_rfl) (by kernel_rfl) (by kernel_rfl) (by kernel_rfl)
theorem r19 {n : Nat} {f : Nat → Bool} {l : List Int} {a : Nat} : ∀ o : List Int, 1 ≤ o.length → o.length ≤ 9 → Exec PP T none x19.nt 0 x19.body.b.b.b.b.b.b.b.a (S19 n f l a o o.length) .n (S19 n f l a o.reverse o.length)
  | [y0], _, _ => r191
  | [y0, y1], _, _ => r192
  | [y0, y1, y2], _, _ => r193
  | [y0, y1, y2, y3], _, _ => r194
  | [y0, y1, y2, y3, y4], _, _ => r195
  | [y0, y1, y2, y3, y4, y5], _, _ => r196
  | [y0, y1, y2, y3, y4, y5, y6], _, _ => r197
  | [y0, y1, y2, y3, y4, y5, y6, y7], _, _ => r198
  | [y0, y1, y2, y3, y4, y5, y6, y7, y8], _, _ => r199
  | [], h, _ => absurd h (by simp)
  | _ :: _ :: _ :: _ :: _ :: _ :: _ :: _ :: _ :: _ :: r, _, h => absurd h (by simp)
theorem hB_congr {f : Nat → Bool} {g g' : Nat → Nat} {i : Nat} : ∀ n, (∀ c, c < n → at7 f c i = true → g c = g' c) → hB f g i n = hB f g' i n
  | 0, _ => rfl
  | c + 1, h => by
    have h1 := hB_congr (f := f) (g := g) (g' := g') (i := i) c fun x hx => h x (by omega)
    unfold hB
    rw [h1]
    cases hc : at7 f c i with
    | false => rfl
    | true => rw [h c (by omega) hc]
theorem hB_pos {f : Nat → Bool} {g : Nat → Nat} {i : Nat} : ∀ n, 0 < hB f g i n → ∃ c, c < n ∧ at7 f c i = true ∧ hB f g i n = g c + 1
  | 0, h => by simp [hB] at h
  | m + 1, h => by
    unfold hB at h ⊢
    cases hc : at7 f m i with
    | false =>
      rw [hc, cond_false] at h
      obtain ⟨c, h1, h2, h3⟩ := hB_pos m h
      exact ⟨c, by omega, h2, by rw [cond_false]; exact h3⟩
    | true =>
      rw [cond_true]
      by_cases hm : hB f g i m ≤ g m + 1
      · exact ⟨m, by omega, hc, by omega⟩
      · obtain ⟨c, h1, h2, h3⟩ := hB_pos (f := f) (g := g) (i := i) m (by omega)
        exact ⟨c, by omega, h2, by omega⟩
theorem hgt_stab {f : Nat → Bool} {n : Nat} (ht : transB f = true) (hn : n ≤ 7) : ∀ k k' i, i < n → prc f n i < k → prc f n i < k' → hgt f n k i = hgt f n k' i
  | 0, _, _, _, h, _ => absurd h (by omega)
  | _ + 1, 0, _, _, _, h => absurd h (by omega)
  | k + 1, k' + 1, i, hi, h, h' => by
    show hB f (hgt f n k) i n = hB f (hgt f n k') i n
    exact hB_congr n fun c hc hci => hgt_stab ht hn k k' c hc (by have := prc_lt ht hn hc hi hci; omega) (by have := prc_lt ht hn hc hi hci; omega)
/-- the height of a node of an order -/
def hgF (f : Nat → Bool) (n i : Nat) : Nat := hgt f n 8 i
theorem prc_le (f : Nat → Bool) (n i : Nat) : prc f n i ≤ n := cntB_le _ n
theorem hgF_rec {f : Nat → Bool} {n i : Nat} (ht : transB f = true) (hn : n ≤ 7) (hi : i < n) : hgF f n i = hB f (hgF f n) i n := by
  show hB f (hgt f n 7) i n = hB f (hgt f n 8) i n
  refine hB_congr n fun c hc hci => ?_
  have h1 := prc_lt ht hn hc hi hci
  have h2 := prc_le f n i
  exact hgt_stab ht hn 7 8 c hc (by omega) (by omega)
theorem lqF_hg {f : Nat → Bool} {n i : Nat} (hi : i < n) : at1 (lqF f n n) i = Int.ofNat (hgF f n i) := by rw [at1_eq]; exact lqF_at f n n i hi hi
theorem hgF_le (f : Nat → Bool) (n i : Nat) : hgF f n i ≤ 8 := hgt_le f n 8 i
def topF (f : Nat → Bool) (n : Nat) : Nat := (idxF (lqF f n n) n (mxF (lqF f n n) (n - 1))).toNat
theorem mxF_spec (q : List Int) : ∀ i, (∀ j, j ≤ i → at1 q j ≤ mxF q i) ∧ ∃ j, j ≤ i ∧ at1 q j = mxF q i
  | 0 => ⟨fun j hj => by rw [show j = 0 by omega]; exact Int.le_refl _, 0, by omega, rfl⟩
  | i + 1 => by
    obtain ⟨h1, j, h2, h3⟩ := mxF_spec q i
    refine ⟨fun j hj => ?_, ?_⟩
    · show at1 q j ≤ max (mxF q i) (at1 q (i + 1))
      by_cases hji : j ≤ i
      · have := h1 j hji; omega
      · rw [show j = i + 1 by omega]; omega
    · by_cases hm : mxF q i ≤ at1 q (i + 1)
      · exact ⟨i + 1, by omega, by show _ = max (mxF q i) (at1 q (i + 1)); omega⟩
      · exact ⟨j, by omega, by show _ = max (mxF q i) (at1 q (i + 1)); omega⟩
theorem topF_spec {f : Nat → Bool} {n : Nat} (h1 : 1 ≤ n) : topF f n < n ∧ idxF (lqF f n n) n (mxF (lqF f n n) (n - 1)) = Int.ofNat (topF f n) ∧ ∀ i, i < n → hgF f n i ≤ hgF f n (topF f n) := by
  obtain ⟨k1, j, k2, k3⟩ := mxF_spec (lqF f n n) (n - 1)
  obtain ⟨g1, g2, g3⟩ := fstN_spec (fun i => mxF (lqF f n n) (n - 1) == at1 (lqF f n n) i) n
  have hlt : fstN (fun i => mxF (lqF f n n) (n - 1) == at1 (lqF f n n) i) n < n := by
    rcases Nat.lt_or_ge (fstN (fun i => mxF (lqF f n n) (n - 1) == at1 (lqF f n n) i) n) n with h | h
    · exact h
    · have := g2 j (by omega)
      rw [k3] at this
      simp at this
  have e : idxF (lqF f n n) n (mxF (lqF f n n) (n - 1)) = Int.ofNat (fstN (fun i => mxF (lqF f n n) (n - 1) == at1 (lqF f n n) i) n) := by
    unfold idxF
    rw [blt_lt hlt, cond_true]
  have et : topF f n = fstN (fun i => mxF (lqF f n n) (n - 1) == at1 (lqF f n n) i) n := by unfold topF; rw [e]; rfl
  refine ⟨by rw [et]; exact hlt, by rw [e, et], fun i hi => ?_⟩
  have h3 := g3 hlt
  rw [← et] at h3
  have h4 := k1 i (by omega)
  rw [lqF_hg hi] at h4
  have hlt' : topF f n < n := by rw [et]; exact hlt
  rw [lqF_hg hlt', beq_iff_eq] at h3
  rw [h3] at h4
  exact Int.ofNat_le.1 h4
def nxtF (f : Nat → Bool) (n a : Nat) : Nat := fstN (tst19 f (lqF f n n) a) n
theorem nxtF_spec {f : Nat → Bool} {n a : Nat} (ht : transB f = true) (hn : n ≤ 7) (ha : a < n) (hp : 0 < hgF f n a) : nxtF f n a < n ∧ at7 f (nxtF f n a) a = true ∧ hgF f n (nxtF f n a) + 1 = hgF f n a := by
  obtain ⟨g1, g2, g3⟩ := fstN_spec (tst19 f (lqF f n n) a) n
  have hr := hgF_rec ht hn ha
  obtain ⟨c, h1, h2, h3⟩ := hB_pos (f := f) (g := hgF f n) (i := a) n (by omega)
  have hlt : nxtF f n a < n := by
    rcases Nat.lt_or_ge (nxtF f n a) n with h | h
    · exact h
    · have := g2 c (by unfold nxtF at h; omega)
      unfold tst19 at this
      rw [h2, lqF_hg h1, lqF_hg ha, Bool.true_and] at this
      have h5 : hgF f n a = hgF f n c + 1 := by omega
      rw [h5] at this
      simp at this
  have h4 : tst19 f (lqF f n n) a (nxtF f n a) = true := g3 hlt
  unfold tst19 at h4
  rw [Bool.and_eq_true] at h4
  refine ⟨hlt, h4.1, ?_⟩
  have h6 := h4.2
  rw [lqF_hg hlt, lqF_hg ha, beq_iff_eq] at h6
  simp only [Int.ofNat_eq_natCast] at h6
  omega
def chF (f : Nat → Bool) (n : Nat) : Nat → Nat
  | 0 => topF f n
  | j + 1 => nxtF f n (chF f n j)
theorem chF_spec {f : Nat → Bool} {n : Nat} (ht : transB f = true) (h1 : 1 ≤ n) (hn : n ≤ 7) : ∀ j, j ≤ hgF f n (topF f n) → chF f n j < n ∧ hgF f n (chF f n j) + j = hgF f n (topF f n)
  | 0, _ => ⟨(topF_spec h1).1, rfl⟩
  | j + 1, hj => by
    obtain ⟨k1, k2⟩ := chF_spec ht h1 hn j (by omega)
    obtain ⟨g1, _, g3⟩ := nxtF_spec ht hn k1 (by omega)
    exact ⟨g1, by show hgF f n (nxtF f n (chF f n j)) + (j + 1) = _; omega⟩
def outsF (f : Nat → Bool) (n j : Nat) : List Int := (List.range (j + 1)).map fun i => Int.ofNat (chF f n i)
theorem outsF_succ (f : Nat → Bool) (n j : Nat) : outsF f n (j + 1) = outsF f n j ++ [Int.ofNat (chF f n (j + 1))] := by unfold outsF; rw [List.range_succ, List.map_append]; rfl
theorem outsF_len (f : Nat → Bool) (n j : Nat) : (outsF f n j).length = j + 1 := by simp [outsF]
/-- a longest chain, upwards -/
def chainF (f : Nat → Bool) (n : Nat) : List Int := (outsF f n (hgF f n (topF f n))).reverse
theorem l19 {f : Nat → Bool} {n j : Nat} (ht : transB f = true) (h1 : 1 ≤ n) (hn : n ≤ 7) (hj : j < hgF f n (topF f n)) : Exec PP T none x19.nt 0 L19 (S19 n f (lqF f n n) (chF f n j) (outsF f n j) (j + 1)) .n (S19 n f (lqF f n n) (chF f n (j + 1)) (outsF f n (j + 1)) (j + 1 + 1)) := by
  obtain ⟨k1, k2⟩ := chF_spec ht h1 hn j (by omega)
  have hl := lqF_len f n n
  have h8 := hgF_le f n (topF f n)
  have ha := lqF_hg (f := f) k1
  refine exec_seq (x := L19.a) (y := L19.b) (l19a hl k1 (by rw [ha]; simp; omega)) (exec_block (id := 1) (x := L19.b.i) (e := .n) ?_)
  refine exec_seq (x := L19.b.i.a) (y := L19.b.i.b) (exec_seq (x := L19.b.i.a.a) (y := .block 2 (.loop M19)) l19c (exec_block (e := .x 2) (S1 := S19 n f (lqF f n n) (chF f n (j + 1)) (outsF f n j) (j + 1)) ?_)) ?_
  · have hv : 0 ≤ at1 (lqF f n n) (chF f n j) ∧ at1 (lqF f n n) (chF f n j) ≤ 100 := by
      rw [ha]
      simp only [Int.ofNat_eq_natCast]
      omega
    obtain ⟨g1, g2, g3⟩ := nxtF_spec ht hn k1 (by omega)
    obtain ⟨p1, p2, p3⟩ := fstN_spec (tst19 f (lqF f n n) (chF f n j)) n
    exact exec_loop_up (fun k => U19 n f (lqF f n n) (chF f n j) (outsF f n j) (j + 1) k) (nxtF f n (chF f n j)) (fun k hk => m19f hl hn k1 (by omega) hv (p2 k hk)) (m19t hl hn k1 g1 hv (p3 g1)) (by simp) 0 (by omega)
  · have := l19d (n := n) (f := f) (l := lqF f n n) (a := chF f n (j + 1)) (outsF_len f n j) (by omega)
    rw [show (outsF f n j).take ((j + 1) * 1) = outsF f n j by rw [Nat.mul_one, ← outsF_len f n j, List.take_length], ← outsF_succ] at this
    exact this
theorem body19 {n : Nat} {q : List Int} {m : Nat} (hq : q.length = m * 2) (hm : m ≤ 1000000000) (h : ordC (Int.ofNat n) q m = true) : Exec PP T none x19.nt 0 x19.body (startSt (A40 (Int.ofNat n) m) (H1 q)) .r
    (mkSt [(4, s1S 0 (hgF (orderF (Int.ofNat n) q m) n (topF (orderF (Int.ofNat n) q m) n) + 1)), (5, iS 0)] [⟨false, .ivec 3 .i64 1 (chainF (orderF (Int.ofNat n) q m) n)⟩] 1 []) := by
  obtain ⟨h0, ht, h1, hn⟩ := ordC_at h
  have hb := b19 (n := n) hq hm
  rw [take_all2 hq, h0] at hb
  generalize orderF (Int.ofNat n) q m = f at *
  have he := e19 (f := f) (l := lqF f n n) (a := 0) (lqF_len f n n) h1 hn
  rw [take_all1 (by rw [lqF_len, Nat.mul_one]), (topF_spec h1).2.1] at he
  have h8 := hgF_le f n (topF f n)
  refine exec_seq (x := x19.body.a) (y := x19.body.b) a19 (exec_seq (x := x19.body.b.a) (y := x19.body.b.b) hb (exec_seq (x := x19.body.b.b.a) (y := x19.body.b.b.b) cc19 (exec_seq (x := x19.body.b.b.b.a) (y := x19.body.b.b.b.b) (d19 ht hn) (exec_seq (x := x19.body.b.b.b.b.a) (y := x19.body.b.b.b.b.b) he (exec_seq (x := x19.body.b.b.b.b.b.a) (y := x19.body.b.b.b.b.b.b) f19
    (exec_seq (x := x19.body.b.b.b.b.b.b.a) (y := x19.body.b.b.b.b.b.b.b) (exec_block (id := 0) (x := .loop L19) (e := .x 0) (S1 := S19 n f (lqF f n n) (chF f n (hgF f n (topF f n))) (outsF f n (hgF f n (topF f n))) (hgF f n (topF f n) + 1)) ?_) (exec_seq (x := x19.body.b.b.b.b.b.b.b.a) (y := x19.body.b.b.b.b.b.b.b.b) (S1 := S19 n f (lqF f n n) (chF f n (hgF f n (topF f n))) (chainF f n) (hgF f n (topF f n) + 1)) ?_ i19)))))))
  · obtain ⟨g1, g2⟩ := chF_spec ht h1 hn (hgF f n (topF f n)) (Nat.le_refl _)
    exact exec_loop_up (fun j => S19 n f (lqF f n n) (chF f n j) (outsF f n j) (j + 1)) (hgF f n (topF f n)) (fun j hj => l19 ht h1 hn hj) (exec_seq_x (x := L19.a) (y := L19.b) (l19x (lqF_len f n n) g1 (by rw [lqF_hg g1, show hgF f n (chF f n (hgF f n (topF f n))) = 0 by omega]; simp)) (by simp)) (by simp) 0 (by omega)
  · have := r19 (n := n) (f := f) (l := lqF f n n) (a := chF f n (hgF f n (topF f n))) (outsF f n (hgF f n (topF f n))) (by rw [outsF_len]; omega) (by rw [outsF_len]; omega)
    rw [outsF_len] at this
    exact this
def nChn : List PA → List HO := fun pas => match pas with | [.int n, .sl _ q m] => [⟨false, .ivec 3 .i64 1 (chainF (orderF n q m) n.toNat)⟩] | _ => [⟨false, .ivec 3 .i64 1 []⟩]
def vChain : List PA → TV := fun pas => match pas with | [.int n, .sl _ q m] => .tup [.s (.sl 0 0 1 (hgF (orderF n q m) n.toNat (topF (orderF n q m) n.toNat) + 1)), .s (.int .i64 0)] | _ => .tup [.s (.sl 0 0 1 0), .s (.int .i64 0)]
noncomputable abbrev spChain : Spec := genS [.int, .sl 2] cLays vChain nChn
theorem ok19 : SpecOK PP (compC T) 19 spChain := ok_gen o19 (by kernel_rfl) fun pas hf hc => match pas, hf with
  | [.int n, .sl _ q m], ⟨_, ⟨rfl, hq, hm⟩, _⟩ => by
    obtain ⟨k, rfl⟩ := ordC_nat hc
    exact ⟨_, 1, .r, body19 hq hm hc, fun _ => rfl, by kernel_rfl, by kernel_rfl, by kernel_rfl⟩
end Go.Proofs.Yteekkjfjpoaihaa.Eng

/- The program's own facts: its types, what is compared and how, its functions. -/
import Derived.Test.YteekkjfjpoaihaaFc
import Derived.DeepKeys3
import Derived.Laws.StructEq
set_option linter.all false
namespace Go.Proofs.Yteekkjfjpoaihaa.Eng
open Go Go.Proofs

noncomputable abbrev PP : Program := Try.prog

/-- a plain zero, as a value -/
def svZ : SV → Option Value
  | .int k n => some (.int k n)
  | .bool b => some (.bool b)
  | .nilp => some (.pointer none)
  | .nils => some (.slice none 0 0)
  | .nilm => some (.map none)
  | .nilf => some .nilFunc
  | _ => none
def svsZ : List SV → Option (List Value)
  | [] => some []
  | x :: r => match svZ x, svsZ r with
    | some v, some l => some (v :: l)
    | _, _ => none
def avZ : AV → Option Value
  | .s x => svZ x
  | .pb pre n f => (svsZ pre).map fun vs => .agg (vs ++ bcells n f).toArray

theorem svZ_snd {m : MM} {x : SV} {v : Value} (h : svZ x = some v) : SR m x v := by
  cases x <;> simp only [svZ, Option.some.injEq, reduceCtorEq] at h <;> subst h <;> rfl
theorem svZ_one {x : SV} {v : Value} (h : svZ x = some v) : v.oneCell' = true := by
  cases x <;> simp only [svZ, Option.some.injEq, reduceCtorEq] at h <;> subst h <;> rfl
theorem svsZ_snd {m : MM} : ∀ {l : List SV} {vs : List Value}, svsZ l = some vs → All2 (SR m) l vs ∧ ∀ v ∈ vs, Value.oneCell' v = true
  | [], vs, h => by simp [svsZ] at h; subst h; exact ⟨trivial, fun _ h => by cases h⟩
  | x :: l, vs, h => by
    simp only [svsZ] at h
    split at h
    · rename_i v r hv hr
      cases h
      obtain ⟨h1, h2⟩ := svsZ_snd (m := m) hr
      refine ⟨⟨svZ_snd hv, h1⟩, fun u hu => ?_⟩
      rcases List.mem_cons.1 hu with rfl | hu
      · exact svZ_one hv
      · exact h2 u hu
    · cases h
theorem avZ_snd {m : MM} {x : AV} {v : Value} (h : avZ x = some v) : AR m x v := by
  cases x with
  | s x => exact svZ_snd h
  | pb pre n f =>
    obtain ⟨vs, h1, rfl⟩ := Option.map_eq_some_iff.1 h
    obtain ⟨h2, h3⟩ := svsZ_snd (m := m) h1
    exact ⟨_, rfl, vs, h2, h3, rfl⟩

noncomputable def rowOf1 (e : TypeId × TI) : Option (TypeDesc × Nat × Nat × Option (Option Value)) :=
  match PP.underlying e.1, PP.info? e.1 with
  | some d, some i => some (d, i.size, i.bytes, match e.2.z with | none => none | some _ => some i.zero)
  | _, _ => none
noncomputable def rowOf2 (e : TypeId × TI) : Option (TypeDesc × Nat × Nat × Option (Option Value)) :=
  some (e.2.d, e.2.size, e.2.bytes, e.2.z.map avZ)
noncomputable def shapeB (e : TypeId × TI) : Bool := match e.2.z with
  | none => true
  | some (.s x) => e.2.size == 1 && x.known && !isAggD e.2.d && (svZ x).isSome
  | some (.pb pre n _) => e.2.size == pre.length + n && pre.all SV.known && isAggD e.2.d && (svsZ pre).isSome

theorem rows_eq : tabL.map rowOf1 = tabL.map rowOf2 := by kernel_rfl
theorem shapes_ok : tabL.all shapeB = true := by kernel_rfl

theorem T_row {t : TypeId} {ti : TI} (h : T t = some ti) : rowOf1 (t, ti) = rowOf2 (t, ti) ∧ shapeB (t, ti) = true := by
  have hm : (t, ti) ∈ tabL := alGet_mem h
  exact ⟨List.map_inj_left.1 rows_eq _ hm, List.all_eq_true.1 shapes_ok _ hm⟩

theorem tokP : TOK PP T where
  und := fun t ti h => by
    have := (T_row h).1
    unfold rowOf1 rowOf2 at this
    split at this
    · rename_i d i h1 h2
      simp only [Option.some.injEq, Prod.mk.injEq] at this
      rw [← this.1]; exact h1
    · cases this
  info := fun t ti h => by
    obtain ⟨h0, hs⟩ := T_row h
    unfold rowOf1 rowOf2 at h0
    split at h0
    · rename_i d i h1 h2
      simp only [Option.some.injEq, Prod.mk.injEq] at h0
      refine ⟨i, h2, h0.2.1, h0.2.2.1, fun z hz => ?_⟩
      have h3 := h0.2.2.2
      rw [hz] at h3
      simp only [Option.map_some, Option.some.injEq] at h3
      cases ha : avZ z with
      | none =>
        exfalso
        unfold shapeB at hs
        rw [hz] at hs
        cases z with
        | s x => simp only [avZ] at ha; simp [ha] at hs
        | pb pre n f =>
          simp only [avZ, Option.map_eq_none_iff] at ha
          simp [ha] at hs
      | some v => exact ⟨v, by rw [h3, ha], fun m => avZ_snd ha⟩
    · cases h0
  shape := fun t ti z h hz => by
    have hs := (T_row h).2
    unfold shapeB at hs
    rw [hz] at hs
    cases z with
    | s x =>
      simp only [Bool.and_eq_true, beq_iff_eq, Bool.not_eq_true'] at hs
      exact ⟨hs.1.1.1, hs.1.1.2, hs.1.2⟩
    | pb pre n f =>
      simp only [Bool.and_eq_true, beq_iff_eq] at hs
      exact ⟨hs.1.1.1, hs.1.1.2, hs.1.2⟩

/-! ### what is compared -/

theorem eqB_iff : ∀ (n : Nat) (f g : Nat → Bool), eqB n f g = true ↔ ∀ i, i < n → f i = g i
  | 0, f, g => by simp [eqB]
  | n + 1, f, g => by
    simp only [eqB, Bool.and_eq_true, eqB_iff n, beq_iff_eq]
    constructor
    · rintro ⟨h1, h2⟩ i hi
      rcases Nat.lt_succ_iff_lt_or_eq.1 hi with h | rfl
      · exact h1 i h
      · exact h2
    · exact fun h => ⟨fun i hi => h i (by omega), h n (by omega)⟩

theorem lits_iff (n : Nat) (f g : Nat → Bool) : (List.range n).map (fun i => Lit.bool (f i)) = (List.range n).map (fun i => Lit.bool (g i)) ↔ eqB n f g = true := by
  rw [eqB_iff, List.map_inj_left]
  simp

theorem eq_bools {t : TypeId} {n m : Nat} (hk : PP.keyTypeAt m t = true) (hm : m ≤ 100) (hf : ∀ f, (Value.agg (bcells n f).toArray).formed PP t = true) (hl : ∀ f, PP.keyLits m t (bcells n f) = some ((List.range n).map fun i => Lit.bool (f i))) (f g : Nat → Bool) (w : World) :
    (Op.equal t (.agg (bcells n f).toArray) (.agg (bcells n g).toArray)).run PP w = .ok (eqB n f g) w := by
  have := run_equalIn_deep (P := PP) (10000 - m) m t hk w m m _ _ _ _ (hf f) (hf g) (by simpa [Value.cells] using hl f) (by simpa [Value.cells] using hl g)
  rw [show 10000 - m + m = 10000 by omega] at this
  obtain ⟨r, h1, h2⟩ := this
  rw [lits_iff] at h2
  have e : r = eqB n f g := by
    cases r <;> cases hh : eqB n f g <;> simp [hh] at h2 <;> rfl
  rw [← e]
  exact h1

theorem und3 : PP.underlying 3 = some (.int .i64) := by kernel_rfl
theorem plain3 : PP.plainKey 3 = true := by kernel_rfl
theorem und38 : PP.underlying 38 = some (.array 2 3) := by kernel_rfl
theorem und77 : PP.underlying 77 = some (.struct (PP.fieldsOf 77)) := by kernel_rfl
theorem und108 : PP.underlying 108 = some (.struct (PP.fieldsOf 108)) := by kernel_rfl

theorem run_sizeOf3 (w : World) : (sizeOf 3).run PP w = .ok 1 w := by
  obtain ⟨i, h1, h2, _⟩ := tokP.info 3 ⟨.int .i64, 1, 8, some (.s (.int .i64 0))⟩ (by kernel_rfl)
  simp [sizeOf, typeInfo, run_program, h1, h2]

theorem part3 {xs : Array Value} {off : Nat} {v : Value} (w : World) (hx : xs[off]? = some v) : (part 3 xs off).run PP w = .ok v w := run_part_plain w plain3 hx

theorem eqI3 (d : Nat) (a b : Int) (w : World) : (Op.equalIn (d + 1) 3 (.int .i64 a) (.int .i64 b)).run PP w = .ok (a == b) w := run_equalIn_int w d 3 .i64 .i64 a b und3

theorem eq38 (a b c d : Int) (w : World) : (Op.equal 38 (.agg #[.int .i64 a, .int .i64 b]) (.agg #[.int .i64 c, .int .i64 d])).run PP w = .ok ((a == c) && (b == d)) w := by
  unfold Op.equal Op.maxDepth
  rw [show (10000 : Nat) = 9999 + 1 from rfl, Op.equalIn]
  simp only [Sem.run_bind, run_underlying und38, Result.andThen_ok, run_sizeOf3]
  simp only [Std.Legacy.Range.forIn_eq_forIn_range', Std.Legacy.Range.size, Nat.sub_zero, Nat.add_sub_cancel, Nat.div_one, List.range'_succ, List.range'_zero, List.forIn_cons, List.forIn_nil]
  simp only [Sem.run_bind, part3 w (xs := #[.int .i64 a, .int .i64 b]) (off := 0 * 1) (v := .int .i64 a) rfl, part3 w (xs := #[.int .i64 c, .int .i64 d]) (off := 0 * 1) (v := .int .i64 c) rfl, Result.andThen_ok,
    show (9999 : Nat) = 9998 + 1 from rfl, eqI3]
  by_cases h1 : a = c
  · simp only [h1, beq_self_eq_true, Bool.not_true, Bool.false_eq_true, if_false, Sem.run_bind, Sem.run_pure, Result.andThen_ok, Bool.true_and,
      part3 w (xs := #[.int .i64 c, .int .i64 b]) (off := (0 + 1) * 1) (v := .int .i64 b) rfl, part3 w (xs := #[.int .i64 c, .int .i64 d]) (off := (0 + 1) * 1) (v := .int .i64 d) rfl, eqI3]
    by_cases h2 : b = d <;> simp [h2]
  · simp [h1]

theorem eqStruct {t : TypeId} (hu : PP.underlying t = some (.struct (PP.fieldsOf t))) (hs : PP.stoodInHeld t = false) {n1 n2 : Field} (hf : (PP.fieldsOf t).toList = [n1, n2]) (h1 : n1.name ≠ "_" ∧ n1.type = 3 ∧ n1.offset = 0) (h2 : n2.name ≠ "_" ∧ n2.type = 3 ∧ n2.offset = 1)
    (a b c d : Int) (w : World) : (Op.equal t (.agg #[.int .i64 a, .int .i64 b]) (.agg #[.int .i64 c, .int .i64 d])).run PP w = .ok ((a == c) && (b == d)) w := by
  unfold Op.equal Op.maxDepth
  rw [show (10000 : Nat) = 9999 + 1 from rfl, run_equalIn_struct w 9999 t _ _ hu hs, hf]
  simp only [Op.eqFields, h1.1, h2.1, ne_eq, not_false_eq_true, if_true, h1.2.1, h1.2.2, h2.2.1, h2.2.2, Sem.run_bind, part3 w (xs := #[.int .i64 a, .int .i64 b]) (off := 0) (v := .int .i64 a) rfl, part3 w (xs := #[.int .i64 c, .int .i64 d]) (off := 0) (v := .int .i64 c) rfl, Result.andThen_ok,
    show (9999 : Nat) = 9998 + 1 from rfl, eqI3]
  by_cases h3 : a = c
  · simp only [h3, beq_self_eq_true, Bool.not_true, Bool.false_eq_true, if_false, Sem.run_bind, Sem.run_pure, Result.andThen_ok, Bool.true_and,
      part3 w (xs := #[.int .i64 c, .int .i64 b]) (off := 1) (v := .int .i64 b) rfl, part3 w (xs := #[.int .i64 c, .int .i64 d]) (off := 1) (v := .int .i64 d) rfl, eqI3]
    by_cases h4 : b = d <;> simp [h4]
  · simp [h3]

theorem key3 (e : Bool) (n : Nat) (a : Int) (w : World) : (Instr.checkKey e (n + 1) 3 (.int .i64 a)).run PP w = .ok () w := by
  simp [Instr.checkKey, run_underlying und3]

theorem key38 (e : Bool) (a b : Int) (w : World) : (Instr.checkKey e 10000 38 (.agg #[.int .i64 a, .int .i64 b])).run PP w = .ok () w := by
  rw [show (10000 : Nat) = 9999 + 1 from rfl, Instr.checkKey]
  simp only [Sem.run_bind, run_underlying und38, Result.andThen_ok, run_sizeOf3]
  simp only [Std.Legacy.Range.forIn_eq_forIn_range', Std.Legacy.Range.size, Nat.sub_zero, Nat.add_sub_cancel, Nat.div_one, List.range'_succ, List.range'_zero, List.forIn_cons, List.forIn_nil]
  simp only [Sem.run_bind, run_sizeOf3, Result.andThen_ok, Sem.run_pure, part3 w (xs := #[.int .i64 a, .int .i64 b]) (off := 0 * 1) (v := .int .i64 a) rfl, part3 w (xs := #[.int .i64 a, .int .i64 b]) (off := (0 + 1) * 1) (v := .int .i64 b) rfl,
    show (9999 : Nat) = 9998 + 1 from rfl, key3]

theorem keyStruct {t : TypeId} (hu : PP.underlying t = some (.struct (PP.fieldsOf t))) {n1 n2 : Field} (hf : (PP.fieldsOf t).toList = [n1, n2]) (h1 : n1.name ≠ "_" ∧ n1.type = 3 ∧ n1.offset = 0) (h2 : n2.name ≠ "_" ∧ n2.type = 3 ∧ n2.offset = 1)
    (e : Bool) (a b : Int) (w : World) : (Instr.checkKey e 10000 t (.agg #[.int .i64 a, .int .i64 b])).run PP w = .ok () w := by
  rw [show (10000 : Nat) = 9999 + 1 from rfl, Instr.checkKey]
  simp only [Sem.run_bind, run_underlying hu, Result.andThen_ok]
  rw [← Array.forIn_toList, hf]
  simp only [List.forIn_cons, List.forIn_nil, h1.1, h2.1, ne_eq, not_false_eq_true, if_true, h1.2.1, h1.2.2, h2.2.1, h2.2.2]
  simp only [Sem.run_bind, Result.andThen_ok, Sem.run_pure, part3 w (xs := #[.int .i64 a, .int .i64 b]) (off := 0) (v := .int .i64 a) rfl, part3 w (xs := #[.int .i64 a, .int .i64 b]) (off := 1) (v := .int .i64 b) rfl,
    show (9999 : Nat) = 9998 + 1 from rfl, key3]

theorem key_bools {t : TypeId} {n m : Nat} (hk : PP.keyTypeAt m t = true) (hm : m ≤ 100) (hf : ∀ f, (Value.agg (bcells n f).toArray).formed PP t = true) (hl : ∀ f, PP.keyLits m t (bcells n f) = some ((List.range n).map fun i => Lit.bool (f i))) (e : Bool) (f : Nat → Bool) (w : World) :
    (Instr.checkKey e 10000 t (.agg (bcells n f).toArray)).run PP w = .ok () w := by
  have := run_checkKey_deep (P := PP) e (10000 - m) m t hk w m _ _ (hf f) (by simpa [Value.cells] using hl f)
  rwa [show 10000 - m + m = 10000 by omega] at this

theorem two {a : List Int} (h : a.length = 2) : ∃ x y, a = [x, y] := by
  match a, h with
  | [x, y], _ => exact ⟨x, y, rfl⟩

theorem eqTab_cases {t p n : Nat} (h : alGet eqTab t = some (p, n)) : (t = 38 ∧ p = 2 ∧ n = 0) ∨ (t = 77 ∧ p = 2 ∧ n = 0) ∨ (t = 108 ∧ p = 2 ∧ n = 0) ∨ (t = 70 ∧ p = 0 ∧ n = 49) ∨ (t = 95 ∧ p = 0 ∧ n = 64) := by
  have hm := alGet_mem h
  simp only [eqTab, List.mem_cons, Prod.mk.injEq, List.mem_nil_iff, or_false] at hm
  rcases hm with h | h | h | h | h
  · exact .inl h
  · exact .inr (.inl h)
  · exact .inr (.inr (.inl h))
  · exact .inr (.inr (.inr (.inl h)))
  · exact .inr (.inr (.inr (.inr h)))

theorem beq_two (x y z u : Int) : ([x, y] == [z, u]) = ((x == z) && (y == u)) := by
  show (x == z && (y == u && true)) = _
  simp

def f77a : Field := ⟨"a", 3, 0, false, "", "girouette/orders", 0⟩
def f77b : Field := ⟨"b", 3, 1, false, "", "girouette/orders", 8⟩
def f108a : Field := ⟨"small", 3, 0, false, "", "girouette/shells", 0⟩
def f108b : Field := ⟨"great", 3, 1, false, "", "girouette/shells", 8⟩
theorem fs77 : (PP.fieldsOf 77).toList = [f77a, f77b] := by kernel_rfl
theorem fs108 : (PP.fieldsOf 108).toList = [f108a, f108b] := by kernel_rfl
theorem nm (f : Field) (h : (f.name == "_") = false) : f.name ≠ "_" := fun e => by rw [e] at h; exact absurd h (by decide)

theorem formed70 (f : Nat → Bool) : (Value.agg (bcells 49 f).toArray).formed PP 70 = true := by kernel_rfl
theorem formed95 (f : Nat → Bool) : (Value.agg (bcells 64 f).toArray).formed PP 95 = true := by kernel_rfl
theorem lits70 (f : Nat → Bool) : PP.keyLits 5 70 (bcells 49 f) = some ((List.range 49).map fun i => Lit.bool (f i)) := by kernel_rfl
theorem lits95 (f : Nat → Bool) : PP.keyLits 5 95 (bcells 64 f) = some ((List.range 64).map fun i => Lit.bool (f i)) := by kernel_rfl
theorem kt70 : PP.keyTypeAt 5 70 = true := by kernel_rfl
theorem kt95 : PP.keyTypeAt 5 95 = true := by kernel_rfl
theorem st77 : PP.stoodInHeld 77 = false := by kernel_rfl
theorem st108 : PP.stoodInHeld 108 = false := by kernel_rfl
theorem g38 : PP.eqGuardType PP.depth 38 = false := by kernel_rfl
theorem g77 : PP.eqGuardType PP.depth 77 = false := by kernel_rfl
theorem g108 : PP.eqGuardType PP.depth 108 = false := by kernel_rfl
theorem g70 : PP.eqGuardType PP.depth 70 = false := by kernel_rfl
theorem g95 : PP.eqGuardType PP.depth 95 = false := by kernel_rfl
theorem und70 : PP.underlying 70 = some (.array 7 68) := by kernel_rfl
theorem und95 : PP.underlying 95 = some (.array 64 4) := by kernel_rfl

theorem eqokP : EQOK PP where
  guard := fun t p n h => by
    rcases eqTab_cases h with ⟨rfl, _⟩ | ⟨rfl, _⟩ | ⟨rfl, _⟩ | ⟨rfl, _⟩ | ⟨rfl, _⟩
    · exact g38
    · exact g77
    · exact g108
    · exact g70
    · exact g95
  eq := fun t p n h a b f g w ha hb => by
    rcases eqTab_cases h with ⟨rfl, rfl, rfl⟩ | ⟨rfl, rfl, rfl⟩ | ⟨rfl, rfl, rfl⟩ | ⟨rfl, rfl, rfl⟩ | ⟨rfl, rfl, rfl⟩
    · obtain ⟨x, y, rfl⟩ := two ha
      obtain ⟨z, u, rfl⟩ := two hb
      rw [beq_two]
      simpa [bcells, eqB] using eq38 x y z u w
    · obtain ⟨x, y, rfl⟩ := two ha
      obtain ⟨z, u, rfl⟩ := two hb
      rw [beq_two]
      simpa [bcells, eqB] using eqStruct und77 st77 fs77 ⟨nm _ (by decide), rfl, rfl⟩ ⟨nm _ (by decide), rfl, rfl⟩ x y z u w
    · obtain ⟨x, y, rfl⟩ := two ha
      obtain ⟨z, u, rfl⟩ := two hb
      rw [beq_two]
      simpa [bcells, eqB] using eqStruct und108 st108 fs108 ⟨nm _ (by decide), rfl, rfl⟩ ⟨nm _ (by decide), rfl, rfl⟩ x y z u w
    · have ha' : a = [] := List.eq_nil_of_length_eq_zero ha
      have hb' : b = [] := List.eq_nil_of_length_eq_zero hb
      subst ha' hb'
      have := eq_bools (m := 5) kt70 (by omega) formed70 lits70 f g w
      simpa using this
    · have ha' : a = [] := List.eq_nil_of_length_eq_zero ha
      have hb' : b = [] := List.eq_nil_of_length_eq_zero hb
      subst ha' hb'
      have := eq_bools (m := 5) kt95 (by omega) formed95 lits95 f g w
      simpa using this
  key := fun t p n h e a f w ha => by
    rcases eqTab_cases h with ⟨rfl, rfl, rfl⟩ | ⟨rfl, rfl, rfl⟩ | ⟨rfl, rfl, rfl⟩ | ⟨rfl, rfl, rfl⟩ | ⟨rfl, rfl, rfl⟩
    · obtain ⟨x, y, rfl⟩ := two ha
      simpa [bcells] using key38 e x y w
    · obtain ⟨x, y, rfl⟩ := two ha
      simpa [bcells] using keyStruct und77 fs77 ⟨nm _ (by decide), rfl, rfl⟩ ⟨nm _ (by decide), rfl, rfl⟩ e x y w
    · obtain ⟨x, y, rfl⟩ := two ha
      simpa [bcells] using keyStruct und108 fs108 ⟨nm _ (by decide), rfl, rfl⟩ ⟨nm _ (by decide), rfl, rfl⟩ e x y w
    · have ha' : a = [] := List.eq_nil_of_length_eq_zero ha
      subst ha'
      have := key_bools (m := 5) kt70 (by omega) formed70 lits70 e f w
      simpa using this
    · have ha' : a = [] := List.eq_nil_of_length_eq_zero ha
      subst ha'
      have := key_bools (m := 5) kt95 (by omega) formed95 lits95 e f w
      simpa using this
  und := fun t p n h => by
    rcases eqTab_cases h with ⟨rfl, _⟩ | ⟨rfl, _⟩ | ⟨rfl, _⟩ | ⟨rfl, _⟩ | ⟨rfl, _⟩
    · exact ⟨_, und38, rfl⟩
    · exact ⟨_, und77, rfl⟩
    · exact ⟨_, und108, rfl⟩
    · exact ⟨_, und70, rfl⟩
    · exact ⟨_, und95, rfl⟩

theorem mixP : PP.follows .mixedOrders = true := by kernel_rfl

end Go.Proofs.Yteekkjfjpoaihaa.Eng

/- A part of the proof of topChains_holds. -/
import Derived.DeepKeys3
import Derived.Laws.StructEq
import Derived.Test.YteekkjfjpoaihaaOt05
set_option linter.all false
namespace Go.Proofs.Yteekkjfjpoaihaa.Eng
open Go Go.Proofs
noncomputable abbrev PP : Program := Try.prog
/-- a plain zero, as a value -/
def svZ : SV → Option Value
  | .int k n => some (.int k n)
  | .bool b => some (.bool b)
  | .nilp => some (.pointer none)
  | .nils => some (.slice none 0 0)
  | .nilm => some (.map none)
  | .nilf => some .nilFunc
  | _ => none
def svsZ : List SV → Option (List Value)
  | [] => some []
  | x :: r => match svZ x, svsZ r with
    | some v, some l => some (v :: l)
    | _, _ => none
def avZ : AV → Option Value
  | .s x => svZ x
  | .pb pre n f => (svsZ pre).map fun vs => .agg (vs ++ bcells n f).toArray
theorem svZ_snd {m : MM} {x : SV} {v : Value} (h : svZ x = some v) : SR m x v := by
  cases x <;> simp only [svZ, Option.some.injEq, reduceCtorEq] at h <;> subst h <;> rfl
theorem svZ_one {x : SV} {v : Value} (h : svZ x = some v) : v.oneCell' = true := by
  cases x <;> simp only [svZ, Option.some.injEq, reduceCtorEq] at h <;> subst h <;> rfl
theorem svsZ_snd {m : MM} : ∀ {l : List SV} {vs : List Value}, svsZ l = some vs → All2 (SR m) l vs ∧ ∀ v ∈ vs, Value.oneCell' v = true
  | [], vs, h => by simp [svsZ] at h; subst h; exact ⟨trivial, fun _ h => by cases h⟩
  | x :: l, vs, h => by
    simp only [svsZ] at h
    split at h
    · rename_i v r hv hr
      cases h
      obtain ⟨h1, h2⟩ := svsZ_snd (m := m) hr
      refine ⟨⟨svZ_snd hv, h1⟩, fun u hu => ?_⟩
      rcases List.mem_cons.1 hu with rfl | hu
      · exact svZ_one hv
      · exact h2 u hu
    · cases h
theorem avZ_snd {m : MM} {x : AV} {v : Value} (h : avZ x = some v) : AR m x v := by
  cases x with
  | s x => exact svZ_snd h
  | pb pre n f =>
    obtain ⟨vs, h1, rfl⟩ := Option.map_eq_some_iff.1 h
    obtain ⟨h2, h3⟩ := svsZ_snd (m := m) h1
    exact ⟨_, rfl, vs, h2, h3, rfl⟩
noncomputable def rowOf1 (e : TypeId × TI) : Option (TypeDesc × Nat × Nat × Option (Option Value)) :=
  match PP.underlying e.1, PP.info? e.1 with
  | some d, some i => some (d, i.size, i.bytes, match e.2.z with | none => none | some _ => some i.zero)
  | _, _ => none
noncomputable def rowOf2 (e : TypeId × TI) : Option (TypeDesc × Nat × Nat × Option (Option Value)) :=
  some (e.2.d, e.2.size, e.2.bytes, e.2.z.map avZ)
noncomputable def shapeB (e : TypeId × TI) : Bool := match e.2.z with
  | none => true
  | some (.s x) => e.2.size == 1 && x.known && !isAggD e.2.d && (svZ x).isSome
  | some (.pb pre n _) => e.2.size == pre.length + n && pre.all SV.known && isAggD e.2.d && (svsZ pre).isSome
theorem rows_eq : tabL.map rowOf1 = tabL.map rowOf2 := by kernel_rfl
theorem shapes_ok : tabL.all shapeB = true := by kernel_rfl
theorem T_row {t : TypeId} {ti : TI} (h : T t = some ti) : rowOf1 (t, ti) = rowOf2 (t, ti) ∧ shapeB (t, ti) = true := by
  have hm : (t, ti) ∈ tabL := alGet_mem h
  exact ⟨List.map_inj_left.1 rows_eq _ hm, List.all_eq_true.1 shapes_ok _ hm⟩
theorem tokP : TOK PP T where
  und := fun t ti h => by
    have := (T_row h).1
    unfold rowOf1 rowOf2 at this
    split at this
    · rename_i d i h1 h2
      simp only [Option.some.injEq, Prod.mk.injEq] at this
      rw [← this.1]; exact h1
    · cases this
  info := fun t ti h => by
    obtain ⟨h0, hs⟩ := T_row h
    unfold rowOf1 rowOf2 at h0
    split at h0
    · rename_i d i h1 h2
      simp only [Option.some.injEq, Prod.mk.injEq] at h0
      refine ⟨i, h2, h0.2.1, h0.2.2.1, fun z hz => ?_⟩
      have h3 := h0.2.2.2
      rw [hz] at h3
      simp only [Option.map_some, Option.some.injEq] at h3
      cases ha : avZ z with
      | none =>
        exfalso
        unfold shapeB at hs
        rw [hz] at hs
        cases z with
        | s x => simp only [avZ] at ha; simp [ha] at hs
        | pb pre n f =>
          simp only [avZ, Option.map_eq_none_iff] at ha
          simp [ha] at hs
      | some v => exact ⟨v, by rw [h3, ha], fun m => avZ_snd ha⟩
    · cases h0
  shape := fun t ti z h hz => by
    have hs := (T_row h).2
    unfold shapeB at hs
    rw [hz] at hs
    cases z with
    | s x =>
      simp only [Bool.and_eq_true, beq_iff_eq, Bool.not_eq_true'] at hs
      exact ⟨hs.1.1.1, hs.1.1.2, hs.1.2⟩
    | pb pre n f =>
      simp only [Bool.and_eq_true, beq_iff_eq] at hs
      exact ⟨hs.1.1.1, hs.1.1.2, hs.1.2⟩
theorem eqB_iff : ∀ (n : Nat) (f g : Nat → Bool), eqB n f g = true ↔ ∀ i, i < n → f i = g i
  | 0, f, g => by simp [eqB]
  | n + 1, f, g => by
    simp only [eqB, Bool.and_eq_true, eqB_iff n, beq_iff_eq]
    constructor
    · rintro ⟨h1, h2⟩ i hi
      rcases Nat.lt_succ_iff_lt_or_eq.1 hi with h | rfl
      · exact h1 i h
      · exact h2
    · exact fun h => ⟨fun i hi => h i (by omega), h n (by omega)⟩
theorem lits_iff (n : Nat) (f g : Nat → Bool) : (List.range n).map (fun i => Lit.bool (f i)) = (List.range n).map (fun i => Lit.bool (g i)) ↔ eqB n f g = true := by
  rw [eqB_iff, List.map_inj_left]
  simp
theorem eq_bools {t : TypeId} {n m : Nat} (hk : PP.keyTypeAt m t = true) (hm : m ≤ 100) (hf : ∀ f, (Value.agg (bcells n f).toArray).formed PP t = true) (hl : ∀ f, PP.keyLits m t (bcells n f) = some ((List.range n).map fun i => Lit.bool (f i))) (f g : Nat → Bool) (w : World) :
    (Op.equal t (.agg (bcells n f).toArray) (.agg (bcells n g).toArray)).run PP w = .ok (eqB n f g) w := by
  have := run_equalIn_deep (P := PP) (10000 - m) m t hk w m m _ _ _ _ (hf f) (hf g) (by simpa [Value.cells] using hl f) (by simpa [Value.cells] using hl g)
  rw [show 10000 - m + m = 10000 by omega] at this
  obtain ⟨r, h1, h2⟩ := this
  rw [lits_iff] at h2
  have e : r = eqB n f g := by
    cases r <;> cases hh : eqB n f g <;> simp [hh] at h2 <;> rfl
  rw [← e]
  exact h1
theorem und3 : PP.underlying 3 = some (.int .i64) := by kernel_rfl
theorem plain3 : PP.plainKey 3 = true := by kernel_rfl
theorem und38 : PP.underlying 38 = some (.array 2 3) := by kernel_rfl
theorem und77 : PP.underlying 77 = some (.struct (PP.fieldsOf 77)) := by kernel_rfl
theorem und108 : PP.underlying 108 = some (.struct (PP.fieldsOf 108)) := by kernel_rfl
theorem run_sizeOf3 (w : World) : (sizeOf 3).run PP w = .ok 1 w := by
  obtain ⟨i, h1, h2, _⟩ := tokP.info 3 ⟨.int .i64, 1, 8, some (.s (.int .i64 0))⟩ (by kernel_rfl)
  simp [sizeOf, typeInfo, run_program, h1, h2]
theorem part3 {xs : Array Value} {off : Nat} {v : Value} (w : World) (hx : xs[off]? = some v) : (part 3 xs off).run PP w = .ok v w := run_part_plain w plain3 hx
theorem eqI3 (d : Nat) (a b : Int) (w : World) : (Op.equalIn (d + 1) 3 (.int .i64 a) (.int .i64 b)).run PP w = .ok (a == b) w := run_equalIn_int w d 3 .i64 .i64 a b und3
theorem eq38 (a b c d : Int) (w : World) : (Op.equal 38 (.agg #[.int .i64 a, .int .i64 b]) (.agg #[.int .i64 c, .int .i64 d])).run PP w = .ok ((a == c) && (b == d)) w := by
  unfold Op.equal Op.maxDepth
  rw [show (10000 : Nat) = 9999 + 1 from rfl, Op.equalIn]
  simp only [Sem.run_bind, run_underlying und38, Result.andThen_ok, run_sizeOf3]
  simp only [Std.Legacy.Range.forIn_eq_forIn_range', Std.Legacy.Range.size, Nat.sub_zero, Nat.add_sub_cancel, Nat.div_one, List.range'_succ, List.range'_zero, List.forIn_cons, List.forIn_nil]
  simp only [Sem.run_bind, part3 w (xs := #[.int .i64 a, .int .i64 b]) (off := 0 * 1) (v := .int .i64 a) rfl, part3 w (xs := #[.int .i64 c, .int .i64 d]) (off := 0 * 1) (v := .int .i64 c) rfl, Result.andThen_ok,
    show (9999 : Nat) = 9998 + 1 from rfl, eqI3]
  by_cases h1 : a = c
  · simp only [h1, beq_self_eq_true, Bool.not_true, Bool.false_eq_true, if_false, Sem.run_bind, Sem.run_pure, Result.andThen_ok, Bool.true_and,
      part3 w (xs := #[.int .i64 c, .int .i64 b]) (off := (0 + 1) * 1) (v := .int .i64 b) rfl, part3 w (xs := #[.int .i64 c, .int .i64 d]) (off := (0 + 1) * 1) (v := .int .i64 d) rfl, eqI3]
    by_cases h2 : b = d <;> simp [h2]
  · simp [h1]
theorem eqStruct {t : TypeId} (hu : PP.underlying t = some (.struct (PP.fieldsOf t))) (hs : PP.stoodInHeld t = false) {n1 n2 : Field} (hf : (PP.fieldsOf t).toList = [n1, n2]) (h1 : n1.name ≠ "_" ∧ n1.type = 3 ∧ n1.offset = 0) (h2 : n2.name ≠ "_" ∧ n2.type = 3 ∧ n2.offset = 1)
    (a b c d : Int) (w : World) : (Op.equal t (.agg #[.int .i64 a, .int .i64 b]) (.agg #[.int .i64 c, .int .i64 d])).run PP w = .ok ((a == c) && (b == d)) w := by
  unfold Op.equal Op.maxDepth
  rw [show (10000 : Nat) = 9999 + 1 from rfl, run_equalIn_struct w 9999 t _ _ hu hs, hf]
  simp only [Op.eqFields, h1.1, h2.1, ne_eq, not_false_eq_true, if_true, h1.2.1, h1.2.2, h2.2.1, h2.2.2, Sem.run_bind, part3 w (xs := #[.int .i64 a, .int .i64 b]) (off := 0) (v := .int .i64 a) rfl, part3 w (xs := #[.int .i64 c, .int .i64 d]) (off := 0) (v := .int .i64 c) rfl, Result.andThen_ok,
    show (9999 : Nat) = 9998 + 1 from rfl, eqI3]
  by_cases h3 : a = c
  · simp only [h3, beq_self_eq_true, Bool.not_true, Bool.false_eq_true, if_false, Sem.run_bind, Sem.run_pure, Result.andThen_ok, Bool.true_and,
      part3 w (xs := #[.int .i64 c, .int .i64 b]) (off := 1) (v := .int .i64 b) rfl, part3 w (xs := #[.int .i64 c, .int .i64 d]) (off := 1) (v := .int .i64 d) rfl, eqI3]
    by_cases h4 : b = d <;> simp [h4]
  · simp [h3]
theorem key3 (e : Bool) (n : Nat) (a : Int) (w : World) : (Instr.checkKey e (n + 1) 3 (.int .i64 a)).run PP w = .ok () w := by
  simp [Instr.checkKey, run_underlying und3]
theorem key38 (e : Bool) (a b : Int) (w : World) : (Instr.checkKey e 10000 38 (.agg #[.int .i64 a, .int .i64 b])).run PP w = .ok () w := by
  rw [show (10000 : Nat) = 9999 + 1 from rfl, Instr.checkKey]
  simp only [Sem.run_bind, run_underlying und38, Result.andThen_ok, run_sizeOf3]
  simp only [Std.Legacy.Range.forIn_eq_forIn_range', Std.Legacy.Range.size, Nat.sub_zero, Nat.add_sub_cancel, Nat.div_one, List.range'_succ, List.range'_zero, List.forIn_cons, List.forIn_nil]
  simp only [Sem.run_bind, run_sizeOf3, Result.andThen_ok, Sem.run_pure, part3 w (xs := #[.int .i64 a, .int .i64 b]) (off := 0 * 1) (v := .int .i64 a) rfl, part3 w (xs := #[.int .i64 a, .int .i64 b]) (off := (0 + 1) * 1) (v := .int .i64 b) rfl,
    show (9999 : Nat) = 9998 + 1 from rfl, key3]
theorem keyStruct {t : TypeId} (hu : PP.underlying t = some (.struct (PP.fieldsOf t))) {n1 n2 : Field} (hf : (PP.fieldsOf t).toList = [n1, n2]) (h1 : n1.name ≠ "_" ∧ n1.type = 3 ∧ n1.offset = 0) (h2 : n2.name ≠ "_" ∧ n2.type = 3 ∧ n2.offset = 1)
    (e : Bool) (a b : Int) (w : World) : (Instr.checkKey e 10000 t (.agg #[.int .i64 a, .int .i64 b])).run PP w = .ok () w := by
  rw [show (10000 : Nat) = 9999 + 1 from rfl, Instr.checkKey]
  simp only [Sem.run_bind, run_underlying hu, Result.andThen_ok]
  rw [← Array.forIn_toList, hf]
  simp only [List.forIn_cons, List.forIn_nil, h1.1, h2.1, ne_eq, not_false_eq_true, if_true, h1.2.1, h1.2.2, h2.2.1, h2.2.2]
  simp only [Sem.run_bind, Result.andThen_ok, Sem.run_pure, part3 w (xs := #[.int .i64 a, .int .i64 b]) (off := 0) (v := .int .i64 a) rfl, part3 w (xs := #[.int .i64 a, .int .i64 b]) (off := 1) (v := .int .i64 b) rfl,
    show (9999 : Nat) = 9998 + 1 from rfl, key3]
theorem key_bools {t : TypeId} {n m : Nat} (hk : PP.keyTypeAt m t = true) (hm : m ≤ 100) (hf : ∀ f, (Value.agg (bcells n f).toArray).formed PP t = true) (hl : ∀ f, PP.keyLits m t (bcells n f) = some ((List.range n).map fun i => Lit.bool (f i))) (e : Bool) (f : Nat → Bool) (w : World) :
    (Instr.checkKey e 10000 t (.agg (bcells n f).toArray)).run PP w = .ok () w := by
  have := run_checkKey_deep (P := PP) e (10000 - m) m t hk w m _ _ (hf f) (by simpa [Value.cells] using hl f)
  rwa [show 10000 - m + m = 10000 by omega] at this
theorem two {a : List Int} (h : a.length = 2) : ∃ x y, a = [x, y] := by
  match a, h with
  | [x, y], _ => exact ⟨x, y, rfl⟩
theorem eqTab_cases {t p n : Nat} (h : alGet eqTab t = some (p, n)) : (t = 38 ∧ p = 2 ∧ n = 0) ∨ (t = 77 ∧ p = 2 ∧ n = 0) ∨ (t = 108 ∧ p = 2 ∧ n = 0) ∨ (t = 70 ∧ p = 0 ∧ n = 49) ∨ (t = 95 ∧ p = 0 ∧ n = 64) := by
  have hm := alGet_mem h
  simp only [eqTab, List.mem_cons, Prod.mk.injEq, List.mem_nil_iff, or_false] at hm
  rcases hm with h | h | h | h | h
  · exact .inl h
  · exact .inr (.inl h)
  · exact .inr (.inr (.inl h))
  · exact .inr (.inr (.inr (.inl h)))
  · exact .inr (.inr (.inr (.inr h)))
theorem beq_two (x y z u : Int) : ([x, y] == [z, u]) = ((x == z) && (y == u)) := by
  show (x == z && (y == u && true)) = _
  simp
def f77a : Field := ⟨"a", 3, 0, false, "", "girouette/orders", 0⟩
def f77b : Field := ⟨"b", 3, 1, false, "", "girouette/orders", 8⟩
def f108a : Field := ⟨"small", 3, 0, false, "", "girouette/shells", 0⟩
def f108b : Field := ⟨"great", 3, 1, false, "", "girouette/shells", 8⟩
theorem fs77 : (PP.fieldsOf 77).toList = [f77a, f77b] := by kernel_rfl
theorem fs108 : (PP.fieldsOf 108).toList = [f108a, f108b] := by kernel_rfl
theorem nm (f : Field) (h : (f.name == "_") = false) : f.name ≠ "_" := fun e => by rw [e] at h; exact absurd h (by decide)
theorem formed70 (f : Nat → Bool) : (Value.agg (bcells 49 f).toArray).formed PP 70 = true := by kernel_rfl
theorem formed95 (f : Nat → Bool) : (Value.agg (bcells 64 f).toArray).formed PP 95 = true := by kernel_rfl
theorem lits70 (f : Nat → Bool) : PP.keyLits 5 70 (bcells 49 f) = some ((List.range 49).map fun i => Lit.bool (f i)) := by kernel_rfl
theorem lits95 (f : Nat → Bool) : PP.keyLits 5 95 (bcells 64 f) = some ((List.range 64).map fun i => Lit.bool (f i)) := by kernel_rfl
theorem kt70 : PP.keyTypeAt 5 70 = true := by kernel_rfl
theorem kt95 : PP.keyTypeAt 5 95 = true := by kernel_rfl
theorem st77 : PP.stoodInHeld 77 = false := by kernel_rfl
theorem st108 : PP.stoodInHeld 108 = false := by kernel_rfl
theorem g38 : PP.eqGuardType PP.depth 38 = false := by kernel_rfl
theorem g77 : PP.eqGuardType PP.depth 77 = false := by kernel_rfl
theorem g108 : PP.eqGuardType PP.depth 108 = false := by kernel_rfl
theorem g70 : PP.eqGuardType PP.depth 70 = false := by kernel_rfl
theorem g95 : PP.eqGuardType PP.depth 95 = false := by kernel_rfl
theorem und70 : PP.underlying 70 = some (.array 7 68) := by kernel_rfl
theorem und95 : PP.underlying 95 = some (.array 64 4) := by kernel_rfl
theorem eqokP : EQOK PP where
  guard := fun t p n h => by
    rcases eqTab_cases h with ⟨rfl, _⟩ | ⟨rfl, _⟩ | ⟨rfl, _⟩ | ⟨rfl, _⟩ | ⟨rfl, _⟩
    · exact g38
    · exact g77
    · exact g108
    · exact g70
    · exact g95
  eq := fun t p n h a b f g w ha hb => by
    rcases eqTab_cases h with ⟨rfl, rfl, rfl⟩ | ⟨rfl, rfl, rfl⟩ | ⟨rfl, rfl, rfl⟩ | ⟨rfl, rfl, rfl⟩ | ⟨rfl, rfl, rfl⟩
    · obtain ⟨x, y, rfl⟩ := two ha
      obtain ⟨z, u, rfl⟩ := two hb
      rw [beq_two]
      simpa [bcells, eqB] using eq38 x y z u w
    · obtain ⟨x, y, rfl⟩ := two ha
      obtain ⟨z, u, rfl⟩ := two hb
      rw [beq_two]
      simpa [bcells, eqB] using eqStruct und77 st77 fs77 ⟨nm _ (by decide), rfl, rfl⟩ ⟨nm _ (by decide), rfl, rfl⟩ x y z u w
    · obtain ⟨x, y, rfl⟩ := two ha
      obtain ⟨z, u, rfl⟩ := two hb
      rw [beq_two]
      simpa [bcells, eqB] using eqStruct und108 st108 fs108 ⟨nm _ (by decide), rfl, rfl⟩ ⟨nm _ (by decide), rfl, rfl⟩ x y z u w
    · have ha' : a = [] := List.eq_nil_of_length_eq_zero ha
      have hb' : b = [] := List.eq_nil_of_length_eq_zero hb
      subst ha' hb'
      have := eq_bools (m := 5) kt70 (by omega) formed70 lits70 f g w
      simpa using this
    · have ha' : a = [] := List.eq_nil_of_length_eq_zero ha
      have hb' : b = [] := List.eq_nil_of_length_eq_zero hb
      subst ha' hb'
      have := eq_bools (m := 5) kt95 (by omega) formed95 lits95 f g w
      simpa using this
  key := fun t p n h e a f w ha => by
    rcases eqTab_cases h with ⟨rfl, rfl, rfl⟩ | ⟨rfl, rfl, rfl⟩ | ⟨rfl, rfl, rfl⟩ | ⟨rfl, rfl, rfl⟩ | ⟨rfl, rfl, rfl⟩
    · obtain ⟨x, y, rfl⟩ := two ha
      simpa [bcells] using key38 e x y w
    · obtain ⟨x, y, rfl⟩ := two ha
      simpa [bcells] using keyStruct und77 fs77 ⟨nm _ (by decide), rfl, rfl⟩ ⟨nm _ (by decide), rfl, rfl⟩ e x y w
    · obtain ⟨x, y, rfl⟩ := two ha
      simpa [bcells] using keyStruct und108 fs108 ⟨nm _ (by decide), rfl, rfl⟩ ⟨nm _ (by decide), rfl, rfl⟩ e x y w
    · have ha' : a = [] := List.eq_nil_of_length_eq_zero ha
      subst ha'
      have := key_bools (m := 5) kt70 (by omega) formed70 lits70 e f w
      simpa using this
    · have ha' : a = [] := List.eq_nil_of_length_eq_zero ha
      subst ha'
      have := key_bools (m := 5) kt95 (by omega) formed95 lits95 e f w
      simpa using this
  und := fun t p n h => by
    rcases eqTab_cases h with ⟨rfl, _⟩ | ⟨rfl, _⟩ | ⟨rfl, _⟩ | ⟨rfl, _⟩ | ⟨rfl, _⟩
    · exact ⟨_, und38, rfl⟩
    · exact ⟨_, und77, rfl⟩
    · exact ⟨_, und108, rfl⟩
    · exact ⟨_, und70, rfl⟩
    · exact ⟨_, und95, rfl⟩
theorem mixP : PP.follows .mixedOrders = true := by kernel_rfl
end Go.Proofs.Yteekkjfjpoaihaa.Eng
namespace Go.Proofs.Yteekkjfjpoaihaa.Eng
open Go Go.Proofs
theorem funOK {f : FuncId} {fn : Func} {x : XFn} (h1 : PP.funcs[f]? = some fn) (h2 : fn.body.isNone = false) (h3 : (fn.name == "runtime.NumGoroutine") = false) (h4 : compFn T fn = some x) : FunOK PP T f x := ⟨⟨fn, h1, h2, h3⟩, fn, h1, h4⟩
theorem o3 : FunOK PP T 3 x3 := funOK Try.func3 (by kernel_rfl) (by kernel_rfl) c3
theorem o4 : FunOK PP T 4 x4 := funOK Try.func4 (by kernel_rfl) (by kernel_rfl) c4
theorem o5 : FunOK PP T 5 x5 := funOK Try.func5 (by kernel_rfl) (by kernel_rfl) c5
theorem o12 : FunOK PP T 12 x12 := funOK Try.func12 (by kernel_rfl) (by kernel_rfl) c12
theorem o13 : FunOK PP T 13 x13 := funOK Try.func13 (by kernel_rfl) (by kernel_rfl) c13
theorem o15 : FunOK PP T 15 x15 := funOK Try.func15 (by kernel_rfl) (by kernel_rfl) c15
theorem o16 : FunOK PP T 16 x16 := funOK Try.func16 (by kernel_rfl) (by kernel_rfl) c16
theorem o17 : FunOK PP T 17 x17 := funOK Try.func17 (by kernel_rfl) (by kernel_rfl) c17
theorem o18 : FunOK PP T 18 x18 := funOK Try.func18 (by kernel_rfl) (by kernel_rfl) c18
theorem o19 : FunOK PP T 19 x19 := funOK Try.func19 (by kernel_rfl) (by kernel_rfl) c19
theorem o20 : FunOK PP T 20 x20 := funOK Try.func20 (by kernel_rfl) (by kernel_rfl) c20
theorem o21 : FunOK PP T 21 x21 := funOK Try.func21 (by kernel_rfl) (by kernel_rfl) c21
theorem o22 : FunOK PP T 22 x22 := funOK Try.func22 (by kernel_rfl) (by kernel_rfl) c22
theorem o23 : FunOK PP T 23 x23 := funOK Try.func23 (by kernel_rfl) (by kernel_rfl) c23
theorem o24 : FunOK PP T 24 x24 := funOK Try.func24 (by kernel_rfl) (by kernel_rfl) c24
theorem o25 : FunOK PP T 25 x25 := funOK Try.func25 (by kernel_rfl) (by kernel_rfl) c25
theorem o26 : FunOK PP T 26 x26 := funOK Try.func26 (by kernel_rfl) (by kernel_rfl) c26
theorem o27 : FunOK PP T 27 x27 := funOK Try.func27 (by kernel_rfl) (by kernel_rfl) c27
theorem o48 : FunOK PP T 48 x48 := funOK Try.func48 (by kernel_rfl) (by kernel_rfl) c48
theorem o51 : FunOK PP T 51 x51 := funOK Try.func51 (by kernel_rfl) (by kernel_rfl) c51
theorem o56 : FunOK PP T 56 x56 := funOK Try.func56 (by kernel_rfl) (by kernel_rfl) c56
theorem o59 : FunOK PP T 59 x59 := funOK Try.func59 (by kernel_rfl) (by kernel_rfl) c59
theorem o60 : FunOK PP T 60 x60 := funOK Try.func60 (by kernel_rfl) (by kernel_rfl) c60
theorem o61 : FunOK PP T 61 x61 := funOK Try.func61 (by kernel_rfl) (by kernel_rfl) c61
theorem o62 : FunOK PP T 62 x62 := funOK Try.func62 (by kernel_rfl) (by kernel_rfl) c62
theorem o63 : FunOK PP T 63 x63 := funOK Try.func63 (by kernel_rfl) (by kernel_rfl) c63
theorem o64 : FunOK PP T 64 x64 := funOK Try.func64 (by kernel_rfl) (by kernel_rfl) c64
theorem o65 : FunOK PP T 65 x65 := funOK Try.func65 (by kernel_rfl) (by kernel_rfl) c65
theorem o66 : FunOK PP T 66 x66 := funOK Try.func66 (by kernel_rfl) (by kernel_rfl) c66
theorem o67 : FunOK PP T 67 x67 := funOK Try.func67 (by kernel_rfl) (by kernel_rfl) c67
theorem o68 : FunOK PP T 68 x68 := funOK Try.func68 (by kernel_rfl) (by kernel_rfl) c68
theorem o69 : FunOK PP T 69 x69 := funOK Try.func69 (by kernel_rfl) (by kernel_rfl) c69
theorem o70 : FunOK PP T 70 x70 := funOK Try.func70 (by kernel_rfl) (by kernel_rfl) c70
theorem o71 : FunOK PP T 71 x71 := funOK Try.func71 (by kernel_rfl) (by kernel_rfl) c71
theorem o72 : FunOK PP T 72 x72 := funOK Try.func72 (by kernel_rfl) (by kernel_rfl) c72
theorem o73 : FunOK PP T 73 x73 := funOK Try.func73 (by kernel_rfl) (by kernel_rfl) c73
theorem o74 : FunOK PP T 74 x74 := funOK Try.func74 (by kernel_rfl) (by kernel_rfl) c74
theorem o75 : FunOK PP T 75 x75 := funOK Try.func75 (by kernel_rfl) (by kernel_rfl) c75
theorem o76 : FunOK PP T 76 x76 := funOK Try.func76 (by kernel_rfl) (by kernel_rfl) c76
theorem o77 : FunOK PP T 77 x77 := funOK Try.func77 (by kernel_rfl) (by kernel_rfl) c77
theorem o78 : FunOK PP T 78 x78 := funOK Try.func78 (by kernel_rfl) (by kernel_rfl) c78
theorem o79 : FunOK PP T 79 x79 := funOK Try.func79 (by kernel_rfl) (by kernel_rfl) c79
theorem o93 : FunOK PP T 93 x93 := funOK Try.func93 (by kernel_rfl) (by kernel_rfl) c93
theorem o95 : FunOK PP T 95 x95 := funOK Try.func95 (by kernel_rfl) (by kernel_rfl) c95
theorem o96 : FunOK PP T 96 x96 := funOK Try.func96 (by kernel_rfl) (by kernel_rfl) c96
theorem o97 : FunOK PP T 97 x97 := funOK Try.func97 (by kernel_rfl) (by kernel_rfl) c97
theorem o98 : FunOK PP T 98 x98 := funOK Try.func98 (by kernel_rfl) (by kernel_rfl) c98
theorem o99 : FunOK PP T 99 x99 := funOK Try.func99 (by kernel_rfl) (by kernel_rfl) c99
theorem o100 : FunOK PP T 100 x100 := funOK Try.func100 (by kernel_rfl) (by kernel_rfl) c100
theorem o101 : FunOK PP T 101 x101 := funOK Try.func101 (by kernel_rfl) (by kernel_rfl) c101
theorem o102 : FunOK PP T 102 x102 := funOK Try.func102 (by kernel_rfl) (by kernel_rfl) c102
theorem o103 : FunOK PP T 103 x103 := funOK Try.func103 (by kernel_rfl) (by kernel_rfl) c103
theorem o104 : FunOK PP T 104 x104 := funOK Try.func104 (by kernel_rfl) (by kernel_rfl) c104
theorem o105 : FunOK PP T 105 x105 := funOK Try.func105 (by kernel_rfl) (by kernel_rfl) c105
theorem o106 : FunOK PP T 106 x106 := funOK Try.func106 (by kernel_rfl) (by kernel_rfl) c106
theorem o107 : FunOK PP T 107 x107 := funOK Try.func107 (by kernel_rfl) (by kernel_rfl) c107
theorem o112 : FunOK PP T 112 x112 := funOK Try.func112 (by kernel_rfl) (by kernel_rfl) c112
theorem o114 : FunOK PP T 114 x114 := funOK Try.func114 (by kernel_rfl) (by kernel_rfl) c114
theorem o115 : FunOK PP T 115 x115 := funOK Try.func115 (by kernel_rfl) (by kernel_rfl) c115
theorem o116 : FunOK PP T 116 x116 := funOK Try.func116 (by kernel_rfl) (by kernel_rfl) c116
theorem o117 : FunOK PP T 117 x117 := funOK Try.func117 (by kernel_rfl) (by kernel_rfl) c117
theorem o118 : FunOK PP T 118 x118 := funOK Try.func118 (by kernel_rfl) (by kernel_rfl) c118
theorem o119 : FunOK PP T 119 x119 := funOK Try.func119 (by kernel_rfl) (by kernel_rfl) c119
theorem o122 : FunOK PP T 122 x122 := funOK Try.func122 (by kernel_rfl) (by kernel_rfl) c122
theorem o124 : FunOK PP T 124 x124 := funOK Try.func124 (by kernel_rfl) (by kernel_rfl) c124
theorem o125 : FunOK PP T 125 x125 := funOK Try.func125 (by kernel_rfl) (by kernel_rfl) c125
theorem fl_nil : ∀ p ∈ ([] : List (Nat × XFn)), FunOK PP T p.1 p.2 := fun _ h => by cases h
theorem fl_cons {f : Nat} {x : XFn} {l : List (Nat × XFn)} (h : FunOK PP T f x) (hl : ∀ p ∈ l, FunOK PP T p.1 p.2) : ∀ p ∈ (f, x) :: l, FunOK PP T p.1 p.2 := fun p hp => by
  rcases List.mem_cons.1 hp with rfl | hp
  · exact h
  · exact hl p hp
theorem FL_ok : ∀ p ∈ FL, FunOK PP T p.1 p.2 := by
  unfold FL
  refine fl_cons o19 ?_
  refine fl_cons o23 ?_
  refine fl_cons o24 ?_
  refine fl_cons o25 ?_
  refine fl_cons o26 ?_
  refine fl_cons o27 ?_
  refine fl_cons o51 ?_
  refine fl_cons o59 ?_
  refine fl_cons o62 ?_
  refine fl_cons o63 ?_
  refine fl_cons o64 ?_
  refine fl_cons o65 ?_
  refine fl_cons o66 ?_
  refine fl_cons o69 ?_
  refine fl_cons o70 ?_
  refine fl_cons o71 ?_
  refine fl_cons o72 ?_
  refine fl_cons o73 ?_
  refine fl_cons o74 ?_
  refine fl_cons o75 ?_
  refine fl_cons o76 ?_
  refine fl_cons o77 ?_
  refine fl_cons o93 ?_
  refine fl_cons o95 ?_
  refine fl_cons o96 ?_
  refine fl_cons o98 ?_
  refine fl_cons o99 ?_
  refine fl_cons o100 ?_
  refine fl_cons o101 ?_
  refine fl_cons o102 ?_
  refine fl_cons o103 ?_
  refine fl_cons o104 ?_
  refine fl_cons o105 ?_
  refine fl_cons o106 ?_
  refine fl_cons o107 ?_
  refine fl_cons o112 ?_
  refine fl_cons o114 ?_
  refine fl_cons o115 ?_
  refine fl_cons o116 ?_
  refine fl_cons o117 ?_
  refine fl_cons o118 ?_
  refine fl_cons o119 ?_
  refine fl_cons o122 ?_
  refine fl_cons o124 ?_
  refine fl_cons o125 ?_
  exact fl_nil
theorem F_ok (f : FuncId) (x : XFn) (h : F f = some x) : FunOK PP T f x := by
  unfold F at h
  have := FL_ok (f, x) (alGet_mem h)
  exact this
end Go.Proofs.Yteekkjfjpoaihaa.Eng
namespace Go.Proofs.Yteekkjfjpoaihaa.Eng
open Go Go.Proofs
def XC.a : XC → XC | .seq a _ => a | .cond _ a _ => a | c => c
def XC.b : XC → XC | .seq _ b => b | .cond _ _ b => b | c => c
def XC.i : XC → XC | .block _ b => b | .loop b => b | .scope b => b | c => c
/-- what is owed -/
def obOf (q : Option (Bool × XE × St × List Bool)) : Bool := match q with
  | some (ob, _) => ob
  | none => false
noncomputable def vw (ts ids : List Nat) (q : Option (Bool × XE × St × List Bool)) : Option (XE × List (Option Slot) × List (Option HO) × List Nat) :=
  q.map fun q => (q.2.1, ts.map q.2.2.1.sl.get, ids.map q.2.2.1.hp.get, q.2.2.1.df)
section
variable {P : Program} {T : Tab} {r : Option Nat} {Γ : Cal → Option Spec} {nt kp : Nat}
theorem exec_orun (hE : EnvOK P T Γ) (inr : Bool) (k : Nat) (os : List Bool) (ids : List Nat) (hr : inr = false → r = none) {c : XC} {S : St} {e : XE} {ts : List (Nat × Slot)} {hs : List HO} {nx : Nat} {df : List Nat}
    (hv : vw (ts.map (·.1)) ids (orun Γ inr k c S os) = some (e, ts.map (fun p => some ⟨p.2.c, p.2.v.ren fun j => ids.getD j 0⟩), hs.map (fun h => some (h.ren fun j => ids.getD j 0)), df.map fun j => ids.getD j 0))
    (hok : mkOk ts hs ids kp = true) (hdl : df.all (fun j => Nat.blt j hs.length) = true) (hob : obOf (orun Γ inr k c S os) = true) : Exec P T r nt kp c S e (mkSt ts hs nx df) := by
  refine exec_view hE hr (k := k) (os := os) (ids := ids) (ob := obOf (orun Γ inr k c S os)) ?_ hob hok hdl
  unfold vw at hv
  unfold view
  cases ho : orun Γ inr k c S os with
  | none => rw [ho] at hv; cases hv
  | some q =>
    rw [ho] at hv
    simp only [Option.map_some, Option.some.injEq, Prod.mk.injEq] at hv ⊢
    exact ⟨rfl, hv⟩
theorem loopx_up {X : St → XE → St → Prop} (S : Nat → St) (n : Nat) {e : XE} {S' : St} (h : ∀ i, i < n → X (S i) .n (S (i + 1))) (hl : X (S n) e S') (he : e ≠ .n) : ∀ i, i ≤ n → ∃ j, LoopX X j (S i) e S' := by
  have key : ∀ d i, i + d = n → ∃ j, LoopX X j (S i) e S' := by
    intro d
    induction d with
    | zero => intro i hi; rw [Nat.add_zero] at hi; subst hi; exact ⟨0, .done hl he⟩
    | succ d ih =>
      intro i hi
      obtain ⟨j, hj⟩ := ih (i + 1) (by omega)
      exact ⟨j + 1, .step (h i (by omega)) hj⟩
  exact fun i hi => key (n - i) i (by omega)
theorem exec_loop_up {x : XC} (S : Nat → St) (n : Nat) {e : XE} {S' : St} (h : ∀ i, i < n → Exec P T r nt kp x (S i) .n (S (i + 1))) (hl : Exec P T r nt kp x (S n) e S') (he : e ≠ .n) (i : Nat) (hi : i ≤ n) : Exec P T r nt kp (.loop x) (S i) e S' := by
  obtain ⟨j, hj⟩ := loopx_up (X := Exec P T r nt kp x) S n h hl he i hi
  exact exec_loop hj
/-- a function that hands back plain values -/
theorem shown_val {x : XFn} {m0 : MM} {hs : List HO} {args0 : List AV} {vals : List Value} {w : World} {val : TV} {base : Nat} {ts : List (Nat × Slot)} {ex : XE} (hview : RoView (compC T) m0 hs w) (hargs : All2 (AR m0) args0 vals) (hlen : Nat.ble args0.length x.nt = true)
    (hrun : Exec P T none x.nt 0 x.body (startSt args0 hs) ex (mkSt ts [] 0 [])) (hex : ex ≠ .n → ex = .r) (hres : resV (mkSt ts [] 0 []).sl.get (mkSt ts [] 0 []).hp.get x.res = some (true, val)) (hids : val.ids = []) : Shown P T x m0 hs args0 vals w val [] base where
  view := hview
  args := hargs
  len := Nat.le_of_ble_eq_true hlen
  run := ⟨mkSt ts [] 0 [], ex, val, [], hrun, by by_cases h : ex = .n; exact .inl h; exact .inr (hex h), rfl, hres, rfl, fun j hj => (by rw [hids] at hj; cases hj), (TV.ren_id fun j hj => (by rw [hids] at hj; cases hj)).symm, rfl, fun k id h => (by simp at h)⟩
end
/-- a function that reads only, by what it answers: the conditions, the answer, what it looks at -/
def pureS (g : List AV → (Nat → Option HO) → Option (Bool × TV × List Nat)) : Spec where
  run := fun args h _ => match g args h with
    | some (vc, v, rd) => some ⟨vc, v, [], [], some rd⟩
    | none => none
/-- .. hangs on what it looks at -/
def PureFp (g : List AV → (Nat → Option HO) → Option (Bool × TV × List Nat)) : Prop := ∀ args h h' q, g args h = some q → (∀ id ∈ q.2.2, h' id = h id) → g args h' = some q
theorem pureS_fp {g : List AV → (Nat → Option HO) → Option (Bool × TV × List Nat)} (hg : PureFp g) : SpecFp (pureS g) := by
  intro args h h' base e hr hf
  simp only [pureS] at hr ⊢
  split at hr
  · rename_i vc v rd hq
    cases hr
    have := hg _ _ h' _ hq hf
    simp only [this]
  · cases hr
theorem spec_pure {P : Program} {T : Tab} (hT : TOK P T) {f : FuncId} {x : XFn} (hx : FunOK P T f x) {g : List AV → (Nat → Option HO) → Option (Bool × TV × List Nat)}
    (h : ∀ (ctx : Ctx) (m : MM) (h : Nat → Option HO) (w : World) (args : List AV) (vals : List Value) (v : TV) (rd : List Nat) (base : Nat), HRel (compC T) ctx m h w → All2 (AR m) args vals → g args h = some (true, v, rd) →
      ∃ m0 hs args0, Shown P T x m0 hs args0 vals w v [] base) : SpecOK P (compC T) f (pureS g) := by
  refine spec_gen hT hx fun ctx m hh w args vals base e hH hargs hr hvc => ?_
  simp only [pureS] at hr
  split at hr
  · rename_i vc v rd hq
    cases hr
    simp only at hvc
    subst hvc
    exact ⟨rfl, h ctx m hh w args vals v rd base hH hargs hq⟩
  · cases hr
/-- no calls -/
def g0 : Cal → Option Spec := fun _ => none
theorem env0 : EnvOK PP T g0 := ⟨tokP, eqokP, ⟨fun _ _ h => (by cases h), fun _ _ h => (by cases h)⟩, fun _ _ h => (by cases h), fun _ _ h => (by cases h), mixP⟩
def L78 : XC := x78.body.b.a.b.i.i
abbrev H78 (q : List Int) (a b : Int) : List HO := [⟨true, .xvec .i64 2 q⟩, ⟨false, .row 38 [.int .i64 a, .int .i64 b] 0 ff⟩]
abbrev S78 (q : List Int) (n : Nat) (a b : Int) (i : Nat) : St := mkSt [(0, ⟨true, .av (.s (.sl 0 0 2 n))⟩), (3, ⟨true, .av (.s (.ptr 1 0 0))⟩), (5, ⟨true, I i⟩)] (H78 q a b) 2 []
abbrev R78 (v : Bool) : St := mkSt [(4, ⟨true, B v⟩)] [] 0 []
def pairAt (q : List Int) (i : Nat) (a b : Int) : Bool := q.getD (2 * i) 0 == a && q.getD (2 * i + 1) 0 == b
theorem e78a {q : List Int} {n : Nat} {a b : Int} {i : Nat} (hq : q.length = n * 2) (hi : i < n) (hn : n ≤ 1000000000) (hp : pairAt q i a b = false) : Exec PP T none x78.nt 0 L78 (S78 q n a b i) .n (S78 q n a b (i + 1)) := by
  refine exec_orun env0 false 60 [true, false] [0, 1] (fun _ => rfl) (by kernel_rfl) (by kernel_rfl) (by kernel_rfl) ?_
  rw [(show obOf (orun g0 false 60 L78 (S78 q n a b i) [true, false]) = (decide (Int.ofNat i < Int.ofNat n) && true &&
  (decide (0 ≤ Int.ofNat i) && decide (Int.ofNat i < Int.ofNat n) &&
          (decide (((0 + (0 + i) * 2).add 0).succ.succ ≤ q.length) && (decide (0 = 0) && true)) &&
        true &&
      (!false != ([q.getD (0 + (0 + i) * 2 + 0) 0, q.getD ((0 + (0 + i) * 2).add 0).succ 0] == [a, b] && true) &&
        true) &&
    (rng64 (Int.ofNat i.succ) && true))) from by kernel_rfl)]
  unfold pairAt at hp
  have e1 : (0 + (0 + i) * 2 + 0) = 2 * i := by omega
  have e2 : ((0 + (0 + i) * 2).add 0).succ = 2 * i + 1 := by simp; omega
  rw [e1, e2, beq_two, hp]
  simp [rng64_eq]
  omega
theorem e78b {q : List Int} {n : Nat} {a b : Int} {i : Nat} (hq : q.length = n * 2) (hi : i < n) (hp : pairAt q i a b = true) : Exec PP T none x78.nt 0 L78 (S78 q n a b i) .r (R78 true) := by
  refine exec_orun env0 false 60 [true, true] [] (fun _ => rfl) (by kernel_rfl) (by kernel_rfl) (by kernel_rfl) ?_
  rw [(show obOf (orun g0 false 60 L78 (S78 q n a b i) [true, true]) = (decide (Int.ofNat i < Int.ofNat n) && true &&
  (decide (0 ≤ Int.ofNat i) && decide (Int.ofNat i < Int.ofNat n) &&
        (decide (((0 + (0 + i) * 2).add 0).succ.succ ≤ q.length) && (decide (0 = 0) && true)) &&
      true &&
    (false != ([q.getD (0 + (0 + i) * 2 + 0) 0, q.getD ((0 + (0 + i) * 2).add 0).succ 0] == [a, b] && true) && true))) from by kernel_rfl)]
  unfold pairAt at hp
  have e1 : (0 + (0 + i) * 2 + 0) = 2 * i := by omega
  have e2 : ((0 + (0 + i) * 2).add 0).succ = 2 * i + 1 := by simp; omega
  rw [e1, e2, beq_two, hp]
  simp
  omega
theorem e78c {q : List Int} {n : Nat} {a b : Int} : Exec PP T none x78.nt 0 L78 (S78 q n a b n) (.x 0) (S78 q n a b n) := by
  refine exec_orun env0 false 60 [false] [0, 1] (fun _ => rfl) (by kernel_rfl) (by kernel_rfl) (by kernel_rfl) ?_
  rw [(show obOf (orun g0 false 60 L78 (S78 q n a b n) [false]) = (!decide (Int.ofNat n < Int.ofNat n) && true) from by kernel_rfl)]
  simp
/-- whether a list of pairs has a pair -/
def hasP (q : List Int) (n : Nat) (a b : Int) : Bool := (List.range n).any fun i => pairAt q i a b
abbrev A78 (n : Nat) (a b : Int) : List AV := [.s (.sl 0 0 2 n), .pb [.int .i64 a, .int .i64 b] 0 ff]
abbrev V78 (q : List Int) : List HO := [⟨true, .xvec .i64 2 q⟩]
abbrev M78 (q : List Int) (n : Nat) (a b : Int) : St := mkSt [(0, ⟨true, .av (.s (.sl 0 0 2 n))⟩), (3, ⟨true, .av (.s (.ptr 1 0 0))⟩)] (H78 q a b) 2 []
theorem x78a {q : List Int} {n : Nat} {a b : Int} : Exec PP T none x78.nt 0 x78.body.a (startSt (A78 n a b) (V78 q)) .n (M78 q n a b) := by
  refine exec_orun env0 false 60 [] [0, 1] (fun _ => rfl) (by kernel_rfl) (by kernel_rfl) (by kernel_rfl) (by kernel_rfl)
theorem x78b {q : List Int} {n : Nat} {a b : Int} : Exec PP T none x78.nt 0 x78.body.b.a.a (M78 q n a b) .n (S78 q n a b 0) := by
  refine exec_orun env0 false 60 [] [0, 1] (fun _ => rfl) (by kernel_rfl) (by kernel_rfl) (by kernel_rfl) (by kernel_rfl)
theorem x78c {q : List Int} {n : Nat} {a b : Int} : Exec PP T none x78.nt 0 x78.body.b.b (S78 q n a b n) .r (R78 false) := by
  refine exec_orun env0 false 60 [] [] (fun _ => rfl) (by kernel_rfl) (by kernel_rfl) (by kernel_rfl) (by kernel_rfl)
theorem any_first (f : Nat → Bool) (n : Nat) (h : (List.range n).any f = true) : ∃ p, p < n ∧ f p = true ∧ ∀ i, i < p → f i = false := by
  rw [List.any_eq_true] at h
  obtain ⟨x, hx, hf⟩ := h
  rw [List.mem_range] at hx
  induction x using Nat.strongRecOn with
  | _ x ih =>
    by_cases hc : ∃ i, i < x ∧ f i = true
    · obtain ⟨i, h1, h2⟩ := hc
      exact ih i h1 (by omega) h2
    · refine ⟨x, hx, hf, fun i hi => ?_⟩
      cases hh : f i with
      | false => rfl
      | true => exact absurd ⟨i, hi, hh⟩ hc
theorem any_none (f : Nat → Bool) (n : Nat) (h : (List.range n).any f = false) : ∀ i, i < n → f i = false := by
  intro i hi
  cases hh : f i with
  | false => rfl
  | true =>
    have : (List.range n).any f = true := List.any_eq_true.2 ⟨i, List.mem_range.2 hi, hh⟩
    rw [h] at this; cases this
theorem body78 {q : List Int} {n : Nat} {a b : Int} (hq : q.length = n * 2) (hn : n ≤ 1000000000) : Exec PP T none x78.nt 0 x78.body (startSt (A78 n a b) (V78 q)) .r (R78 (hasP q n a b)) := by
  refine exec_seq (x := x78.body.a) (y := x78.body.b) x78a ?_
  cases hh : hasP q n a b with
  | true =>
    obtain ⟨p, h1, h2, h3⟩ := any_first _ _ hh
    refine exec_seq_x (x := x78.body.b.a) (y := x78.body.b.b) (exec_seq (x := x78.body.b.a.a) (y := .block 0 (.loop L78)) x78b (exec_block (e := .r) (exec_loop_up (S78 q n a b) p (fun i hi => e78a hq (by omega) hn (h3 i hi)) (e78b hq h1 h2) (by simp) 0 (by omega)))) (by simp)
  | false =>
    have h3 := any_none _ _ hh
    exact exec_seq (x := x78.body.b.a) (y := x78.body.b.b) (exec_seq (x := x78.body.b.a.a) (y := .block 0 (.loop L78)) x78b (exec_block (e := .x 0) (exec_loop_up (S78 q n a b) n (fun i hi => e78a hq hi hn (h3 i hi)) e78c (by simp) 0 (by omega)))) x78c
def gHas (args : List AV) (h : Nat → Option HO) : Option (Bool × TV × List Nat) := match args with
  | [s, .pb [.int .i64 a, .int .i64 b] 0 _] => match srcOf (.av s) h .i64 2 with
    | some (vc, q, n, rd) => some (vc && bndL n, B (hasP q n a b), rd)
    | none => none
  | _ => none
theorem gHas_fp : PureFp gHas := by
  intro args h h' q hg hf
  unfold gHas at hg ⊢
  split at hg
  · split at hg
    · rename_i hs
      cases hg
      rw [srcOf_fp hs hf]
    · cases hg
  · cases hg
/-- one slice that is read, as the small heap -/
def mm1 (mb : MB) : MM := fun j => bif Nat.beq j 0 then some mb else none
theorem ro1 {cmp : Cmp} {w : World} {mb : MB} {o : AO} (h1 : ∀ m', OR cmp m' mb o w) (h2 : ∀ b, mb.b = some b → b < w.heap.size) : RoView cmp (mm1 mb) [⟨true, o⟩] w := by
  refine ⟨fun j ho hj => ?_, fun j hj => ?_⟩
  · cases j with
    | zero => simp only [List.getElem?_cons_zero, Option.some.injEq] at hj; subst hj; exact ⟨rfl, mb, rfl, h1 _, h2⟩
    | succ j => simp at hj
  · simp at hj
    show (bif Nat.beq j 0 then some mb else none) = none
    rw [beqF (by omega)]; rfl
theorem ok78 : SpecOK PP (compC T) 78 (pureS gHas) := by
  refine spec_pure tokP o78 fun ctx m h w args vals v rd base hH hargs hg => ?_
  unfold gHas at hg
  split at hg
  · rename_i s a b f
    split at hg
    · rename_i vc q n rd' hs
      simp only [Option.some.injEq, Prod.mk.injEq, Bool.and_eq_true] at hg
      obtain ⟨⟨hvc, hn⟩, rfl, rfl⟩ := hg
      match vals, hargs with
      | [v1, v2], ⟨ha1, ha2, _⟩ =>
        subst hvc
        obtain ⟨mb, k1, k2, k3, k4⟩ := view_slice hH ha1 hs
        refine ⟨mm1 mb, [⟨true, .xvec .i64 2 q⟩], A78 n a b, shown_val (ts := [(4, ⟨true, B (hasP q n a b)⟩)]) (ro1 k1 k2) ⟨k3 (mm1 mb) 0 rfl, ?_, trivial⟩ (by kernel_rfl) (body78 k4 (by simpa [bndL] using hn)) (fun _ => rfl) (by kernel_rfl) (by kernel_rfl)⟩
        obtain ⟨cs, e1, vs, e2, e3, e4⟩ := ha2
        refine ⟨cs, e1, vs, ?_, e3, by simpa [bcells] using e4⟩
        match vs, e2 with
        | [u1, u2], ⟨p1, p2, _⟩ => exact ⟨p1, p2, trivial⟩
    · cases hg
  · cases hg
end Go.Proofs.Yteekkjfjpoaihaa.Eng
namespace Go.Proofs.Yteekkjfjpoaihaa.Eng
open Go Go.Proofs
def lessP (a0 a1 b0 b1 : Int) : Bool := bif decide (a0 < b0) then true else bif (a0 == b0) then decide (a1 < b1) else false
def emV : MM := fun _ => none
theorem ro0 {cmp : Cmp} {w : World} : RoView cmp emV [] w := ⟨fun j ho hj => by simp at hj, fun _ _ => rfl⟩
abbrev A79 (a0 a1 b0 b1 : Int) : List AV := [.pb [.int .i64 a0, .int .i64 a1] 0 ff, .pb [.int .i64 b0, .int .i64 b1] 0 ff]
theorem body79 {a0 a1 b0 b1 : Int} : Exec PP T none x79.nt 0 x79.body (startSt (A79 a0 a1 b0 b1) []) .r (R78 (lessP a0 a1 b0 b1)) := by
  refine exec_orun env0 false 60 [] [] (fun _ => rfl) (by kernel_rfl) (by kernel_rfl) (by kernel_rfl) ?_
  rw [(show obOf (orun g0 false 60 x79.body (startSt (A79 a0 a1 b0 b1) []) []) = (decide (0 ≤ 0) && decide (0 < 2) &&
    (decide (0 ≤ 0) && decide (0 < 2) &&
      ((!decide (a0 < b0) == false || decide (0 ≤ 0) && decide (0 < 2)) &&
        ((!decide (a0 < b0) == false || decide (a0 < b0) == false && true && true) &&
          ((!decide (a0 < b0) == false || decide (0 ≤ 0) && decide (0 < 2)) &&
            ((!decide (a0 < b0) == false || decide (a0 < b0) == false && true && true) &&
              ((!decide (a0 < b0) == false ||
                  decide (a0 < b0) == false && (decide (a0 < b0) == false && true) && true) &&
                ((!decide (a0 < b0) == false || decide (a0 < b0) == false && true && true) &&
                  ((!(decide (a0 < b0) == false && (a0 == b0) == true) || decide (0 ≤ 1) && decide (1 < 2)) &&
                    ((!(decide (a0 < b0) == false && (a0 == b0) == true) ||
                        decide (a0 < b0) == false && (a0 == b0) == true && true && true) &&
                      ((!(decide (a0 < b0) == false && (a0 == b0) == true) || decide (0 ≤ 1) && decide (1 < 2)) &&
                        ((!(decide (a0 < b0) == false && (a0 == b0) == true) ||
                            decide (a0 < b0) == false && (a0 == b0) == true && true && true) &&
                          ((!(decide (a0 < b0) == false && (a0 == b0) == true) ||
                              decide (a0 < b0) == false && (a0 == b0) == true &&
                                  (decide (a0 < b0) == false && (a0 == b0) == true && true) &&
                                true) &&
                            ((!decide (a0 < b0) == false ||
                                (decide (a0 < b0) == false &&
                                    bif a0 == b0 then decide (a0 < b0) == false && (a0 == b0) == true else true) &&
                                  true) &&
                              ((bif decide (a0 < b0) then true else decide (a0 < b0) == false) && true &&
                                true)))))))))))))) &&
  true) from by kernel_rfl)]
  by_cases h1 : a0 < b0 <;> by_cases h2 : a0 = b0 <;> simp [h1, h2]
def gLess (args : List AV) (_ : Nat → Option HO) : Option (Bool × TV × List Nat) := match args with
  | [.pb [.int .i64 a0, .int .i64 a1] 0 _, .pb [.int .i64 b0, .int .i64 b1] 0 _] => some (true, B (lessP a0 a1 b0 b1), [])
  | _ => none
theorem gLess_fp : PureFp gLess := by
  intro args h h' q hg hf
  exact hg
theorem pb2_any {m m' : MM} {k k' : IntKind} {a b : Int} {f : Nat → Bool} {v : Value} (h : AR m (.pb [.int k a, .int k' b] 0 f) v) : AR m' (.pb [.int k a, .int k' b] 0 ff) v := by
  obtain ⟨cs, e1, vs, e2, e3, e4⟩ := h
  refine ⟨cs, e1, vs, ?_, e3, by simpa [bcells] using e4⟩
  match vs, e2 with
  | [u1, u2], ⟨p1, p2, _⟩ => exact ⟨p1, p2, trivial⟩
theorem ok79 : SpecOK PP (compC T) 79 (pureS gLess) := by
  refine spec_pure tokP o79 fun ctx m h w args vals v rd base hH hargs hg => ?_
  unfold gLess at hg
  split at hg
  · rename_i a0 a1 f1 b0 b1 f2
    simp only [Option.some.injEq, Prod.mk.injEq] at hg
    obtain ⟨_, rfl, rfl⟩ := hg
    match vals, hargs with
    | [v1, v2], ⟨ha1, ha2, _⟩ =>
      exact ⟨emV, [], A79 a0 a1 b0 b1, shown_val (ts := [(4, ⟨true, B (lessP a0 a1 b0 b1)⟩)]) ro0 ⟨pb2_any ha1, pb2_any ha2, trivial⟩ (by kernel_rfl) body79 (fun _ => rfl) (by kernel_rfl) (by kernel_rfl)⟩
  · cases hg
abbrev RB (t : Nat) (v : Bool) : St := mkSt [(t, ⟨true, B v⟩)] [] 0 []
abbrev RI (t : Nat) (v : Int) : St := mkSt [(t, ⟨true, I v⟩)] [] 0 []
theorem body122 {a : Int} : Exec PP T none x122.nt 0 x122.body (startSt [.s (.int .i64 a)] []) .r (RB 2 (a != a)) := by
  refine exec_orun env0 false 60 [] [] (fun _ => rfl) (by kernel_rfl) (by kernel_rfl) (by kernel_rfl) (by kernel_rfl)
def gNaN (args : List AV) (_ : Nat → Option HO) : Option (Bool × TV × List Nat) := match args with
  | [.s (.int .i64 a)] => some (true, B (a != a), [])
  | _ => none
theorem gNaN_fp : PureFp gNaN := by
  intro args h h' q hg hf
  exact hg
theorem ok122 : SpecOK PP (compC T) 122 (pureS gNaN) := by
  refine spec_pure tokP o122 fun ctx m h w args vals v rd base hH hargs hg => ?_
  unfold gNaN at hg
  split at hg
  · rename_i a
    simp only [Option.some.injEq, Prod.mk.injEq] at hg
    obtain ⟨_, rfl, rfl⟩ := hg
    match vals, hargs with
    | [v1], ⟨ha1, _⟩ =>
      exact ⟨emV, [], [.s (.int .i64 a)], shown_val (ts := [(2, ⟨true, B (a != a)⟩)]) ro0 ⟨ha1, trivial⟩ (by kernel_rfl) body122 (fun _ => rfl) (by kernel_rfl) (by kernel_rfl)⟩
  · cases hg
noncomputable def specsΓ (l : List (Nat × Spec)) : Cal → Option Spec
  | .f f => alGet l f
  | .y _ => none
def SpecsL (l : List (Nat × Spec)) : Prop := ∀ p ∈ l, SpecOK PP (compC T) p.1 p.2 ∧ SpecFp p.2 ∧ Bodied PP p.1
theorem specsL_nil : SpecsL [] := fun _ h => by cases h
theorem specsL_cons {f : Nat} {sp : Spec} {x : XFn} {l : List (Nat × Spec)} (h1 : SpecOK PP (compC T) f sp) (h2 : SpecFp sp) (h3 : FunOK PP T f x) (hl : SpecsL l) : SpecsL ((f, sp) :: l) := fun p hp => by
  rcases List.mem_cons.1 hp with rfl | hp
  · exact ⟨h1, h2, h3.1⟩
  · exact hl p hp
theorem envL {l : List (Nat × Spec)} (h : SpecsL l) : EnvOK PP T (specsΓ l) :=
  ⟨tokP, eqokP, ⟨fun f sp hf => (h _ (alGet_mem hf)).1, fun id sp hf => (by cases hf)⟩, fun f sp hf => (h _ (alGet_mem hf)).2.2, fun c sp hc => (by cases c with | f f => exact (h _ (alGet_mem hc)).2.1 | y id => cases hc), mixP⟩
def L1 : List (Nat × Spec) := [(122, pureS gNaN), (79, pureS gLess), (78, pureS gHas)]
theorem L1_ok : SpecsL L1 := specsL_cons ok122 (pureS_fp gNaN_fp) o122 (specsL_cons ok79 (pureS_fp gLess_fp) o79 (specsL_cons ok78 (pureS_fp gHas_fp) o78 specsL_nil))
noncomputable abbrev g1 : Cal → Option Spec := specsΓ L1
theorem env1 : EnvOK PP T g1 := envL L1_ok
def cmpI (a b : Int) : Int := bif decide (a < b) then -1 else bif decide (a > b) then 1 else 0
theorem body112 {a b : Int} : Exec PP T none x112.nt 0 x112.body (startSt [.s (.int .i64 a), .s (.int .i64 b)] []) .r (RI 4 (cmpI a b)) := by
  unfold cmpI
  cases h1 : decide (a < b) with
  | true =>
    refine exec_orun env1 false 60 [false, false, true] [] (fun _ => rfl) (by kernel_rfl) (by kernel_rfl) (by kernel_rfl) ?_
    rw [(show obOf (orun g1 false 60 x112.body (startSt [.s (.int .i64 a), .s (.int .i64 b)] []) [false, false, true]) = (!a != a && true && (!b != b && true && (decide (a < b) && true))) from by kernel_rfl)]
    simp [h1]
  | false =>
    cases h2 : decide (a > b) with
    | true =>
      refine exec_orun env1 false 60 [false, false, false, true] [] (fun _ => rfl) (by kernel_rfl) (by kernel_rfl) (by kernel_rfl) ?_
      rw [(show obOf (orun g1 false 60 x112.body (startSt [.s (.int .i64 a), .s (.int .i64 b)] []) [false, false, false, true]) = (!a != a && true && (!b != b && true && (!decide (a < b) && true && (decide (a > b) && true)))) from by kernel_rfl)]
      simp [h1, h2]
    | false =>
      refine exec_orun env1 false 60 [false, false, false, false] [] (fun _ => rfl) (by kernel_rfl) (by kernel_rfl) (by kernel_rfl) ?_
      rw [(show obOf (orun g1 false 60 x112.body (startSt [.s (.int .i64 a), .s (.int .i64 b)] []) [false, false, false, false]) = (!a != a && true && (!b != b && true && (!decide (a < b) && true && (!decide (a > b) && true && true)))) from by kernel_rfl)]
      simp [h1, h2]
end Go.Proofs.Yteekkjfjpoaihaa.Eng
namespace Go.Proofs.Yteekkjfjpoaihaa.Eng
open Go Go.Proofs
def gCmp (args : List AV) (_ : Nat → Option HO) : Option (Bool × TV × List Nat) := match args with
  | [.s (.int .i64 a), .s (.int .i64 b)] => some (true, I (cmpI a b), [])
  | _ => none
theorem gCmp_fp : PureFp gCmp := by
  intro args h h' q hg hf
  exact hg
theorem ok112 : SpecOK PP (compC T) 112 (pureS gCmp) := by
  refine spec_pure tokP o112 fun ctx m h w args vals v rd base hH hargs hg => ?_
  unfold gCmp at hg
  split at hg
  · rename_i a b
    simp only [Option.some.injEq, Prod.mk.injEq] at hg
    obtain ⟨_, rfl, rfl⟩ := hg
    match vals, hargs with
    | [v1, v2], ⟨ha1, ha2, _⟩ =>
      exact ⟨emV, [], [.s (.int .i64 a), .s (.int .i64 b)], shown_val (ts := [(4, ⟨true, I (cmpI a b)⟩)]) ro0 ⟨ha1, ha2, trivial⟩ (by kernel_rfl) body112 (fun _ => rfl) (by kernel_rfl) (by kernel_rfl)⟩
  · cases hg
/-- the ints that a view of an array shows -/
def vwOf (h : Nat → Option HO) : AV → Option (Bool × List Int × List Nat)
  | .s (.vw id off _ len) => match h id with
    | some ⟨_, .ivec _ .i64 _ l⟩ => some (decide (off + len ≤ l.length), (l.drop off).take len, [id])
    | some ⟨_, .xvec .i64 _ l⟩ => some (decide (off + len ≤ l.length), (l.drop off).take len, [id])
    | some ⟨_, .row _ pre _ _⟩ => match intsOf .i64 pre with
      | some l => some (decide (off + len ≤ l.length), (l.drop off).take len, [id])
      | none => none
    | _ => none
  | _ => none
theorem vwOf_fp {h h' : Nat → Option HO} {s : AV} {q : Bool × List Int × List Nat} (hq : vwOf h s = some q) (hf : ∀ id ∈ q.2.2, h' id = h id) : vwOf h' s = some q := by
  unfold vwOf at hq
  split at hq
  · rename_i id off sz len
    have key : h' id = h id := by
      split at hq
      · cases hq; exact hf id (by simp)
      · cases hq; exact hf id (by simp)
      · split at hq
        · cases hq; exact hf id (by simp)
        · cases hq
      · cases hq
    simp only [vwOf, key]
    exact hq
  · cases hq
theorem intsOf_all2 {m : MM} {k : IntKind} : ∀ {pre : List SV} {l : List Int} {vs : List Value}, intsOf k pre = some l → All2 (SR m) pre vs → vs = l.map (Value.int k)
  | [], l, [], h, _ => by simp [intsOf] at h; subst h; rfl
  | [], _, _ :: _, _, h => h.elim
  | _ :: _, _, [], _, h => h.elim
  | x :: pre, l, v :: vs, h, ⟨h1, h2⟩ => by
    cases x <;> simp only [intsOf, reduceCtorEq] at h
    split at h
    · rename_i k' a hk
      subst hk
      obtain ⟨r, hr, rfl⟩ := Option.map_eq_some_iff.1 h
      rw [List.map_cons, ← intsOf_all2 hr h2]
      congr 1
    · cases h
theorem view_vw {cmp : Cmp} {ctx : Ctx} {m : MM} {h : Nat → Option HO} {w : World} {id off sz len : Nat} {v : Value} {l : List Int} {rd : List Nat} (hH : HRel cmp ctx m h w) (hv : AR m (.s (.vw id off sz len)) v) (hs : vwOf h (.s (.vw id off sz len)) = some (true, l, rd)) :
    ∃ mb : MB, (∀ m', OR cmp m' mb (.xvec .i64 1 l) w) ∧ (∀ b, mb.b = some b → b < w.heap.size) ∧ (∀ (m' : MM) id, m' id = some mb → SR m' (.vw id 0 1 len) v) ∧ l.length = len := by
  obtain ⟨mb, b, c, hm, hb, rfl⟩ := hv
  have key : ∀ q : List Int, (b < w.heap.size ∧ ∀ j, j < q.length → w.cell? ⟨b, mb.base + j, none⟩ = some (.int .i64 (q.getD j 0))) → off + len ≤ q.length →
      ∃ mb' : MB, (∀ m', OR cmp m' mb' (.xvec .i64 1 ((q.drop off).take len)) w) ∧ (∀ b, mb'.b = some b → b < w.heap.size) ∧ (∀ (m' : MM) id, m' id = some mb' → SR m' (.vw id 0 1 len) (.slice (some ⟨b, mb.base + off, none⟩) len c)) ∧ ((q.drop off).take len).length = len := by
    intro q ⟨hlt, hc⟩ hle
    have hlen : ((q.drop off).take len).length = len := by rw [List.length_take, List.length_drop]; omega
    refine ⟨⟨some b, mb.base + off, 0⟩, fun m' => .inr ⟨b, rfl, fun j hj => ?_⟩, fun b' hb' => (by cases hb'; exact hlt), fun m' id hm => ⟨_, b, c, hm, rfl, rfl⟩, hlen⟩
    rw [hlen] at hj
    have := hc (off + j) (by omega)
    show w.cell? ⟨b, mb.base + off + j, none⟩ = _
    rw [show mb.base + off + j = mb.base + (off + j) by omega, this]
    congr 2
    simp only [List.getD_eq_getElem?_getD]
    rw [List.getElem?_take_of_lt hj, List.getElem?_drop]
  simp only [vwOf] at hs
  split at hs
  · rename_i ro ty szo q hid
    simp only [Option.some.injEq, Prod.mk.injEq, decide_eq_true_eq] at hs
    obtain ⟨hle, rfl, _⟩ := hs
    obtain ⟨mb', h1, h2, h3, _⟩ := hH.obj id _ hid
    rw [hm] at h1
    cases h1
    refine key q ?_ hle
    rcases h2 with ⟨h2, _⟩ | ⟨b', cur, e1, e2, e3, e4, e5, e6⟩
    · rw [hb] at h2; cases h2
    · rw [hb] at e1
      cases e1
      refine ⟨h3 rfl b hb, fun j hj => ?_⟩
      have := e6 j hj
      rw [e2, Nat.zero_add]
      simp [World.cell?, e3, this]
  · rename_i ro szo q hid
    simp only [Option.some.injEq, Prod.mk.injEq, decide_eq_true_eq] at hs
    obtain ⟨hle, rfl, _⟩ := hs
    obtain ⟨mb', h1, h2, h3, _⟩ := hH.obj id _ hid
    rw [hm] at h1
    cases h1
    refine key q ?_ hle
    rcases h2 with ⟨h2, _⟩ | ⟨b', e1, e2⟩
    · rw [hb] at h2; cases h2
    · rw [hb] at e1
      cases e1
      exact ⟨h3 rfl b hb, e2⟩
  · rename_i ro ty pre n f hid
    split at hs
    case h_2 => cases hs
    rename_i q hq
    simp only [Option.some.injEq, Prod.mk.injEq, decide_eq_true_eq] at hs
    obtain ⟨hle, rfl, _⟩ := hs
    obtain ⟨mb', h1, h2, h3, _⟩ := hH.obj id _ hid
    rw [hm] at h1
    cases h1
    refine key q ?_ hle
    obtain ⟨b', cs, e1, e2, e3, vs, e4, e5, e6⟩ := h2
    rw [hb] at e1
    cases e1
    refine ⟨h3 rfl b hb, fun j hj => ?_⟩
    rw [e2, Nat.zero_add]
    have := intsOf_all2 hq e4
    subst this
    simp only [World.cell?, e3, e6]
    rw [List.getElem?_toArray, List.getElem?_append_left (by simpa using hj)]
    simp [hj]
  · cases hs
def mm2 (a b : MB) : MM := fun j => bif Nat.beq j 0 then some a else bif Nat.beq j 1 then some b else none
theorem ro2 {cmp : Cmp} {w : World} {a b : MB} {o o' : AO} (h1 : ∀ m', OR cmp m' a o w) (h2 : ∀ x, a.b = some x → x < w.heap.size) (h3 : ∀ m', OR cmp m' b o' w) (h4 : ∀ x, b.b = some x → x < w.heap.size) : RoView cmp (mm2 a b) [⟨true, o⟩, ⟨true, o'⟩] w := by
  refine ⟨fun j ho hj => ?_, fun j hj => ?_⟩
  · match j, hj with
    | 0, hj => simp only [List.getElem?_cons_zero, Option.some.injEq] at hj; subst hj; exact ⟨rfl, a, rfl, h1 _, h2⟩
    | 1, hj => simp only [List.getElem?_cons_succ, List.getElem?_cons_zero, Option.some.injEq] at hj; subst hj; exact ⟨rfl, b, rfl, h3 _, h4⟩
    | j + 2, hj => simp at hj
  · simp at hj
    show (bif Nat.beq j 0 then some a else bif Nat.beq j 1 then some b else none) = none
    rw [beqF (by omega), beqF (by omega)]; rfl
def L2 : List (Nat × Spec) := (112, pureS gCmp) :: L1
theorem L2_ok : SpecsL L2 := specsL_cons ok112 (pureS_fp gCmp_fp) o112 L1_ok
noncomputable abbrev g2 : Cal → Option Spec := specsΓ L2
theorem env2 : EnvOK PP T g2 := envL L2_ok
def cmp2 (a0 a1 b0 b1 : Int) : Int := bif cmpI a0 b0 != 0 then cmpI a0 b0 else cmpI a1 b1
abbrev A93 : List AV := [.s (.vw 0 0 1 2), .s (.vw 1 0 1 2)]
abbrev V93 (a0 a1 b0 b1 : Int) : List HO := [⟨true, .xvec .i64 1 [a0, a1]⟩, ⟨true, .xvec .i64 1 [b0, b1]⟩]
theorem body93 {a0 a1 b0 b1 : Int} : Exec PP T none x93.nt 0 x93.body (startSt A93 (V93 a0 a1 b0 b1)) .r (RI 4 (cmp2 a0 a1 b0 b1)) := by
  unfold cmp2
  cases h1 : (cmpI a0 b0 != 0) with
  | true =>
    refine exec_orun env2 false 90 [true, false, true] [] (fun _ => rfl) (by kernel_rfl) (by kernel_rfl) (by kernel_rfl) ?_
    rw [(show obOf (orun g2 false 90 x93.body (startSt A93 (V93 a0 a1 b0 b1)) [true, false, true]) = (decide (0 < 2) && true && (decide (0 ≤ 0) && decide (0 < 2) && (decide (0 < Nat.succ 1) && true) && (!decide (0 ≥ 2) && true && (decide (0 ≤ 0) && decide (0 < 2) && (decide (0 < Nat.succ 1) && true) && (cmpI a0 b0 != 0 && true))))) from by kernel_rfl)]
    simp [rng64]
    simpa [cmpI] using h1
  | false =>
    have h1' : cmpI a0 b0 = 0 := by simpa using h1
    cases h2 : (cmpI a1 b1 != 0) with
    | true =>
      refine exec_orun env2 false 90 [true, false, false, true, false, true] [] (fun _ => rfl) (by kernel_rfl) (by kernel_rfl) (by kernel_rfl) ?_
      rw [(show obOf (orun g2 false 90 x93.body (startSt A93 (V93 a0 a1 b0 b1)) [true, false, false, true, false, true]) = (decide (0 < 2) && true && (decide (0 ≤ 0) && decide (0 < 2) && (decide (0 < Nat.succ 1) && true) && (!decide (0 ≥ 2) && true && (decide (0 ≤ 0) && decide (0 < 2) && (decide (0 < Nat.succ 1) && true) && (!cmpI a0 b0 != 0 && true))) && (rng64 1 && true)) && (decide (1 < 2) && true && (decide (0 ≤ 1) && decide (1 < 2) && (decide (1 < Nat.succ 1) && true) && (!decide (1 ≥ 2) && true && (decide (0 ≤ 1) && decide (1 < 2) && (decide (1 < Nat.succ 1) && true) && (cmpI a1 b1 != 0 && true)))))) from by kernel_rfl)]
      simp [rng64]
      exact ⟨by simpa [cmpI] using h1', by simpa [cmpI] using h2⟩
    | false =>
      have h2' : cmpI a1 b1 = 0 := by simpa using h2
      rw [h2']
      refine exec_orun env2 false 90 [true, false, false, true, false, false, false, false] [] (fun _ => rfl) (by kernel_rfl) (by kernel_rfl) (by kernel_rfl) ?_
      rw [(show obOf (orun g2 false 90 x93.body (startSt A93 (V93 a0 a1 b0 b1)) [true, false, false, true, false, false, false, false]) = (decide (0 < 2) && true && (decide (0 ≤ 0) && decide (0 < 2) && (decide (0 < Nat.succ 1) && true) && (!decide (0 ≥ 2) && true && (decide (0 ≤ 0) && decide (0 < 2) && (decide (0 < Nat.succ 1) && true) && (!cmpI a0 b0 != 0 && true))) && (rng64 1 && true)) && (decide (1 < 2) && true && (decide (0 ≤ 1) && decide (1 < 2) && (decide (1 < Nat.succ 1) && true) && (!decide (1 ≥ 2) && true && (decide (0 ≤ 1) && decide (1 < 2) && (decide (1 < Nat.succ 1) && true) && (!cmpI a1 b1 != 0 && true))) && (rng64 2 && true)) && (!decide (2 < 2) && true)) && (!decide (2 < 2) && true && true)) from by kernel_rfl)]
      simp [rng64]
      exact ⟨by simpa [cmpI] using h1', by simpa [cmpI] using h2'⟩
def gCompare (args : List AV) (h : Nat → Option HO) : Option (Bool × TV × List Nat) := match args with
  | [.s (.vw i o z 2), .s (.vw i' o' z' 2)] => match vwOf h (.s (.vw i o z 2)), vwOf h (.s (.vw i' o' z' 2)) with
    | some (c, l, r), some (c', l', r') => some (c && c', I (cmp2 (l.getD 0 0) (l.getD 1 0) (l'.getD 0 0) (l'.getD 1 0)), r ++ r')
    | _, _ => none
  | _ => none
theorem gCompare_fp : PureFp gCompare := by
  intro args h h' q hg hf
  unfold gCompare at hg ⊢
  split at hg
  · split at hg
    · rename_i h1 h2
      cases hg
      rw [vwOf_fp h1 fun id hid => hf id (List.mem_append.2 (.inl hid)), vwOf_fp h2 fun id hid => hf id (List.mem_append.2 (.inr hid))]
    · cases hg
  · cases hg
theorem ok93 : SpecOK PP (compC T) 93 (pureS gCompare) := by
  refine spec_pure tokP o93 fun ctx m h w args vals v rd base hH hargs hg => ?_
  unfold gCompare at hg
  split at hg
  · rename_i i o z i' o' z'
    split at hg
    · rename_i c l r c' l' r' h1 h2
      simp only [Option.some.injEq, Prod.mk.injEq, Bool.and_eq_true] at hg
      obtain ⟨⟨rfl, rfl⟩, rfl, rfl⟩ := hg
      match vals, hargs with
      | [v1, v2], ⟨ha1, ha2, _⟩ =>
        obtain ⟨mb, k1, k2, k3, k4⟩ := view_vw hH ha1 h1
        obtain ⟨mb', q1, q2, q3, q4⟩ := view_vw hH ha2 h2
        obtain ⟨a0, a1, rfl⟩ := two k4
        obtain ⟨b0, b1, rfl⟩ := two q4
        exact ⟨mm2 mb mb', V93 a0 a1 b0 b1, A93, shown_val (ts := [(4, ⟨true, I (cmp2 a0 a1 b0 b1)⟩)]) (ro2 k1 k2 q1 q2) ⟨k3 (mm2 mb mb') 0 rfl, q3 (mm2 mb mb') 1 rfl, trivial⟩ (by kernel_rfl) body93 (fun _ => rfl) (by kernel_rfl) (by kernel_rfl)⟩
    · cases hg
  · cases hg
end Go.Proofs.Yteekkjfjpoaihaa.Eng
namespace Go.Proofs.Yteekkjfjpoaihaa.Eng
open Go Go.Proofs
/-- the pairs of a flat list -/
def pa (q : List Int) (i : Nat) : Int := q.getD (2 * i) 0
def pb (q : List Int) (i : Nat) : Int := q.getD (2 * i + 1) 0
abbrev H1 (q : List Int) : List HO := [⟨true, .xvec .i64 2 q⟩]
abbrev sl0 (m : Nat) : Slot := ⟨true, .av (.s (.sl 0 0 2 m))⟩
/-- a pair that does not come behind the one before -/
def upB (q : List Int) (i : Nat) : Bool := bif decide (0 < i) then !(lessP (pa q (i - 1)) (pb q (i - 1)) (pa q i) (pb q i)) else false
def badC (n : Int) (q : List Int) (i : Nat) (a b : Int) : Bool := decide (a < 0) || decide (a ≥ b) || decide (b ≥ n) || upB q i
def badAt (n : Int) (q : List Int) (i : Nat) : Bool := badC n q i (pa q i) (pb q i)
def checkP (n : Int) (q : List Int) (m : Nat) : Int := bif decide (n < 1) || decide (n > 7) then 1 else bif (List.range m).any (badAt n q) then 20 else 0
abbrev A40 (n : Int) (m : Nat) : List AV := [.s (.int .i64 n), .s (.sl 0 0 2 m)]
abbrev M40 (n : Int) (q : List Int) (m : Nat) : St := mkSt [(0, ⟨true, I n⟩), (1, sl0 m)] (H1 q) 1 []
end Go.Proofs.Yteekkjfjpoaihaa.Eng
namespace Go.Proofs.Yteekkjfjpoaihaa.Eng
open Go Go.Proofs
def bad28 (n : Int) (q : List Int) (m i : Nat) (a b : Int) : Bool := decide (a < 0) || decide (b < 0) || decide (a ≥ n) || decide (b ≥ n) || (a == b) || hasP q m b a || upB q i
def in28 (q : List Int) (m : Nat) (a b : Int) (k : Nat) : Bool := pa q k == b && !(hasP q m a (pb q k))
def badI (n : Int) (q : List Int) (m i : Nat) : Bool := bad28 n q m i (pa q i) (pb q i) || (List.range m).any (in28 q m (pa q i) (pb q i))
def isOrd (n : Int) (q : List Int) (m : Nat) : Bool := !((List.range m).any (badI n q m))
end Go.Proofs.Yteekkjfjpoaihaa.Eng
namespace Go.Proofs.Yteekkjfjpoaihaa.Eng
open Go Go.Proofs
section
variable {P : Program} {T : Tab}
/-- a function that hands back values with one new object -/
theorem shown_new {x : XFn} {m0 : MM} {hs : List HO} {args0 : List AV} {vals : List Value} {w : World} {tv : TV} {base : Nat} {ts : List (Nat × Slot)} {ex : XE} {o : AO} (hview : RoView (compC T) m0 hs w) (hargs : All2 (AR m0) args0 vals) (hlen : Nat.ble args0.length x.nt = true)
    (hrun : Exec P T none x.nt 0 x.body (startSt args0 hs) ex (mkSt ts [⟨false, o⟩] 1 [])) (hex : ex ≠ .n → ex = .r) (hres : resV (mkSt ts [⟨false, o⟩] 1 []).sl.get (mkSt ts [⟨false, o⟩] 1 []).hp.get x.res = some (true, tv))
    (hids : tv.ids.all (Nat.beq 0) = true) (ho : o.ids = []) (hl : o.isLoop = false) (hlive : (HO.mk false o).live = true) (hren : ∀ ρ, o.ren ρ = o) : Shown P T x m0 hs args0 vals w (tv.ren (renN [0] base)) [⟨false, o⟩] base where
  view := hview
  args := hargs
  len := Nat.le_of_ble_eq_true hlen
  run := ⟨mkSt ts [⟨false, o⟩] 1 [], ex, tv, [0], hrun, by by_cases h : ex = .n; exact .inl h; exact .inr (hex h), rfl, hres, rfl,
    fun j hj => (by have := List.all_eq_true.1 hids j hj; rw [← Nat.eq_of_beq_eq_true this]; simp), rfl, rfl, fun k id h => by
      cases k with
      | succ k => simp at h
      | zero =>
        simp at h
        subst h
        refine ⟨⟨false, o⟩, ?_, rfl, hlive, hl, fun j hj => (by simp only [ho] at hj; cases hj), ?_⟩
        · show leaveH _ [] 0 = _
          simp only [leaveH]
          rw [mkSt_hp]
          rfl
        · simp only [List.getElem?_cons_zero, HO.ren, hren]⟩
end
def fewN (m : Nat) : Nat := min m 25
def fewQ (q : List Int) (m : Nat) : List Int := q.take (fewN m * 2)
def spFew : Spec where
  run := fun args h base => match args with
    | [s, .s (.int .i64 c)] => bif Nat.beq c.toNat 25 then match srcOf (.av s) h .i64 2 with
      | some (vc, q, m, rd) => some ⟨vc, .av (.s (.sl base 0 2 (fewN m))), [], [⟨false, .ivec 38 .i64 2 (fewQ q m)⟩], some rd⟩
      | none => none
      else none
    | _ => none
end Go.Proofs.Yteekkjfjpoaihaa.Eng
namespace Go.Proofs.Yteekkjfjpoaihaa.Eng
open Go Go.Proofs
theorem cmp2_less (a b c d : Int) : decide (cmp2 a b c d ≥ 0) = !(lessP a b c d) := by
  unfold cmp2 lessP cmpI
  by_cases h1 : a < c
  · simp [h1]
  · by_cases h2 : a = c
    · subst h2
      by_cases h3 : b < d
      · simp [h3]
      · by_cases h4 : b = d
        · subst h4; simp
        · have : d < b := by omega
          simp [h3, this]
    · have : c < a := by omega
      simp [h1, h2, this]
def L3 : List (Nat × Spec) := (93, pureS gCompare) :: L2
theorem L3_ok : SpecsL L3 := specsL_cons ok93 (pureS_fp gCompare_fp) o93 L2_ok
noncomputable abbrev g3 : Cal → Option Spec := specsΓ L3
theorem env3 : EnvOK PP T g3 := envL L3_ok
def L48 : XC := x48.body.b.b.b.a.b.i.i
abbrev g1S (k : Nat) : Slot := ⟨true, .av (.s (.ptr k 0 0))⟩
abbrev G48 (n : Int) (q : List Int) (f : Nat → Bool) : List HO := [⟨true, .xvec .i64 2 q⟩, ⟨false, .row 115 [.int .i64 n] 49 f⟩]
abbrev S48 (n : Int) (q : List Int) (m : Nat) (f : Nat → Bool) (i : Nat) : St := mkSt [(0, ⟨true, I n⟩), (1, sl0 m), (6, g1S 1), (18, sl0 m), (19, ⟨true, I m⟩), (20, ⟨true, I i⟩)] (G48 n q f) 2 []
abbrev P48 (n : Int) (q : List Int) (m : Nat) (f : Nat → Bool) (i : Nat) : St := mkSt [(0, ⟨true, I n⟩), (1, sl0 m), (6, g1S 1), (18, sl0 m), (19, ⟨true, I m⟩), (20, ⟨true, I i⟩), (21, ⟨true, B (decide (Int.ofNat i < Int.ofNat m))⟩)] (G48 n q f) 2 []
abbrev E48 (n : Int) (q : List Int) (m : Nat) (f : Nat → Bool) (i : Nat) (a b : Int) : St := mkSt [(0, ⟨true, I n⟩), (1, sl0 m), (6, g1S 1), (7, ⟨true, I i⟩), (8, g1S 2), (18, sl0 m), (19, ⟨true, I m⟩), (20, ⟨true, I i⟩)] (G48 n q f ++ [⟨false, .row 38 [.int .i64 a, .int .i64 b] 0 ff⟩]) 3 []
theorem e48a {n : Int} {q : List Int} {m i : Nat} {f : Nat → Bool} : Exec PP T none x48.nt 0 L48.a (S48 n q m f i) .n (P48 n q m f i) := by
  refine exec_orun env2 false 60 [] [0, 1] (fun _ => rfl) (by kernel_rfl) (by kernel_rfl) (by kernel_rfl) (by kernel_rfl)
theorem e48b {n : Int} {q : List Int} {m i : Nat} {f : Nat → Bool} (hi : i < m) : Exec PP T none x48.nt 0 L48.b.a (P48 n q m f i) .n (S48 n q m f i) := by
  refine exec_orun env2 false 60 [true] [0, 1] (fun _ => rfl) (by kernel_rfl) (by kernel_rfl) (by kernel_rfl) ?_
  rw [(show obOf (orun g2 false 60 L48.b.a (P48 n q m f i) [true]) = (decide (Int.ofNat i < Int.ofNat m) && true) from by kernel_rfl)]
  simp
  omega
theorem e48x {n : Int} {q : List Int} {m : Nat} {f : Nat → Bool} : Exec PP T none x48.nt 0 L48.b.a (P48 n q m f m) (.x 0) (S48 n q m f m) := by
  refine exec_orun env2 false 60 [false] [0, 1] (fun _ => rfl) (by kernel_rfl) (by kernel_rfl) (by kernel_rfl) ?_
  rw [(show obOf (orun g2 false 60 L48.b.a (P48 n q m f m) [false]) = (!decide (Int.ofNat m < Int.ofNat m) && true) from by kernel_rfl)]
  simp
theorem e48d {n : Int} {q : List Int} {m i : Nat} {f : Nat → Bool} (hm : m ≤ 1000000000) (hi : i < m) : Exec PP T none x48.nt 0 L48.b.b.b (S48 n q m f i) .n (S48 n q m f (i + 1)) := by
  refine exec_orun env2 false 60 [] [0, 1] (fun _ => rfl) (by kernel_rfl) (by kernel_rfl) (by kernel_rfl) ?_
  rw [(show obOf (orun g2 false 60 L48.b.b.b (S48 n q m f i) []) = (rng64 (Int.ofNat i.succ) && true) from by kernel_rfl)]
  simp [rng64]
  omega
theorem e48r {n : Int} {q : List Int} {m i : Nat} {f : Nat → Bool} (hq : q.length = m * 2) (hi : i < m) : Exec PP T none x48.nt 0 L48.b.b.a.i.a (S48 n q m f i) .n (E48 n q m f i (pa q i) (pb q i)) := by
  have e1 : pa q i = q.getD (0 + (0 + i) * 2 + 0) 0 := by unfold pa; congr 1; omega
  have e2 : pb q i = q.getD (0 + (0 + i) * 2 + 0 + 1) 0 := by unfold pb; congr 1; omega
  rw [e1, e2]
  refine exec_orun env2 false 60 [] [0, 1, 2] (fun _ => rfl) (by kernel_rfl) (by kernel_rfl) (by kernel_rfl) ?_
  rw [(show obOf (orun g2 false 60 L48.b.b.a.i.a (S48 n q m f i) []) = (decide (0 ≤ Int.ofNat i) && decide (Int.ofNat i < Int.ofNat m) && (decide (((0 + (0 + i) * 2).add 0).succ.succ ≤ q.length) && (decide (0 = 0) && true && true && true))) from by kernel_rfl)]
  simp
  omega
theorem e48c {n : Int} {q : List Int} {m i : Nat} {f : Nat → Bool} {a b : Int} (hq : q.length = m * 2) (hi : i < m) (hm : m ≤ 1000000000) (ha : a = pa q i) (hbb : b = pb q i) (hb : badC n q i a b = false) : Exec PP T none x48.nt 0 L48.b.b.a.i.b.a (E48 n q m f i a b) .n (E48 n q m f i a b) := by
  refine exec_orun env3 false 60 [false] [0, 1, 2] (fun _ => rfl) (by kernel_rfl) (by kernel_rfl) (by kernel_rfl) ?_
  rw [(show obOf (orun g3 false 60 L48.b.b.a.i.b.a (E48 n q m f i a b) [false]) = ((fun b0_ : Bool => (fun b1_ : Bool => (fun b2_ : Bool => decide (0 ≤ 0) && decide (0 < 2) && ((!decide (a < 0) == false || decide (0 ≤ 0) && decide (0 < 2)) && ((!decide (a < 0) == false || decide (a < 0) == false && true && true) && ((!decide (a < 0) == false || decide (0 ≤ 1) && decide (1 < 2)) && ((!decide (a < 0) == false || decide (a < 0) == false && true && true) && ((!decide (a < 0) == false || decide (a < 0) == false && (decide (a < 0) == false && true) && true) && ((bif decide (a < 0) then true else decide (a < 0) == false) && true && ((!b1_ == false || decide (0 ≤ 1) && decide (1 < 2)) && ((!b1_ == false || b1_ == false && true && true) && ((!b1_ == false || true) && ((!b1_ == false || b1_ == false && (b1_ == false && true) && true) && ((bif bif decide (a < 0) then true else decide (a ≥ b) then true else b1_ == false) && true && ((!b0_ == false || true) && ((!b0_ == false || b0_ == false && true && true) && ((!b0_ == false || b0_ == false && true && true) && ((!b2_ || true) && ((!b2_ || true) && ((!b2_ || b0_ == false && decide (Int.ofNat i > 0) == true && true && rng64 (Int.ofNat i - 1)) && ((!b2_ || b0_ == false && decide (Int.ofNat i > 0) == true && (b0_ == false && decide (Int.ofNat i > 0) == true && true) && (decide (0 ≤ Int.ofNat i - 1) && decide (Int.ofNat i - 1 < Int.ofNat m))) && ((!b2_ || b0_ == false && decide (Int.ofNat i > 0) == true && true && true) && ((!b2_ || true) && ((!b2_ || b0_ == false && decide (Int.ofNat i > 0) == true && (b0_ == false && decide (Int.ofNat i > 0) == true && true) && (decide (((0 + (0 + (Int.ofNat i - 1).toNat) * 2).add 0).succ.succ ≤ q.length) && decide (2 ≤ Nat.succ 1))) && ((!b2_ || b0_ == false && decide (Int.ofNat i > 0) == true && true && true) && ((!b0_ == false || (b0_ == false && bif decide (Int.ofNat i > 0) then b0_ == false && decide (Int.ofNat i > 0) == true else true) && true) && ((bif bif bif decide (a < 0) then true else decide (a ≥ b) then true else decide (b ≥ n) then true else b0_ == false) && true && true)))))))))))))))))))))))) && true && ((!bif bif bif decide (a < 0) then true else decide (a ≥ b) then true else decide (b ≥ n) then true else bif decide (Int.ofNat i > 0) then decide (cmp2 ((List.take 2 (List.drop (0 + (0 + (Int.ofNat i - 1).toNat) * 2) q)).getD 0 0) ((List.take 2 (List.drop (0 + (0 + (Int.ofNat i - 1).toNat) * 2) q)).getD 1 0) a b ≥ 0) else false) && true)) (b0_ == false && decide (Int.ofNat i > 0) == true)) (bif decide (a < 0) then true else decide (a ≥ b))) (bif bif decide (a < 0) then true else decide (a ≥ b) then true else decide (b ≥ n))) from by kernel_rfl)]
  dsimp only
  simp only [badC, Bool.or_eq_false_iff] at hb
  obtain ⟨⟨⟨h0, h1⟩, h2⟩, h3⟩ := hb
  simp only [h0, h1, h2]
  cases i with
  | zero => simp
  | succ j =>
    have e1 : (Int.ofNat (j + 1) - 1).toNat = j := by simp
    have e2 : Int.ofNat (j + 1) - 1 = (j : Int) := by simp
    have e3 : rng64 (j : Int) = true := by rw [rng64_eq]; simp; omega
    simp [upB, pa, pb, Nat.mul_comm 2] at h3
    simp [e1, e2, e3, cmp2_less]
    rw [ha, hbb]
    simp [pa, pb, Nat.mul_comm 2]
    exact ⟨by omega, h3⟩
def nearS (f : Nat → Bool) (a b : Int) : Nat → Bool := fun j => bif j.beq (1 - [(SV.int .i64 0)].length + (0 + b.toNat * 7 + a.toNat * 1)) then true else bif j.beq (1 - [(SV.int .i64 0)].length + (0 + a.toNat * 7 + b.toNat * 1)) then true else f j
theorem e48s {n : Int} {q : List Int} {m i : Nat} {f : Nat → Bool} {a b : Int} (h0 : 0 ≤ a) (h1 : a < 7) (h2 : 0 ≤ b) (h3 : b < 7) : Exec PP T none x48.nt 0 L48.b.b.a.i.b.b (E48 n q m f i a b) .n (S48 n q m (nearS f a b) i) := by
  refine exec_orun env3 false 60 [] [0, 1] (fun _ => rfl) (by kernel_rfl) (by kernel_rfl) (by kernel_rfl) ?_
  rw [(show obOf (orun g3 false 60 L48.b.b.a.i.b.b (E48 n q m f i a b) []) = (decide (0 ≤ 0) && decide (0 < 2) && (decide (0 ≤ 1) && decide (1 < 2) && (decide (0 ≤ 1) && decide (1 < 2) && (decide (0 ≤ 0) && decide (0 < 2) && (decide (0 ≤ a) && decide (a < 7) && (decide (0 ≤ b) && decide (b < 7) && (decide (0 + (0 + a.toNat * 7 + b.toNat * 1) < 49) && true && true && (decide (0 ≤ b) && decide (b < 7) && (decide (0 ≤ a) && decide (a < 7) && (decide (0 + (0 + b.toNat * 7 + a.toNat * 1) < 49) && true && true && true))))))))) && true) from by kernel_rfl)]
  simp
  omega
def nearF (q : List Int) : Nat → Nat → Bool
  | 0 => ff
  | i + 1 => nearS (nearF q i) (pa q i) (pb q i)
theorem badAt_rng {n : Int} {q : List Int} {i : Nat} (hn : (decide (n < 1) || decide (n > 7)) = false) (hb : badAt n q i = false) : (0 ≤ pa q i ∧ pa q i < 7) ∧ 0 ≤ pb q i ∧ pb q i < 7 := by
  simp [badAt, badC] at hb hn
  omega
theorem s48 {n : Int} {q : List Int} {m i : Nat} (hn : (decide (n < 1) || decide (n > 7)) = false) (hq : q.length = m * 2) (hi : i < m) (hm : m ≤ 1000000000) (hb : badAt n q i = false) : Exec PP T none x48.nt 0 L48 (S48 n q m (nearF q i) i) .n (S48 n q m (nearF q (i + 1)) (i + 1)) := by
  obtain ⟨⟨h0, h1⟩, h2, h3⟩ := badAt_rng hn hb
  exact exec_seq (x := L48.a) (y := L48.b) e48a (exec_seq (x := L48.b.a) (y := L48.b.b) (e48b hi) (exec_seq (x := L48.b.b.a) (y := L48.b.b.b) (exec_block (id := 1) (x := L48.b.b.a.i) (e := .n) (exec_seq (x := L48.b.b.a.i.a) (y := L48.b.b.a.i.b) (e48r hq hi) (exec_seq (x := L48.b.b.a.i.b.a) (y := L48.b.b.a.i.b.b) (e48c hq hi hm rfl rfl hb) (e48s h0 h1 h2 h3)))) (e48d hm hi)))
theorem s48x {n : Int} {q : List Int} {m : Nat} {f : Nat → Bool} : Exec PP T none x48.nt 0 L48 (S48 n q m f m) (.x 0) (S48 n q m f m) :=
  exec_seq (x := L48.a) (y := L48.b) e48a (exec_seq_x (x := L48.b.a) (y := L48.b.b) e48x (by simp))
theorem a48 {n : Int} {q : List Int} {m : Nat} : Exec PP T none x48.nt 0 x48.body.a (startSt (A40 n m) (H1 q)) .n (M40 n q m) := by
  refine exec_orun env2 false 60 [] [0] (fun _ => rfl) (by kernel_rfl) (by kernel_rfl) (by kernel_rfl) (by kernel_rfl)
theorem b48 {n : Int} {q : List Int} {m : Nat} (h : (decide (n < 1) || decide (n > 7)) = false) : Exec PP T none x48.nt 0 x48.body.b.a (M40 n q m) .n (M40 n q m) := by
  refine exec_orun env2 false 60 [false] [0] (fun _ => rfl) (by kernel_rfl) (by kernel_rfl) (by kernel_rfl) ?_
  rw [(show obOf (orun g2 false 60 x48.body.b.a (M40 n q m) [false]) = ((!decide (n < 1) == false || true) && ((!decide (n < 1) == false || decide (n < 1) == false && true && true) && ((bif decide (n < 1) then true else decide (n < 1) == false) && true && true)) && ((!bif decide (n < 1) then true else decide (n > 7)) && true)) from by kernel_rfl)]
  rw [Bool.or_eq_false_iff] at h
  simp [h.1, h.2]
abbrev M48 (n : Int) (q : List Int) (m : Nat) : St := mkSt [(0, ⟨true, I n⟩), (1, sl0 m), (6, g1S 1)] (G48 n q ff) 2 []
theorem cc48 {n : Int} {q : List Int} {m : Nat} : Exec PP T none x48.nt 0 x48.body.b.b.a (M40 n q m) .n (M48 n q m) := by
  refine exec_orun env2 false 60 [] [0, 1] (fun _ => rfl) (by kernel_rfl) (by kernel_rfl) (by kernel_rfl) (by kernel_rfl)
theorem c48i {n : Int} {q : List Int} {m : Nat} : Exec PP T none x48.nt 0 x48.body.b.b.b.a.a (M48 n q m) .n (S48 n q m ff 0) := by
  refine exec_orun env2 false 60 [] [0, 1] (fun _ => rfl) (by kernel_rfl) (by kernel_rfl) (by kernel_rfl) (by kernel_rfl)
abbrev Y48 (n : Int) (q : List Int) (m : Nat) : St := mkSt [(4, g1S 0), (5, ⟨true, I 0⟩)] [⟨false, .row 115 [.int .i64 n] 49 (nearF q m)⟩] 1 []
theorem d48 {n : Int} {q : List Int} {m : Nat} : Exec PP T none x48.nt 0 x48.body.b.b.b.b (S48 n q m (nearF q m) m) .r (Y48 n q m) := by
  refine exec_orun env2 false 60 [] [1] (fun _ => rfl) (by kernel_rfl) (by kernel_rfl) (by kernel_rfl) (by kernel_rfl)
theorem body48 {n : Int} {q : List Int} {m : Nat} (hq : q.length = m * 2) (hm : m ≤ 1000000000) (he : (checkP n q m == 0) = true) : Exec PP T none x48.nt 0 x48.body (startSt (A40 n m) (H1 q)) .r (Y48 n q m) := by
  unfold checkP at he
  refine exec_seq (x := x48.body.a) (y := x48.body.b) a48 ?_
  cases h : (decide (n < 1) || decide (n > 7)) with
  | true => rw [h] at he; simp at he
  | false =>
    rw [h, cond_false] at he
    refine exec_seq (x := x48.body.b.a) (y := x48.body.b.b) (b48 h) (exec_seq (x := x48.body.b.b.a) (y := x48.body.b.b.b) cc48 ?_)
    cases hh : (List.range m).any (badAt n q) with
    | true => rw [hh] at he; simp at he
    | false =>
      have h3 := any_none _ _ hh
      exact exec_seq (x := x48.body.b.b.b.a) (y := x48.body.b.b.b.b) (exec_seq (x := x48.body.b.b.b.a.a) (y := .block 0 (.loop L48)) c48i (exec_block (e := .x 0) (exec_loop_up (fun i => S48 n q m (nearF q i) i) m (fun i hi => s48 h hq hi hm (h3 i hi)) s48x (by simp) 0 (by omega)))) d48
def intPairsX (k : Nat) (c : Int → List Int → Nat → Bool) (f : Int → List Int → Nat → TV) (args : List AV) (h : Nat → Option HO) : Option (Bool × TV × List Nat) := match args with
  | .s (.int .i64 n) :: s :: rest => bif Nat.beq rest.length k then match srcOf (.av s) h .i64 2 with
    | some (vc, q, m, rd) => some (vc && (bndL m && c n q m), f n q m, rd)
    | none => none
    else none
  | _ => none
theorem intPairsX_fp (k : Nat) (c : Int → List Int → Nat → Bool) (f : Int → List Int → Nat → TV) : PureFp (intPairsX k c f) := by
  intro args h h' q hg hf
  unfold intPairsX at hg ⊢
  split at hg
  · rename_i n s rest
    cases hk : Nat.beq rest.length k with
    | false => rw [hk] at hg; cases hg
    | true =>
      simp only [hk, cond_true] at hg ⊢
      split at hg
      · rename_i hs
        cases hg
        rw [srcOf_fp hs hf]
      · cases hg
  · cases hg
theorem all2_any {m m' : MM} : ∀ {l : List AV} {r : List Value}, All2 (AR m) l r → All2 (AR m') (List.replicate l.length (.s .any)) r
  | [], [], _ => trivial
  | _ :: _, _ :: _, ⟨_, h2⟩ => ⟨trivial, all2_any h2⟩
  | [], _ :: _, h => h.elim
  | _ :: _, [], h => h.elim
theorem intPairsX_ok {f : FuncId} {x : XFn} (hx : FunOK PP T f x) (k : Nat) (c : Int → List Int → Nat → Bool) (t : Int → List Int → Nat → List (Nat × Slot)) (v : Int → List Int → Nat → TV) (hlen : Nat.ble (k + 2) x.nt = true) (hb : ∀ n q m, q.length = m * 2 → m ≤ 1000000000 → c n q m = true → Exec PP T none x.nt 0 x.body (startSt (A40 n m ++ List.replicate k (.s .any)) (H1 q)) .r (mkSt (t n q m) [] 0 []))
    (hres : ∀ n q m, resV (mkSt (t n q m) [] 0 []).sl.get (mkSt (t n q m) [] 0 []).hp.get x.res = some (true, v n q m)) (hids : ∀ n q m, (v n q m).ids = []) : SpecOK PP (compC T) f (pureS (intPairsX k c v)) := by
  refine spec_pure tokP hx fun ctx m h w args vals u rd base hH hargs hg => ?_
  unfold intPairsX at hg
  split at hg
  · rename_i n s rest
    cases hk : Nat.beq rest.length k with
    | false => rw [hk] at hg; cases hg
    | true =>
      rw [hk, cond_true] at hg
      have hk := Nat.eq_of_beq_eq_true hk
      subst hk
      split at hg
      · rename_i vc q m' rd' hs
        simp only [Option.some.injEq, Prod.mk.injEq, Bool.and_eq_true] at hg
        obtain ⟨⟨rfl, hm, hc⟩, rfl, rfl⟩ := hg
        match vals, hargs with
        | v1 :: v2 :: vr, ⟨ha1, ha2, har⟩ =>
          obtain ⟨mb, k1, k2, k3, k4⟩ := view_slice hH ha2 hs
          have hall : All2 (AR (mm1 mb)) (.s (.int .i64 n) :: .s (.sl 0 0 2 m') :: List.replicate rest.length (.s .any)) (v1 :: v2 :: vr) := ⟨ha1, k3 (mm1 mb) 0 rfl, all2_any har⟩
          exact ⟨mm1 mb, H1 q, A40 n m' ++ List.replicate rest.length (.s .any), shown_val (ro1 k1 k2) hall (by simpa using hlen) (hb n q m' k4 (by simpa [bndL] using hm) hc) (fun _ => rfl) (hres n q m') (hids n q m')⟩
      · cases hg
  · cases hg
def err0 (n : Int) (q : List Int) (m : Nat) : Bool := checkP n q m == 0
def err1 (n : Int) (q : List Int) (m : Nat) : Bool := !(checkP n q m == 0)
/-- open, where it does not -/
def spOpen : Spec where
  run := fun args h base => match args with
    | [.s (.int .i64 n), s] => match srcOf (.av s) h .i64 2 with
      | some (vc, q, m, rd) => some ⟨vc && (bndL m && err0 n q m), .tup [.s (.ptr base 0 0), .s (.int .i64 0)], [], [⟨false, .row 115 [.int .i64 n] 49 (nearF q m)⟩], some rd⟩
      | none => none
    | _ => none
theorem spOpen_fp : SpecFp spOpen := by
  intro args h h' base e hr hf
  simp only [spOpen] at hr ⊢
  split at hr
  · split at hr
    · rename_i hs
      cases hr
      simp only [srcOf_fp hs hf]
    · cases hr
  · cases hr
theorem ok48 : SpecOK PP (compC T) 48 spOpen := by
  refine spec_gen tokP o48 fun ctx m h w args vals base e hH hargs hr hvc => ?_
  simp only [spOpen] at hr
  split at hr
  · rename_i n s
    split at hr
    · rename_i vc q m' rd hs
      cases hr
      simp only [Bool.and_eq_true] at hvc
      obtain ⟨rfl, hm, he⟩ := hvc
      match vals, hargs with
      | [v1, v2], ⟨ha1, ha2, _⟩ =>
        obtain ⟨mb, k1, k2, k3, k4⟩ := view_slice hH ha2 hs
        exact ⟨rfl, mm1 mb, H1 q, A40 n m', shown_new (tv := .tup [.s (.ptr 0 0 0), .s (.int .i64 0)]) (o := .row 115 [.int .i64 n] 49 (nearF q m')) (ro1 k1 k2) ⟨ha1, k3 (mm1 mb) 0 rfl, trivial⟩ (by kernel_rfl) (body48 k4 (by simpa [bndL] using hm) he) (fun _ => rfl) (by kernel_rfl) (by kernel_rfl) rfl rfl rfl (fun _ => rfl)⟩
    · cases hr
  · cases hr
end Go.Proofs.Yteekkjfjpoaihaa.Eng
namespace Go.Proofs.Yteekkjfjpoaihaa.Eng
open Go Go.Proofs
def L51 : XC := x51.body.b.a.b.i.i
def M51 : XC := L51.b.b.a.i.b.b.i.i
def N51 : XC := M51.b.b.a.i.b.b.b.b.i.i
abbrev G51 (f : Nat → Bool) : List HO := [⟨false, .row 70 [] 49 f⟩]
abbrev S51 (f : Nat → Bool) (a : Nat) : St := mkSt [(1, g1S 0), (6, ⟨true, I a⟩)] (G51 f) 1 []
abbrev P51 (f : Nat → Bool) (a : Nat) : St := mkSt [(1, g1S 0), (6, ⟨true, I a⟩), (7, ⟨true, B (decide (Int.ofNat a < 7))⟩)] (G51 f) 1 []
abbrev U51 (f : Nat → Bool) (a b : Nat) : St := mkSt [(1, g1S 0), (3, ⟨true, I a⟩), (6, ⟨true, I a⟩), (9, ⟨true, I b⟩)] (G51 f) 1 []
abbrev Q51 (f : Nat → Bool) (a b : Nat) : St := mkSt [(1, g1S 0), (3, ⟨true, I a⟩), (6, ⟨true, I a⟩), (9, ⟨true, I b⟩), (10, ⟨true, B (decide (Int.ofNat b < 7))⟩)] (G51 f) 1 []
abbrev W51 (f : Nat → Bool) (a b : Nat) : St := mkSt [(1, g1S 0), (3, ⟨true, I a⟩), (4, ⟨true, I b⟩), (6, ⟨true, I a⟩), (9, ⟨true, I b⟩)] (G51 f) 1 []
abbrev V51 (f : Nat → Bool) (a b c : Nat) : St := mkSt [(1, g1S 0), (3, ⟨true, I a⟩), (4, ⟨true, I b⟩), (6, ⟨true, I a⟩), (9, ⟨true, I b⟩), (23, ⟨true, I c⟩)] (G51 f) 1 []
theorem a51 {f : Nat → Bool} : Exec PP T none x51.nt 0 x51.body.a (startSt [.pb [] 49 f] []) .n (mkSt [(1, g1S 0)] (G51 f) 1 []) := by
  refine exec_orun env0 false 60 [] [0] (fun _ => rfl) (by kernel_rfl) (by kernel_rfl) (by kernel_rfl) (by kernel_rfl)
theorem b51 {f : Nat → Bool} : Exec PP T none x51.nt 0 x51.body.b.a.a (mkSt [(1, g1S 0)] (G51 f) 1 []) .n (S51 f 0) := by
  refine exec_orun env0 false 60 [] [0] (fun _ => rfl) (by kernel_rfl) (by kernel_rfl) (by kernel_rfl) (by kernel_rfl)
theorem d51 {f : Nat → Bool} : Exec PP T none x51.nt 0 x51.body.b.b (S51 f 7) .r (RB 2 true) := by
  refine exec_orun env0 false 60 [] [] (fun _ => rfl) (by kernel_rfl) (by kernel_rfl) (by kernel_rfl) (by kernel_rfl)
theorem l51a {f : Nat → Bool} {a : Nat} : Exec PP T none x51.nt 0 L51.a (S51 f a) .n (P51 f a) := by
  refine exec_orun env0 false 60 [] [0] (fun _ => rfl) (by kernel_rfl) (by kernel_rfl) (by kernel_rfl) (by kernel_rfl)
theorem l51b {f : Nat → Bool} {a : Nat} (h : a < 7) : Exec PP T none x51.nt 0 L51.b.a (P51 f a) .n (S51 f a) := by
  refine exec_orun env0 false 60 [true] [0] (fun _ => rfl) (by kernel_rfl) (by kernel_rfl) (by kernel_rfl) ?_
  rw [(show obOf (orun g0 false 60 L51.b.a (P51 f a) [true]) = (decide (Int.ofNat a < 7) && true) from by kernel_rfl)]
  simp
  omega
theorem l51x {f : Nat → Bool} : Exec PP T none x51.nt 0 L51.b.a (P51 f 7) (.x 0) (S51 f 7) := by
  refine exec_orun env0 false 60 [false] [0] (fun _ => rfl) (by kernel_rfl) (by kernel_rfl) (by kernel_rfl) (by kernel_rfl)
theorem l51c {f : Nat → Bool} {a : Nat} : Exec PP T none x51.nt 0 L51.b.b.a.i.a (S51 f a) .n (mkSt [(1, g1S 0), (3, ⟨true, I a⟩), (6, ⟨true, I a⟩)] (G51 f) 1 []) := by
  refine exec_orun env0 false 60 [] [0] (fun _ => rfl) (by kernel_rfl) (by kernel_rfl) (by kernel_rfl) (by kernel_rfl)
theorem l51d {f : Nat → Bool} {a : Nat} : Exec PP T none x51.nt 0 L51.b.b.a.i.b.a (mkSt [(1, g1S 0), (3, ⟨true, I a⟩), (6, ⟨true, I a⟩)] (G51 f) 1 []) .n (U51 f a 0) := by
  refine exec_orun env0 false 60 [] [0] (fun _ => rfl) (by kernel_rfl) (by kernel_rfl) (by kernel_rfl) (by kernel_rfl)
theorem l51e {f : Nat → Bool} {a b : Nat} (h : a < 7) : Exec PP T none x51.nt 0 L51.b.b.b (U51 f a b) .n (S51 f (a + 1)) := by
  refine exec_orun env0 false 60 [] [0] (fun _ => rfl) (by kernel_rfl) (by kernel_rfl) (by kernel_rfl) ?_
  rw [(show obOf (orun g0 false 60 L51.b.b.b (U51 f a b) []) = (rng64 (Int.ofNat a.succ) && true) from by kernel_rfl)]
  simp [rng64]
  omega
theorem m51a {f : Nat → Bool} {a b : Nat} : Exec PP T none x51.nt 0 M51.a (U51 f a b) .n (Q51 f a b) := by
  refine exec_orun env0 false 60 [] [0] (fun _ => rfl) (by kernel_rfl) (by kernel_rfl) (by kernel_rfl) (by kernel_rfl)
theorem m51b {f : Nat → Bool} {a b : Nat} (h : b < 7) : Exec PP T none x51.nt 0 M51.b.a (Q51 f a b) .n (U51 f a b) := by
  refine exec_orun env0 false 60 [true] [0] (fun _ => rfl) (by kernel_rfl) (by kernel_rfl) (by kernel_rfl) ?_
  rw [(show obOf (orun g0 false 60 M51.b.a (Q51 f a b) [true]) = (decide (Int.ofNat b < 7) && true) from by kernel_rfl)]
  simp
  omega
theorem m51x {f : Nat → Bool} {a : Nat} : Exec PP T none x51.nt 0 M51.b.a (Q51 f a 7) (.x 2) (U51 f a 7) := by
  refine exec_orun env0 false 60 [false] [0] (fun _ => rfl) (by kernel_rfl) (by kernel_rfl) (by kernel_rfl) (by kernel_rfl)
theorem m51e {f : Nat → Bool} {a b : Nat} (h : b < 7) : Exec PP T none x51.nt 0 M51.b.b.b (U51 f a b) .n (U51 f a (b + 1)) := by
  refine exec_orun env0 false 60 [] [0] (fun _ => rfl) (by kernel_rfl) (by kernel_rfl) (by kernel_rfl) ?_
  rw [(show obOf (orun g0 false 60 M51.b.b.b (U51 f a b) []) = (rng64 (Int.ofNat b.succ) && true) from by kernel_rfl)]
  simp [rng64]
  omega
theorem y51a {f : Nat → Bool} {a b : Nat} : Exec PP T none x51.nt 0 M51.b.b.a.i.a (U51 f a b) .n (W51 f a b) := by
  refine exec_orun env0 false 60 [] [0] (fun _ => rfl) (by kernel_rfl) (by kernel_rfl) (by kernel_rfl) (by kernel_rfl)
def at7 (f : Nat → Bool) (a b : Nat) : Bool := f (a * 7 + b)
theorem y51b {f : Nat → Bool} {a b : Nat} (ha : a < 7) (hb : b < 7) (h : at7 f a b = true) : Exec PP T none x51.nt 0 M51.b.b.a.i.b.a (W51 f a b) .n (W51 f a b) := by
  refine exec_orun env0 false 60 [false] [0] (fun _ => rfl) (by kernel_rfl) (by kernel_rfl) (by kernel_rfl) ?_
  rw [(show obOf (orun g0 false 60 M51.b.b.a.i.b.a (W51 f a b) [false]) = (decide (0 ≤ Int.ofNat a) && decide (Int.ofNat a < 7) && (decide (0 ≤ Int.ofNat b) && decide (Int.ofNat b < 7) && (decide (0 + (0 + a * 7 + b * 1) < 49) && true)) && (!!f (0 + (0 + a * 7 + b * 1)) && true)) from by kernel_rfl)]
  unfold at7 at h
  simp [h]
  omega
theorem y51x {f : Nat → Bool} {a b : Nat} (ha : a < 7) (hb : b < 7) (h : at7 f a b = false) : Exec PP T none x51.nt 0 M51.b.b.a.i.b.a (W51 f a b) (.x 3) (U51 f a b) := by
  refine exec_orun env0 false 60 [true] [0] (fun _ => rfl) (by kernel_rfl) (by kernel_rfl) (by kernel_rfl) ?_
  rw [(show obOf (orun g0 false 60 M51.b.b.a.i.b.a (W51 f a b) [true]) = (decide (0 ≤ Int.ofNat a) && decide (Int.ofNat a < 7) && (decide (0 ≤ Int.ofNat b) && decide (Int.ofNat b < 7) && (decide (0 + (0 + a * 7 + b * 1) < 49) && true)) && (!f (0 + (0 + a * 7 + b * 1)) && true)) from by kernel_rfl)]
  unfold at7 at h
  simp [h]
  omega
theorem y51c {f : Nat → Bool} {a b : Nat} (ha : a < 7) (hb : b < 7) (h : at7 f b a = false) : Exec PP T none x51.nt 0 M51.b.b.a.i.b.b.a (W51 f a b) .n (W51 f a b) := by
  refine exec_orun env0 false 60 [false] [0] (fun _ => rfl) (by kernel_rfl) (by kernel_rfl) (by kernel_rfl) ?_
  rw [(show obOf (orun g0 false 60 M51.b.b.a.i.b.b.a (W51 f a b) [false]) = (decide (0 ≤ Int.ofNat b) && decide (Int.ofNat b < 7) && (decide (0 ≤ Int.ofNat a) && decide (Int.ofNat a < 7) && (decide (0 + (0 + b * 7 + a * 1) < 49) && true)) && (!f (0 + (0 + b * 7 + a * 1)) && true)) from by kernel_rfl)]
  unfold at7 at h
  simp [h]
  omega
theorem y51r {f : Nat → Bool} {a b : Nat} (ha : a < 7) (hb : b < 7) (h : at7 f b a = true) : Exec PP T none x51.nt 0 M51.b.b.a.i.b.b.a (W51 f a b) .r (RB 2 false) := by
  refine exec_orun env0 false 60 [true] [] (fun _ => rfl) (by kernel_rfl) (by kernel_rfl) (by kernel_rfl) ?_
  rw [(show obOf (orun g0 false 60 M51.b.b.a.i.b.b.a (W51 f a b) [true]) = (decide (0 ≤ Int.ofNat b) && decide (Int.ofNat b < 7) && (decide (0 ≤ Int.ofNat a) && decide (Int.ofNat a < 7) && (decide (0 + (0 + b * 7 + a * 1) < 49) && true)) && (f (0 + (0 + b * 7 + a * 1)) && true)) from by kernel_rfl)]
  unfold at7 at h
  simp [h]
  omega
theorem y51d {f : Nat → Bool} {a b : Nat} : Exec PP T none x51.nt 0 M51.b.b.a.i.b.b.b.a (W51 f a b) .n (V51 f a b 0) := by
  refine exec_orun env0 false 60 [] [0] (fun _ => rfl) (by kernel_rfl) (by kernel_rfl) (by kernel_rfl) (by kernel_rfl)
def bc51 (f : Nat → Bool) (a b c : Nat) : Bool := at7 f b c && !(at7 f a c)
theorem n51 {f : Nat → Bool} {a b c : Nat} (ha : a < 7) (hb : b < 7) (hc : c < 7) (h : bc51 f a b c = false) : Exec PP T none x51.nt 0 N51 (V51 f a b c) .n (V51 f a b (c + 1)) := by
  refine exec_orun env0 false 60 [true, false] [0] (fun _ => rfl) (by kernel_rfl) (by kernel_rfl) (by kernel_rfl) ?_
  rw [(show obOf (orun g0 false 60 N51 (V51 f a b c) [true, false]) = (decide (Int.ofNat c < 7) && true && (decide (0 ≤ Int.ofNat b) && decide (Int.ofNat b < 7) && (decide (0 ≤ Int.ofNat c) && decide (Int.ofNat c < 7) && (decide (0 + (0 + b * 7 + c * 1) < 49) && ((!f (0 + (0 + b * 7 + c * 1)) == true || true) && ((!f (0 + (0 + b * 7 + c * 1)) == true || true) && ((!f (0 + (0 + b * 7 + c * 1)) == true || f (0 + (0 + b * 7 + c * 1)) == true && true && (decide (0 ≤ Int.ofNat a) && decide (Int.ofNat a < 7))) && ((!f (0 + (0 + b * 7 + c * 1)) == true || f (0 + (0 + b * 7 + c * 1)) == true && (f (0 + (0 + b * 7 + c * 1)) == true && true) && (decide (0 ≤ Int.ofNat c) && decide (Int.ofNat c < 7))) && ((!f (0 + (0 + b * 7 + c * 1)) == true || f (0 + (0 + b * 7 + c * 1)) == true && true && decide (0 + (0 + a * 7 + c * 1) < 49)) && ((!f (0 + (0 + b * 7 + c * 1)) == true || f (0 + (0 + b * 7 + c * 1)) == true && true && true) && ((bif f (0 + (0 + b * 7 + c * 1)) then f (0 + (0 + b * 7 + c * 1)) == true else true) && true && true))))))))) && ((!bif f (0 + (0 + b * 7 + c * 1)) then !f (0 + (0 + a * 7 + c * 1)) else false) && true) && (rng64 (Int.ofNat c.succ) && true))) from by kernel_rfl)]
  unfold bc51 at7 at h
  have e3 : rng64 ((c : Int) + 1) = true := by rw [rng64_eq]; simp; omega
  cases h1 : f (b * 7 + c) with
  | false => simp [h1, e3]; omega
  | true => simp [h1] at h; simp [h1, h, e3]; omega
theorem n51r {f : Nat → Bool} {a b c : Nat} (ha : a < 7) (hb : b < 7) (hc : c < 7) (h : bc51 f a b c = true) : Exec PP T none x51.nt 0 N51 (V51 f a b c) .r (RB 2 false) := by
  refine exec_orun env0 false 60 [true, true] [] (fun _ => rfl) (by kernel_rfl) (by kernel_rfl) (by kernel_rfl) ?_
  rw [(show obOf (orun g0 false 60 N51 (V51 f a b c) [true, true]) = (decide (Int.ofNat c < 7) && true && (decide (0 ≤ Int.ofNat b) && decide (Int.ofNat b < 7) && (decide (0 ≤ Int.ofNat c) && decide (Int.ofNat c < 7) && (decide (0 + (0 + b * 7 + c * 1) < 49) && ((!f (0 + (0 + b * 7 + c * 1)) == true || true) && ((!f (0 + (0 + b * 7 + c * 1)) == true || true) && ((!f (0 + (0 + b * 7 + c * 1)) == true || f (0 + (0 + b * 7 + c * 1)) == true && true && (decide (0 ≤ Int.ofNat a) && decide (Int.ofNat a < 7))) && ((!f (0 + (0 + b * 7 + c * 1)) == true || f (0 + (0 + b * 7 + c * 1)) == true && (f (0 + (0 + b * 7 + c * 1)) == true && true) && (decide (0 ≤ Int.ofNat c) && decide (Int.ofNat c < 7))) && ((!f (0 + (0 + b * 7 + c * 1)) == true || f (0 + (0 + b * 7 + c * 1)) == true && true && decide (0 + (0 + a * 7 + c * 1) < 49)) && ((!f (0 + (0 + b * 7 + c * 1)) == true || f (0 + (0 + b * 7 + c * 1)) == true && true && true) && ((bif f (0 + (0 + b * 7 + c * 1)) then f (0 + (0 + b * 7 + c * 1)) == true else true) && true && true))))))))) && ((bif f (0 + (0 + b * 7 + c * 1)) then !f (0 + (0 + a * 7 + c * 1)) else false) && true))) from by kernel_rfl)]
  unfold bc51 at7 at h
  simp at h
  simp [h.1, h.2]
  omega
theorem n51x {f : Nat → Bool} {a b : Nat} : Exec PP T none x51.nt 0 N51 (V51 f a b 7) (.x 4) (U51 f a b) := by
  refine exec_orun env0 false 60 [false] [0] (fun _ => rfl) (by kernel_rfl) (by kernel_rfl) (by kernel_rfl) (by kernel_rfl)
/-- a pair of nodes with which a relation is not transitive -/
def bb51 (f : Nat → Bool) (a b : Nat) : Bool := at7 f a b && (at7 f b a || (List.range 7).any (bc51 f a b))
def transB (f : Nat → Bool) : Bool := !((List.range 7).any fun a => (List.range 7).any (bb51 f a))
theorem m51 {f : Nat → Bool} {a b : Nat} (ha : a < 7) (hb : b < 7) (h : bb51 f a b = false) : Exec PP T none x51.nt 0 M51 (U51 f a b) .n (U51 f a (b + 1)) := by
  refine exec_seq (x := M51.a) (y := M51.b) m51a (exec_seq (x := M51.b.a) (y := M51.b.b) (m51b hb) ?_)
  unfold bb51 at h
  cases h1 : at7 f a b with
  | false => exact exec_seq (x := M51.b.b.a) (y := M51.b.b.b) (exec_block (id := 3) (x := M51.b.b.a.i) (e := .x 3) (exec_seq (x := M51.b.b.a.i.a) (y := M51.b.b.a.i.b) y51a (exec_seq_x (x := M51.b.b.a.i.b.a) (y := M51.b.b.a.i.b.b) (y51x ha hb h1) (by simp)))) (m51e hb)
  | true =>
    rw [h1, Bool.true_and, Bool.or_eq_false_iff] at h
    have h3 := any_none _ _ h.2
    exact exec_seq (x := M51.b.b.a) (y := M51.b.b.b) (exec_block (id := 3) (x := M51.b.b.a.i) (e := .n) (exec_seq (x := M51.b.b.a.i.a) (y := M51.b.b.a.i.b) y51a (exec_seq (x := M51.b.b.a.i.b.a) (y := M51.b.b.a.i.b.b) (y51b ha hb h1) (exec_seq (x := M51.b.b.a.i.b.b.a) (y := M51.b.b.a.i.b.b.b) (y51c ha hb h.1)
      (exec_seq (x := M51.b.b.a.i.b.b.b.a) (y := .block 4 (.loop N51)) y51d (exec_block (e := .x 4) (exec_loop_up (V51 f a b) 7 (fun c hc => n51 ha hb hc (h3 c hc)) n51x (by simp) 0 (by omega)))))))) (m51e hb)
theorem m51r {f : Nat → Bool} {a b : Nat} (ha : a < 7) (hb : b < 7) (h : bb51 f a b = true) : Exec PP T none x51.nt 0 M51 (U51 f a b) .r (RB 2 false) := by
  refine exec_seq (x := M51.a) (y := M51.b) m51a (exec_seq (x := M51.b.a) (y := M51.b.b) (m51b hb) ?_)
  unfold bb51 at h
  rw [Bool.and_eq_true] at h
  refine exec_seq_x (x := M51.b.b.a) (y := M51.b.b.b) (exec_block (id := 3) (x := M51.b.b.a.i) (e := .r) (exec_seq (x := M51.b.b.a.i.a) (y := M51.b.b.a.i.b) y51a (exec_seq (x := M51.b.b.a.i.b.a) (y := M51.b.b.a.i.b.b) (y51b ha hb h.1) ?_))) (by simp)
  cases h1 : at7 f b a with
  | true => exact exec_seq_x (x := M51.b.b.a.i.b.b.a) (y := M51.b.b.a.i.b.b.b) (y51r ha hb h1) (by simp)
  | false =>
    rw [h1, Bool.false_or] at h
    obtain ⟨p, q1, q2, q3⟩ := any_first _ _ h.2
    exact exec_seq (x := M51.b.b.a.i.b.b.a) (y := M51.b.b.a.i.b.b.b) (y51c ha hb h1)
      (exec_seq (x := M51.b.b.a.i.b.b.b.a) (y := .block 4 (.loop N51)) y51d (exec_block (e := .r) (exec_loop_up (V51 f a b) p (fun c hc => n51 ha hb (by omega) (q3 c hc)) (n51r ha hb q1 q2) (by simp) 0 (by omega))))
theorem l51 {f : Nat → Bool} {a : Nat} (ha : a < 7) (h : (List.range 7).any (bb51 f a) = false) : Exec PP T none x51.nt 0 L51 (S51 f a) .n (S51 f (a + 1)) := by
  have h3 := any_none _ _ h
  exact exec_seq (x := L51.a) (y := L51.b) l51a (exec_seq (x := L51.b.a) (y := L51.b.b) (l51b ha) (exec_seq (x := L51.b.b.a) (y := L51.b.b.b) (exec_block (id := 1) (x := L51.b.b.a.i) (e := .n) (exec_seq (x := L51.b.b.a.i.a) (y := L51.b.b.a.i.b) l51c (exec_seq (x := L51.b.b.a.i.b.a) (y := .block 2 (.loop M51)) l51d
    (exec_block (e := .x 2) (exec_loop_up (U51 f a) 7 (fun b hb => m51 ha hb (h3 b hb)) (exec_seq (x := M51.a) (y := M51.b) m51a (exec_seq_x (x := M51.b.a) (y := M51.b.b) m51x (by simp))) (by simp) 0 (by omega)))))) (l51e (b := 7) ha)))
theorem l51r {f : Nat → Bool} {a : Nat} (ha : a < 7) (h : (List.range 7).any (bb51 f a) = true) : Exec PP T none x51.nt 0 L51 (S51 f a) .r (RB 2 false) := by
  obtain ⟨p, q1, q2, q3⟩ := any_first _ _ h
  exact exec_seq (x := L51.a) (y := L51.b) l51a (exec_seq (x := L51.b.a) (y := L51.b.b) (l51b ha) (exec_seq_x (x := L51.b.b.a) (y := L51.b.b.b) (exec_block (id := 1) (x := L51.b.b.a.i) (e := .r) (exec_seq (x := L51.b.b.a.i.a) (y := L51.b.b.a.i.b) l51c (exec_seq (x := L51.b.b.a.i.b.a) (y := .block 2 (.loop M51)) l51d
    (exec_block (e := .r) (exec_loop_up (U51 f a) p (fun b hb => m51 ha (by omega) (q3 b hb)) (m51r ha q1 q2) (by simp) 0 (by omega)))))) (by simp)))
theorem body51 {f : Nat → Bool} : Exec PP T none x51.nt 0 x51.body (startSt [.pb [] 49 f] []) .r (RB 2 (transB f)) := by
  refine exec_seq (x := x51.body.a) (y := x51.body.b) a51 ?_
  unfold transB
  cases hh : (List.range 7).any fun a => (List.range 7).any (bb51 f a) with
  | true =>
    obtain ⟨p, q1, q2, q3⟩ := any_first _ _ hh
    exact exec_seq_x (x := x51.body.b.a) (y := x51.body.b.b) (exec_seq (x := x51.body.b.a.a) (y := .block 0 (.loop L51)) b51 (exec_block (e := .r) (exec_loop_up (S51 f) p (fun a ha => l51 (by omega) (q3 a ha)) (l51r q1 q2) (by simp) 0 (by omega)))) (by simp)
  | false =>
    have h3 := any_none _ _ hh
    exact exec_seq (x := x51.body.b.a) (y := x51.body.b.b) (exec_seq (x := x51.body.b.a.a) (y := .block 0 (.loop L51)) b51 (exec_block (e := .x 0) (exec_loop_up (S51 f) 7 (fun a ha => l51 ha (h3 a ha)) (exec_seq (x := L51.a) (y := L51.b) l51a (exec_seq_x (x := L51.b.a) (y := L51.b.b) l51x (by simp))) (by simp) 0 (by omega)))) d51
theorem pb0_any {m m' : MM} {n : Nat} {f : Nat → Bool} {v : Value} (h : AR m (.pb [] n f) v) : AR m' (.pb [] n f) v := by
  obtain ⟨cs, e1, vs, e2, e3, e4⟩ := h
  refine ⟨cs, e1, vs, ?_, e3, e4⟩
  match vs, e2 with
  | [], _ => trivial
def gRel (g : (Nat → Bool) → TV) (args : List AV) (_ : Nat → Option HO) : Option (Bool × TV × List Nat) := match args with
  | [.pb [] 49 f] => some (true, g f, [])
  | _ => none
theorem gRel_fp (g : (Nat → Bool) → TV) : PureFp (gRel g) := by
  intro args h h' q hg hf
  exact hg
theorem gRel_ok {f : FuncId} {x : XFn} (hx : FunOK PP T f x) (t : (Nat → Bool) → List (Nat × Slot)) (g : (Nat → Bool) → TV) (hlen : Nat.ble 1 x.nt = true) (hb : ∀ f, Exec PP T none x.nt 0 x.body (startSt [.pb [] 49 f] []) .r (mkSt (t f) [] 0 []))
    (hres : ∀ f, resV (mkSt (t f) [] 0 []).sl.get (mkSt (t f) [] 0 []).hp.get x.res = some (true, g f)) (hids : ∀ f, (g f).ids = []) : SpecOK PP (compC T) f (pureS (gRel g)) := by
  refine spec_pure tokP hx fun ctx m h w args vals v rd base hH hargs hg => ?_
  unfold gRel at hg
  split at hg
  · rename_i fb
    simp only [Option.some.injEq, Prod.mk.injEq] at hg
    obtain ⟨_, rfl, rfl⟩ := hg
    match vals, hargs with
    | [v1], ⟨ha1, _⟩ =>
      exact ⟨emV, [], [.pb [] 49 fb], shown_val ro0 ⟨pb0_any ha1, trivial⟩ hlen (hb fb) (fun _ => rfl) (hres fb) (hids fb)⟩
  · cases hg
theorem ok51 : SpecOK PP (compC T) 51 (pureS (gRel fun f => B (transB f))) :=
  gRel_ok o51 (fun f => [(2, ⟨true, B (transB f)⟩)]) _ (by kernel_rfl) (fun _ => body51) (fun f => by kernel_rfl) (fun f => by kernel_rfl)
end Go.Proofs.Yteekkjfjpoaihaa.Eng

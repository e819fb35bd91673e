/- The engine, part 2: what abstract values and objects say of values and worlds. -/
import Derived.Test.YteekkjfjpoaihaaEa
import Derived.RangeFuncCalls
import Derived.OrdersIn
set_option linter.all false
namespace Go.Proofs.Yteekkjfjpoaihaa.Eng
open Go

def All2 {α β : Type} (R : α → β → Prop) : List α → List β → Prop
  | [], [] => True
  | a :: l, b :: r => R a b ∧ All2 R l r
  | _, _ => False

theorem All2.mono {α β : Type} {R R' : α → β → Prop} (h : ∀ a b, R a b → R' a b) : ∀ {l : List α} {r : List β}, All2 R l r → All2 R' l r
  | [], [], _ => trivial
  | _ :: _, _ :: _, ⟨h1, h2⟩ => ⟨h _ _ h1, All2.mono h h2⟩
  | [], _ :: _, h => h.elim
  | _ :: _, [], h => h.elim

theorem All2.length {α β : Type} {R : α → β → Prop} : ∀ {l : List α} {r : List β}, All2 R l r → r.length = l.length
  | [], [], _ => rfl
  | _ :: _, _ :: _, ⟨_, h2⟩ => by simp [All2.length h2]
  | [], _ :: _, h => h.elim
  | _ :: _, [], h => h.elim

theorem All2.get {α β : Type} {R : α → β → Prop} : ∀ {l : List α} {r : List β}, All2 R l r → ∀ {j : Nat} {a : α}, l[j]? = some a → ∃ b, r[j]? = some b ∧ R a b
  | _ :: _, b :: _, ⟨h1, _⟩, 0, a, e => ⟨b, rfl, by simp at e; exact e ▸ h1⟩
  | _ :: _, _ :: _, ⟨_, h2⟩, _ + 1, a, e => by simpa using All2.get h2 (by simpa using e)
  | [], [], _, i, a, e => by simp at e
  | [], _ :: _, h, _, _, _ => h.elim
  | _ :: _, [], h, _, _, _ => h.elim

theorem All2.set {α β : Type} {R : α → β → Prop} : ∀ {l : List α} {r : List β}, All2 R l r → ∀ {i : Nat} {a : α} {b : β}, R a b → All2 R (l.set i a) (r.set i b)
  | [], [], _, _, _, _, _ => trivial
  | _ :: _, _ :: _, ⟨_, h2⟩, 0, _, _, hr => ⟨hr, h2⟩
  | _ :: _, _ :: _, ⟨h1, h2⟩, _ + 1, _, _, hr => ⟨h1, All2.set h2 hr⟩
  | [], _ :: _, h, _, _, _, _ => h.elim
  | _ :: _, [], h, _, _, _, _ => h.elim

theorem All2.append {α β : Type} {R : α → β → Prop} : ∀ {l l' : List α} {r r' : List β}, All2 R l r → All2 R l' r' → All2 R (l ++ l') (r ++ r')
  | [], _, [], _, _, h => h
  | _ :: _, _, _ :: _, _, ⟨h1, h2⟩, h => ⟨h1, All2.append h2 h⟩
  | [], _, _ :: _, _, h, _ => h.elim
  | _ :: _, _, [], _, h, _ => h.elim

theorem All2.drop {α β : Type} {R : α → β → Prop} : ∀ (n : Nat) {l : List α} {r : List β}, All2 R l r → All2 R (l.drop n) (r.drop n)
  | 0, _, _, h => h
  | _ + 1, [], [], _ => trivial
  | n + 1, _ :: _, _ :: _, ⟨_, h2⟩ => All2.drop n h2
  | _ + 1, [], _ :: _, h => h.elim
  | _ + 1, _ :: _, [], h => h.elim

theorem All2.take {α β : Type} {R : α → β → Prop} : ∀ (n : Nat) {l : List α} {r : List β}, All2 R l r → All2 R (l.take n) (r.take n)
  | 0, _, _, _ => trivial
  | _ + 1, [], [], _ => trivial
  | n + 1, _ :: _, _ :: _, ⟨h1, h2⟩ => ⟨h1, All2.take n h2⟩
  | _ + 1, [], _ :: _, h => h.elim
  | _ + 1, _ :: _, [], h => h.elim

theorem All2.map {α β γ : Type} {R : α → β → Prop} (f : γ → α) (g : γ → β) : ∀ (l : List γ), (∀ x ∈ l, R (f x) (g x)) → All2 R (l.map f) (l.map g)
  | [], _ => trivial
  | x :: l, h => ⟨h x (by simp), All2.map f g l fun y hy => h y (by simp [hy])⟩

/-- where an id lies: its block (none: a nil slice's), where in it, the capacity -/
structure MB where
  b : Option Nat
  base : Nat
  cap : Nat
abbrev MM := Nat → Option MB

def MM.le (m m' : MM) : Prop := ∀ id mb, m id = some mb → m' id = some mb
theorem MM.le_refl (m : MM) : m.le m := fun _ _ h => h
theorem MM.le_trans {a b c : MM} (h : a.le b) (k : b.le c) : a.le c := fun id mb e => k id mb (h id mb e)

def SR (m : MM) : SV → Value → Prop
  | .int k n, v => v = .int k n
  | .bool b, v => v = .bool b
  | .nilp, v => v = .pointer none
  | .ptr id base off, v => ∃ mb b, m id = some mb ∧ mb.b = some b ∧ v = .pointer (some ⟨b, mb.base + (base + off), none⟩)
  | .nils, v => v = .slice none 0 0
  | .sl id off sz len, v => ∃ mb, m id = some mb ∧ off + len ≤ mb.cap ∧
      ((mb.b = none ∧ v = .slice none 0 0 ∧ off = 0 ∧ len = 0 ∧ mb.cap = 0) ∨
        ∃ b o, mb.b = some b ∧ v = .slice (some ⟨b, o, none⟩) len (mb.cap - off) ∧ ((len = 0 ∧ 0 < off) ∨ o = mb.base + off * sz))
  | .vw id off _ len, v => ∃ mb b c, m id = some mb ∧ mb.b = some b ∧ v = .slice (some ⟨b, mb.base + off, none⟩) len c
  | .nilm, v => v = .map none
  | .mp id, v => ∃ mb b, m id = some mb ∧ mb.b = some b ∧ v = .map (some b)
  | .nilf, v => v = .nilFunc
  | .fn f caps, v => ∃ vs, v = .func (.func f) #[] vs.toArray ∧ All2 (fun id x => ∃ mb b, m id = some mb ∧ mb.b = some b ∧ x = Value.pointer (some ⟨b, mb.base + (0 + 0), none⟩)) caps vs
  | .yield id, v => ∃ mb b, m id = some mb ∧ mb.b = some b ∧ v = .func (.yield b) #[] #[]
  | .any, _ => True

theorem SR.le {m m' : MM} (h : m.le m') : ∀ {x : SV} {v : Value}, SR m x v → SR m' x v := by
  intro x v hx
  cases x <;> simp only [SR] at hx ⊢ <;> try exact hx
  · obtain ⟨mb, b, h1, h2⟩ := hx; exact ⟨mb, b, h _ _ h1, h2⟩
  · obtain ⟨mb, h1, h2⟩ := hx; exact ⟨mb, h _ _ h1, h2⟩
  · obtain ⟨mb, b, c, h1, h2⟩ := hx; exact ⟨mb, b, c, h _ _ h1, h2⟩
  · obtain ⟨mb, b, h1, h2⟩ := hx; exact ⟨mb, b, h _ _ h1, h2⟩
  · obtain ⟨vs, h1, h2⟩ := hx; exact ⟨vs, h1, h2.mono fun _ _ ⟨mb, b, e, r⟩ => ⟨mb, b, h _ _ e, r⟩⟩
  · obtain ⟨mb, b, h1, h2⟩ := hx; exact ⟨mb, b, h _ _ h1, h2⟩

theorem SR.one {m : MM} {x : SV} {v : Value} (h : SR m x v) (hk : x.known = true) : v.oneCell' = true := by
  cases x <;> simp only [SR] at h
  case any => simp [SV.known] at hk
  case ptr => obtain ⟨_, _, _, _, rfl⟩ := h; rfl
  case sl =>
    obtain ⟨mb, _, _, h | ⟨_, _, _, h, _⟩⟩ := h
    · rw [h.2.1]; rfl
    · rw [h]; rfl
  case vw => obtain ⟨_, _, _, _, _, rfl⟩ := h; rfl
  case mp => obtain ⟨_, _, _, _, rfl⟩ := h; rfl
  case fn => obtain ⟨_, rfl, _⟩ := h; rfl
  case yield => obtain ⟨_, _, _, _, rfl⟩ := h; rfl
  all_goals subst h; rfl

def bcells (n : Nat) (f : Nat → Bool) : List Value := (List.range n).map fun i => .bool (f i)
theorem bcells_length (n : Nat) (f : Nat → Bool) : (bcells n f).length = n := by simp [bcells]
theorem bcells_get (n : Nat) (f : Nat → Bool) (i : Nat) (h : i < n) : (bcells n f)[i]? = some (.bool (f i)) := by simp [bcells, h]

/-- known cells, then bools -/
def PR (m : MM) (pre : List SV) (n : Nat) (f : Nat → Bool) (cs : List Value) : Prop :=
  ∃ vs, All2 (SR m) pre vs ∧ (∀ v ∈ vs, Value.oneCell' v = true) ∧ cs = vs ++ bcells n f

theorem PR.le {m m' : MM} (h : m.le m') {pre : List SV} {n : Nat} {f : Nat → Bool} {cs : List Value} : PR m pre n f cs → PR m' pre n f cs :=
  fun ⟨vs, a, b, c⟩ => ⟨vs, a.mono fun _ _ => SR.le h, b, c⟩

theorem PR.length {m : MM} {pre : List SV} {n : Nat} {f : Nat → Bool} {cs : List Value} (h : PR m pre n f cs) : cs.length = pre.length + n := by
  obtain ⟨vs, a, _, rfl⟩ := h
  simp [bcells_length, a.length]

theorem PR.one {m : MM} {pre : List SV} {n : Nat} {f : Nat → Bool} {cs : List Value} (h : PR m pre n f cs) : ∀ v ∈ cs, Value.oneCell' v = true := by
  obtain ⟨vs, _, b, rfl⟩ := h
  intro v hv
  rcases List.mem_append.1 hv with hv | hv
  · exact b v hv
  · simp [bcells] at hv; obtain ⟨i, _, rfl⟩ := hv; rfl

theorem PR.mk {m : MM} {pre : List SV} {vs : List Value} (n : Nat) (f : Nat → Bool) (h : All2 (SR m) pre vs) (hk : pre.all SV.known = true) : PR m pre n f (vs ++ bcells n f) := by
  refine ⟨vs, h, ?_, rfl⟩
  clear n f
  induction pre generalizing vs with
  | nil => cases vs with
    | nil => simp
    | cons _ _ => exact h.elim
  | cons x pre ih => cases vs with
    | nil => exact h.elim
    | cons v vs =>
      simp at hk
      intro u hu
      rcases List.mem_cons.1 hu with rfl | hu
      · exact h.1.one hk.1
      · exact ih h.2 (by simpa using hk.2) u hu

def AR (m : MM) : AV → Value → Prop
  | .s x, v => SR m x v
  | .pb pre n f, v => ∃ cs, v = .agg cs.toArray ∧ PR m pre n f cs

theorem AR.le {m m' : MM} (h : m.le m') : ∀ {x : AV} {v : Value}, AR m x v → AR m' x v
  | .s _, _, hx => SR.le h hx
  | .pb .., _, ⟨cs, e, hp⟩ => ⟨cs, e, hp.le h⟩

def TR (m : MM) : TV → Value → Prop
  | .av x, v => AR m x v
  | .tup l, v => ∃ vs, v = .tuple vs.toArray ∧ All2 (AR m) l vs

theorem TR.le {m m' : MM} (h : m.le m') : ∀ {x : TV} {v : Value}, TR m x v → TR m' x v
  | .av _, _, hx => AR.le h hx
  | .tup _, _, ⟨vs, e, hp⟩ => ⟨vs, e, hp.mono fun _ _ => AR.le h⟩

def SlotR (m : MM) (s : Slot) (v : Value) : Prop := (s.c = true → TR m s.v v) ∧ (s.c = false → v = undef)

theorem SlotR.le {m m' : MM} (h : m.le m') {s : Slot} {v : Value} : SlotR m s v → SlotR m' s v := fun ⟨a, b⟩ => ⟨fun c => (a c).le h, b⟩

/-- a key or an element of a map, as a value -/
def valC (k : CK) : CV → Value
  | .is l => match k with
    | .int1 => .int .i64 (l.getD 0 0)
    | _ => .agg (l.map (Value.int .i64)).toArray
  | .bl b => .bool b
  | .bf f => match k with
    | .bools n => .agg (bcells n f).toArray
    | _ => .tuple #[]

def cvOk (k : CK) : CV → Bool
  | .is l => match k with | .int1 => l.length == 1 | .ints n => l.length == n | _ => false
  | .bl _ => match k with | .bool1 => true | _ => false
  | .bf _ => match k with | .bools _ => true | _ => false

structure Ctx where
  w0 : World
  Wb : Nat → Prop

/-- the compile that loops' bodies are held against (fixed in the next part) -/
abbrev Cmp := Nat → Code → Option XC

def jcode : PJ → Code
  | .ret => .ret
  | .exit id => .exit id

def LoopR (cmp : Cmp) (m : MM) (sl : Sto Slot) (ps : List Nat) (asg body : XC) (st : LS) (lo : Loop) : Prop :=
  (∀ t s, sl.get t = some s → SlotR m s (lo.tmps.getD t undef)) ∧ lo.params = ps.toArray ∧ (∀ t ∈ ps, t < lo.tmps.size) ∧ cmp lo.tmps.size lo.assign = some asg ∧ cmp lo.tmps.size lo.body = some body ∧
  (match st with
   | .ready => lo.state = .ready ∧ lo.pending = none
   | .busy => lo.state = .busy
   | .done j => lo.state = .done ∧ lo.pending = some (jcode j))

def OR (cmp : Cmp) (m : MM) (mb : MB) : AO → World → Prop
  | .row ty pre n f, w => ∃ b cs, mb.b = some b ∧ mb.base = 0 ∧ w.heap[b]? = some (.cells cs.toArray ty (0, 0)) ∧ PR m pre n f cs
  | .ivec ty k sz l, w => (mb.b = none ∧ l = [] ∧ mb.cap = 0) ∨
      ∃ b cur, mb.b = some b ∧ mb.base = 0 ∧ w.heap[b]? = some (.cells cur ty (0, 0)) ∧ cur.size = mb.cap * sz ∧ mb.cap ≤ maxLen ∧ (∀ j, j < l.length → cur[j]? = some (.int k (l.getD j 0)))
  | .xvec k _ l, w => (mb.b = none ∧ l = [] ∧ mb.cap = 0) ∨ ∃ b, mb.b = some b ∧ ∀ j, j < l.length → w.cell? ⟨b, mb.base + j, none⟩ = some (.int k (l.getD j 0))
  | .map kk vk ents, w => ∃ b es clock, mb.b = some b ∧ w.heap[b]? = some (.map es clock) ∧
      All2 (fun (e : CV × CV) (x : MapEntry) => cvOk kk e.1 = true ∧ cvOk vk e.2 = true ∧ x.key = valC kk e.1 ∧ x.val = valC vk e.2) ents es.toList
  | .loop sl ps asg body st, w => ∃ b lo, mb.b = some b ∧ w.heap[b]? = some (.loop lo) ∧ LoopR cmp m sl ps asg body st lo
  | .dfr, w => ∃ b, mb.b = some b ∧ w.heap[b]? = some (.deferred (some []))
  | .gone, _ => True

section
variable {cmp : Cmp}

theorem OR.le {m m' : MM} (h : m.le m') {mb : MB} {w : World} : ∀ {o : AO}, OR cmp m mb o w → OR cmp m' mb o w := by
  intro o ho
  cases o <;> simp only [OR] at ho ⊢ <;> try exact ho
  · obtain ⟨b, cs, h1, h2, h3, h4⟩ := ho; exact ⟨b, cs, h1, h2, h3, h4.le h⟩
  · obtain ⟨b, lo, h1, h2, h3, h4⟩ := ho
    exact ⟨b, lo, h1, h2, fun t s e => (h3 t s e).le h, h4⟩

/-- an object leans on its own block alone -/
theorem OR.block {m : MM} {mb : MB} {w w' : World} {o : AO} (hb : ∀ b, mb.b = some b → w'.heap[b]? = w.heap[b]?) (ho : OR cmp m mb o w) : OR cmp m mb o w' := by
  cases o <;> simp only [OR] at ho ⊢
  · obtain ⟨b, cs, h1, h2, h3, h4⟩ := ho; exact ⟨b, cs, h1, h2, (hb b h1).trans h3, h4⟩
  · rcases ho with ho | ⟨b, cur, h1, h2, h3, h4⟩
    · exact .inl ho
    · exact .inr ⟨b, cur, h1, h2, (hb b h1).trans h3, h4⟩
  · rcases ho with ho | ⟨b, h1, h2⟩
    · exact .inl ho
    · exact .inr ⟨b, h1, fun j hj => (World.cell?_of_block (hb b h1)).trans (h2 j hj)⟩
  · obtain ⟨b, es, c, h1, h2, h3⟩ := ho; exact ⟨b, es, c, h1, (hb b h1).trans h2, h3⟩
  · obtain ⟨b, lo, h1, h2, h3⟩ := ho; exact ⟨b, lo, h1, (hb b h1).trans h2, h3⟩
  · obtain ⟨b, h1, h2⟩ := ho; exact ⟨b, h1, (hb b h1).trans h2⟩

/-- an object that is there lies in the heap -/
theorem OR.lt {m : MM} {mb : MB} {w : World} {o : AO} {b : Nat} (ho : OR cmp m mb o w) (hb : mb.b = some b) (hl : HO.live ⟨true, o⟩ = true) (hx : ∀ k sz l, o = .xvec k sz l → b < w.heap.size) : b < w.heap.size := by
  have key : ∀ {x : Obj}, w.heap[b]? = some x → b < w.heap.size := fun h => (Array.getElem?_eq_some_iff.1 h).1
  cases o <;> simp only [OR] at ho
  · obtain ⟨b', cs, h1, h2, h3, h4⟩ := ho; rw [hb] at h1; cases h1; exact key h3
  · rcases ho with ⟨ho, _⟩ | ⟨b', cur, h1, h2, h3, h4⟩
    · rw [hb] at ho; cases ho
    · rw [hb] at h1; cases h1; exact key h3
  · exact hx _ _ _ rfl
  · obtain ⟨b', es, c, h1, h2, h3⟩ := ho; rw [hb] at h1; cases h1; exact key h2
  · obtain ⟨b', lo, h1, h2, h3⟩ := ho; rw [hb] at h1; cases h1; exact key h2
  · obtain ⟨b', h1, h2⟩ := ho; rw [hb] at h1; cases h1; exact key h2
  · simp [HO.live] at hl

/-- the objects as a world has them -/
structure HRel (cmp : Cmp) (ctx : Ctx) (m : MM) (h : Nat → Option HO) (w : World) : Prop where
  obj : ∀ id ho, h id = some ho → ∃ mb, m id = some mb ∧ OR cmp m mb ho.o w ∧ (ho.live = true → ∀ b, mb.b = some b → b < w.heap.size) ∧
    (ho.ro = false → ho.live = true → ∀ b, mb.b = some b → ctx.w0.heap.size ≤ b ∨ ctx.Wb b)
  dist : ∀ id id' ho ho' mb mb' b, id ≠ id' → h id = some ho → h id' = some ho' → ho.ro = false → ho.live = true → ho'.live = true → m id = some mb → m id' = some mb' → mb.b = some b → mb'.b ≠ some b
  dom : ∀ id, h id = none → m id = none
  os : w.os = ctx.w0.os
  tape : w.tape = ctx.w0.tape
  output : w.output = ctx.w0.output
  size : ctx.w0.heap.size ≤ w.heap.size
  same0 : ∀ b, b < ctx.w0.heap.size → ¬ ctx.Wb b → w.heap[b]? = ctx.w0.heap[b]?

/-- one step: some objects turned, some new -/
structure Stp (cmp : Cmp) (m m' : MM) (w w' : World) (ups : List (Nat × HO)) (base : Nat) (news : List HO) : Prop where
  ext : m.le m'
  dom : ∀ id mb, m' id = some mb → m id = some mb ∨ (base ≤ id ∧ id < base + news.length)
  size : w.heap.size ≤ w'.heap.size
  same : ∀ b, b < w.heap.size → (∀ u ∈ ups, ∀ mb, m u.1 = some mb → mb.b ≠ some b) → w'.heap[b]? = w.heap[b]?
  os : w'.os = w.os
  tape : w'.tape = w.tape
  output : w'.output = w.output
  upd : ∀ u ∈ ups, ∃ mb, m u.1 = some mb ∧ OR cmp m' mb u.2.o w'
  new : ∀ k ho, news[k]? = some ho → ∃ mb, m' (base + k) = some mb ∧ OR cmp m' mb ho.o w' ∧ ∀ b, mb.b = some b → b < w'.heap.size ∧
    (w.heap.size ≤ b ∨ ∃ u ∈ ups, u.2.live = false ∧ ∃ mbu, m u.1 = some mbu ∧ mbu.b = some b)
  ndist : ∀ k k' mb mb' b, k < news.length → k' < news.length → k ≠ k' → m' (base + k) = some mb → m' (base + k') = some mb' → mb.b = some b → mb'.b ≠ some b

end
end Go.Proofs.Yteekkjfjpoaihaa.Eng

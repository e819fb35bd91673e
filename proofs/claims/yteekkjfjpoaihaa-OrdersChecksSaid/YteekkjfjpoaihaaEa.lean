/- The engine, part 1: abstract values and objects, the small code, the executor. Definitions alone. -/
import Derived.Test.YteekkjfjpoaihaaRows
import Derived.WalkKit
set_option linter.all false
namespace Go.Proofs.Yteekkjfjpoaihaa.Eng
open Go

/-- one cell -/
inductive SV where
  | int (k : IntKind) (n : Int)
  | bool (b : Bool)
  | nilp
  | ptr (id base off : Nat)
  | nils
  | sl (id off sz len : Nat)
  | vw (id off sz len : Nat)
  | nilm
  | mp (id : Nat)
  | nilf
  | fn (f : FuncId) (caps : List Nat)
  | yield (id : Nat)
  | any

def SV.known : SV → Bool
  | .any => false
  | _ => true

/-- a value: one cell, or some cells and then n bools -/
inductive AV where
  | s (x : SV)
  | pb (pre : List SV) (n : Nat) (f : Nat → Bool)

inductive TV where
  | av (x : AV)
  | tup (l : List AV)

structure Slot where
  c : Bool
  v : TV

abbrev anyT : TV := .av (.s .any)
abbrev I (n : Int) : TV := .av (.s (.int .i64 n))
abbrev B (b : Bool) : TV := .av (.s (.bool b))
def ff : Nat → Bool := fun _ => false

inductive Tr (α : Type) where
  | nil
  | node (v : Option α) (l r : Tr α)

theorem beqT {a b : Nat} (h : a = b) : Nat.beq a b = true := by subst h; exact Nat.beq_refl a
theorem beqF {a b : Nat} (h : ¬ a = b) : Nat.beq a b = false := by
  cases hh : Nat.beq a b with
  | false => rfl
  | true => exact absurd (Nat.eq_of_beq_eq_true hh) h

noncomputable def Tr.get {α : Type} (t : Tr α) : Nat → Option α :=
  Tr.rec (fun _ => none) (fun v _ _ gl gr i => bif Nat.beq i 0 then v else bif Nat.beq (Nat.mod i 2) 1 then gl (Nat.div i 2) else gr (Nat.pred (Nat.div i 2))) t
theorem Tr.get_nil {α : Type} (i : Nat) : (Tr.nil : Tr α).get i = none := rfl
theorem Tr.get_node {α : Type} (v : Option α) (l r : Tr α) (i : Nat) : (Tr.node v l r).get i = bif Nat.beq i 0 then v else bif Nat.beq (i % 2) 1 then l.get (i / 2) else r.get (i / 2 - 1) := rfl

noncomputable def Tr.setF {α : Type} (k : Nat) : Tr α → Nat → α → Tr α :=
  Nat.rec (fun t _ _ => t) (fun _ ih t i x => Tr.casesOn t
    (bif Nat.beq i 0 then .node (some x) .nil .nil else bif Nat.beq (Nat.mod i 2) 1 then .node none (ih .nil (Nat.div i 2) x) .nil else .node none .nil (ih .nil (Nat.pred (Nat.div i 2)) x))
    (fun v l r => bif Nat.beq i 0 then .node (some x) l r else bif Nat.beq (Nat.mod i 2) 1 then .node v (ih l (Nat.div i 2) x) r else .node v l (ih r (Nat.pred (Nat.div i 2)) x))) k
theorem Tr.setF_nil {α : Type} (k : Nat) (i : Nat) (x : α) : Tr.setF (k + 1) .nil i x = bif Nat.beq i 0 then .node (some x) .nil .nil else bif Nat.beq (i % 2) 1 then .node none (Tr.setF k .nil (i / 2) x) .nil else .node none .nil (Tr.setF k .nil (i / 2 - 1) x) := rfl
theorem Tr.setF_node {α : Type} (k : Nat) (v : Option α) (l r : Tr α) (i : Nat) (x : α) : Tr.setF (k + 1) (.node v l r) i x = bif Nat.beq i 0 then .node (some x) l r else bif Nat.beq (i % 2) 1 then .node v (Tr.setF k l (i / 2) x) r else .node v l (Tr.setF k r (i / 2 - 1) x) := rfl

noncomputable def Tr.set {α : Type} (t : Tr α) (i : Nat) (x : α) : Tr α := Tr.setF (i + 1) t i x

theorem Tr.get_setF {α : Type} (x : α) : ∀ (k : Nat) (t : Tr α) (i j : Nat), i < k → (Tr.setF k t i x).get j = if j = i then some x else t.get j := by
  intro k
  induction k with
  | zero => intro t i j h; omega
  | succ k ih =>
    intro t i j h
    cases t <;>
    · simp only [Tr.setF_nil, Tr.setF_node]
      by_cases h0 : i = 0
      · subst h0
        simp only [Nat.beq_refl, cond_true, Tr.get_nil, Tr.get_node]
        by_cases hj : j = 0
        · subst hj; simp
        · have : Nat.beq j 0 = false := beqF hj
          first | (simp [this, hj]; done) | simp [this, hj, Tr.get_nil, Tr.get_node]
      · have hb : Nat.beq i 0 = false := beqF h0
        simp only [hb, cond_false]
        by_cases h1 : i % 2 = 1
        · have hb1 : Nat.beq (i % 2) 1 = true := beqT h1
          simp only [hb1, cond_true, Tr.get_nil, Tr.get_node]
          by_cases hj : j = 0
          · subst hj
            have : ¬ (0 = i) := fun e => h0 e.symm
            simp [this]
          · have hbj : Nat.beq j 0 = false := beqF hj
            simp only [hbj, cond_false]
            by_cases hj1 : j % 2 = 1
            · have hbj1 : Nat.beq (j % 2) 1 = true := beqT hj1
              simp only [hbj1, cond_true]
              rw [ih _ _ _ (by omega)]
              have : (j / 2 = i / 2) ↔ (j = i) := by omega
              simp [this, Tr.get_nil, Tr.get_node]
            · have hbj1 : Nat.beq (j % 2) 1 = false := beqF hj1
              have : ¬ (j = i) := fun e => hj1 (e ▸ h1)
              first | (simp [hbj1, this]; done) | simp [hbj1, this, Tr.get_nil, Tr.get_node]
        · have hb1 : Nat.beq (i % 2) 1 = false := beqF h1
          simp only [hb1, cond_false, Tr.get_nil, Tr.get_node]
          by_cases hj : j = 0
          · subst hj
            have : ¬ (0 = i) := fun e => h0 e.symm
            simp [this]
          · have hbj : Nat.beq j 0 = false := beqF hj
            simp only [hbj, cond_false]
            by_cases hj1 : j % 2 = 1
            · have hbj1 : Nat.beq (j % 2) 1 = true := beqT hj1
              have : ¬ (j = i) := fun e => h1 (e ▸ hj1)
              first | (simp [hbj1, this]; done) | simp [hbj1, this, Tr.get_nil, Tr.get_node]
            · have hbj1 : Nat.beq (j % 2) 1 = false := beqF hj1
              simp only [hbj1, cond_false]
              rw [ih _ _ _ (by omega)]
              have : (j / 2 - 1 = i / 2 - 1) ↔ (j = i) := by omega
              simp [this, Tr.get_nil, Tr.get_node]

theorem Tr.get_set {α : Type} (t : Tr α) (i j : Nat) (x : α) : (t.set i x).get j = if j = i then some x else t.get j :=
  Tr.get_setF x _ t i j (Nat.lt_succ_self i)

/-- a store: a list of entries (for proofs by hand), or a tree (for runs by the kernel) -/
inductive Sto (α : Type) where
  | al (l : List (Nat × α))
  | tr (t : Tr α)

noncomputable def alGet {α : Type} (l : List (Nat × α)) (j : Nat) : Option α := List.rec none (fun p _ ih => bif Nat.beq p.1 j then some p.2 else ih) l
theorem alGet_nil {α : Type} (j : Nat) : alGet ([] : List (Nat × α)) j = none := rfl
theorem alGet_cons {α : Type} (i : Nat) (x : α) (r : List (Nat × α)) (j : Nat) : alGet ((i, x) :: r) j = bif Nat.beq i j then some x else alGet r j := rfl

noncomputable def Sto.get {α : Type} : Sto α → Nat → Option α
  | .al l, i => alGet l i
  | .tr t, i => t.get i

noncomputable def Sto.set {α : Type} : Sto α → Nat → α → Sto α
  | .al l, i, x => .al ((i, x) :: l)
  | .tr t, i, x => .tr (t.set i x)

theorem Sto.get_set {α : Type} (s : Sto α) (i j : Nat) (x : α) : (s.set i x).get j = if j = i then some x else s.get j := by
  cases s with
  | al l =>
    simp only [Sto.set, Sto.get, alGet_cons]
    by_cases h : j = i
    · subst h; simp
    · have : Nat.beq i j = false := beqF fun e => h e.symm
      simp [this, h]
  | tr t => simp only [Sto.set, Sto.get, Tr.get_set]

noncomputable def Sto.setAll {α : Type} (s : Sto α) (l : List (Nat × α)) : Sto α := List.rec (fun s => s) (fun p _ ih s => ih (s.set p.1 p.2)) l s
theorem Sto.setAll_nil {α : Type} (s : Sto α) : s.setAll [] = s := rfl
theorem Sto.setAll_cons {α : Type} (s : Sto α) (i : Nat) (x : α) (r : List (Nat × α)) : s.setAll ((i, x) :: r) = (s.set i x).setAll r := rfl

/-- what a map's keys and elements are -/
inductive CV where
  | is (l : List Int)
  | bl (b : Bool)
  | bf (f : Nat → Bool)
inductive CK where
  | ints (n : Nat)
  | int1
  | bool1
  | bools (n : Nat)
  deriving DecidableEq

inductive XO where
  | t (n : Nat)
  | c (v : AV)

/-- one cell, or p cells and then q bools -/
inductive LK where
  | one
  | many (p q : Nat)

/-- what '==' compares: bools; a slice and nil; aggregates of p ints and n bools -/
inductive EK where
  | b
  | nil
  | agg (p n : Nat)

inductive XI where
  | mv (x : XO)
  | pick (c a b : XO)
  | alloc (ty : TypeId) (z : AV)
  | box (ty : TypeId) (x : XO)
  | bld (z : AV) (parts : List ((Nat × Nat) × XO))
  | bsl (ty : TypeId) (k : IntKind) (sz len : Nat) (parts : List (Nat × XO))
  | bslB (ty : TypeId) (sz len : Nat) (parts : List (Nat × XO))
  | ld (lk : LK) (a : XO)
  | st (lk : LK) (a v : XO)
  | nck (x : XO)
  | bin (op : BinOp) (x y : XO)
  | eqv (k : EK) (neg : Bool) (x y : XO)
  | not (x : XO)
  | neg (x : XO)
  | conv (k : IntKind) (x : XO)
  | slc (sz : Nat) (x : XO) (lo hi : Option XO)
  | slcA (n sz : Nat) (x : XO) (lo hi : Option XO)
  | fad (off : Nat) (x : XO)
  | iad (n sz : Nat) (x i : XO)
  | iadS (sz : Nat) (x i : XO)
  | fld (off : Nat) (lk : LK) (x : XO)
  | idx (n sz : Nat) (lk : LK) (x i : XO)
  | lkup (kk vk : CK) (ok : Bool) (m k : XO)
  | mupd (kk vk : CK) (m k v : XO)
  | mmk (kk vk : CK)
  | mkS (ty : TypeId) (k : IntKind) (n : XO)
  | mkSB (ty : TypeId) (n : XO)
  | mkf (f : FuncId) (caps : List XO)
  | extr (x : XO) (i : Nat)
  | len (x : XO)
  | lenM (x : XO)
  | mn (xs : List XO)
  | mx (xs : List XO)
  | app (ty : TypeId) (k : IntKind) (sz : Nat) (s x : XO)
  | call (f : XO) (args : List XO)
  | bad

/-- one operation: where it goes; under which guard (a slot and what it must hold); the place of its first new id; how many -/
structure XOp where
  dst : Option Nat
  g : Option (Nat × Bool)
  x : XI
  off : Nat

inductive XC where
  | skip
  | reg (ops : List XOp) (tot : Nat)
  | regD (ops : List XOp) (tot : Nat) (chk : List (Nat × Nat))
  | seq (a b : XC)
  | cond (c : XO) (a b : XC)
  | block (id : Nat) (b : XC)
  | loop (b : XC)
  | rf (f : XO) (ps : List Nat) (asg body : XC)
  | exit (id : Nat)
  | scope (b : XC)
  | label (l : Nat)
  | ret

inductive PJ where
  | ret
  | exit (id : Nat)

/-- where a range over a function stands -/
inductive LS where
  | ready
  | busy
  | done (j : PJ)

inductive AO where
  | row (ty : TypeId) (pre : List SV) (n : Nat) (f : Nat → Bool)
  | ivec (ty : TypeId) (k : IntKind) (sz : Nat) (l : List Int)
  | xvec (k : IntKind) (sz : Nat) (l : List Int)
  | map (kk vk : CK) (ents : List (CV × CV))
  | loop (sl : Sto Slot) (ps : List Nat) (asg body : XC) (st : LS)
  | dfr
  | gone

structure HO where
  ro : Bool
  o : AO

def HO.live (h : HO) : Bool := match h.o with | .gone => false | _ => true

structure St where
  sl : Sto Slot
  hp : Sto HO
  nx : Nat
  df : List Nat

structure Eff where
  vc : Bool
  val : TV
  upd : List (Nat × HO)
  news : List HO
  rd : Option (List Nat)

structure Spec where
  run : List AV → (Nat → Option HO) → Nat → Option Eff

inductive Cal where
  | f (f : FuncId)
  | y (id : Nat)

/-! ### the operations -/

def pureE (vc : Bool) (v : TV) : Option Eff := some ⟨vc, v, [], [], some []⟩

def rng64 : Int → Bool
  | .ofNat n => Nat.ble n 9223372036854775807
  | .negSucc n => Nat.ble n 9223372036854775807
theorem rng64_eq (e : Int) : rng64 e = (decide (-9223372036854775808 ≤ e) && decide (e ≤ 9223372036854775807)) := by
  cases e with
  | ofNat n =>
    simp only [rng64]
    rw [Bool.eq_iff_iff, Nat.ble_eq]
    simp
    omega
  | negSucc n =>
    simp only [rng64]
    rw [Bool.eq_iff_iff, Nat.ble_eq]
    simp
    omega

/-- a sum that is not to wrap (int), or wraps (the others) -/
def arith (k : IntKind) (e : Int) : Option Eff :=
  match k with
  | .i64 => pureE (rng64 e) (I e)
  | k => pureE true (.av (.s (.int k (k.wrap e))))

def bitop (op : BinOp) (k : IntKind) (x y : Int) : Int :=
  match op with
  | .and => k.wrap ((BitVec.ofInt k.bits x &&& BitVec.ofInt k.bits y).toNat)
  | .or => k.wrap ((BitVec.ofInt k.bits x ||| BitVec.ofInt k.bits y).toNat)
  | .xor => k.wrap ((BitVec.ofInt k.bits x ^^^ BitVec.ofInt k.bits y).toNat)
  | _ => k.wrap ((BitVec.ofInt k.bits x &&& ~~~ BitVec.ofInt k.bits y).toNat)

def binI (op : BinOp) (k : IntKind) (a b : Int) : Option Eff :=
  match op with
  | .add => arith k (a + b)
  | .sub => arith k (a - b)
  | .mul => arith k (a * b)
  | .quo => match k with
    | .i64 => pureE (decide (b ≠ 0) && rng64 (a.tdiv b)) (I (a.tdiv b))
    | k => pureE (decide (b ≠ 0)) (.av (.s (.int k (k.wrap (a.tdiv b)))))
  | .rem => pureE (decide (b ≠ 0)) (.av (.s (.int k (a.tmod b))))
  | .and => pureE true (.av (.s (.int k (bitop .and k a b))))
  | .or => pureE true (.av (.s (.int k (bitop .or k a b))))
  | .xor => pureE true (.av (.s (.int k (bitop .xor k a b))))
  | .andNot => pureE true (.av (.s (.int k (bitop .andNot k a b))))
  | .eql => pureE true (B (a == b))
  | .neq => pureE true (B (a != b))
  | .lss => pureE true (B (decide (a < b)))
  | .leq => pureE true (B (decide (a ≤ b)))
  | .gtr => pureE true (B (decide (a > b)))
  | .geq => pureE true (B (decide (a ≥ b)))
  | _ => none

def shI (op : BinOp) (k : IntKind) (a b : Int) : Option Eff :=
  match op with
  | .shl => match k with
    | .i64 => pureE (decide (0 ≤ b) && rng64 (a * 2 ^ (min b.toNat 64))) (I (a * 2 ^ (min b.toNat 64)))
    | k => pureE (decide (0 ≤ b)) (.av (.s (.int k (k.wrap (a * 2 ^ (min b.toNat k.bits))))))
  | .shr => pureE (decide (0 ≤ b)) (.av (.s (.int k (a.fdiv (2 ^ (min b.toNat k.bits))))))
  | _ => none

def eqNil : SV → SV → Option (Bool × Bool)
  | .nils, .nils => some (true, true)
  | .nils, .sl _ _ _ len => some (decide (0 < len), false)
  | .sl _ _ _ len, .nils => some (decide (0 < len), false)
  | _, _ => none

def eqB : Nat → (Nat → Bool) → (Nat → Bool) → Bool
  | 0, _, _ => true
  | n + 1, f, g => eqB n f g && (f n == g n)

def intsOf (k : IntKind) : List SV → Option (List Int)
  | [] => some []
  | .int k' a :: r => if k = k' then (intsOf k r).map (a :: ·) else none
  | _ :: _ => none

def eqT : EK → TV → TV → Option (Bool × Bool)
  | .b, .av (.s (.bool a)), .av (.s (.bool b)) => some (true, a == b)
  | .nil, .av (.s x), .av (.s y) => eqNil x y
  | .agg p n, .av (.pb l n1 f), .av (.pb r n2 g) => if n1 = n ∧ n2 = n ∧ l.length = p ∧ r.length = p then
      (match intsOf .i64 l, intsOf .i64 r with
       | some a, some b => some (true, a == b && eqB n f g)
       | _, _ => none) else none
  | _, _, _ => none

def ldO : LK → AO → Nat → Nat → Option (Bool × AV)
  | .one, .row _ pre n f, base, off =>
    bif Nat.blt base pre.length then some (Nat.blt (base + off) pre.length, .s (pre.getD (base + off) .any))
    else some (decide (base - pre.length + off < n), .s (.bool (f (base - pre.length + off))))
  | .many p q, .row _ pre n f, base, off =>
    bif Nat.beq base 0 && Nat.beq p pre.length && Nat.beq q n then some (decide (off = 0), .pb pre n f)
    else bif Nat.beq p 0 && Nat.ble pre.length base then some (decide (base - pre.length + off + q ≤ n), .pb [] q fun j => f (base - pre.length + off + j))
    else bif Nat.beq q 0 then some (decide (base + off + p ≤ pre.length), .pb ((pre.drop (base + off)).take p) 0 ff)
    else none
  | .one, .ivec _ k _ l, base, off => some (decide (base + off < l.length), .s (.int k (l.getD (base + off) 0)))
  | .one, .xvec k _ l, base, off => some (decide (base + off < l.length), .s (.int k (l.getD (base + off) 0)))
  | .many p q, .ivec _ k _ l, base, off => bif Nat.beq q 0 then some (decide (base + off + p ≤ l.length), .pb ((List.range p).map fun j => .int k (l.getD (base + off + j) 0)) 0 ff) else none
  | .many p q, .xvec k _ l, base, off => bif Nat.beq q 0 then some (decide (base + off + p ≤ l.length), .pb ((List.range p).map fun j => .int k (l.getD (base + off + j) 0)) 0 ff) else none
  | _, _, _, _ => none

def setMany (l : List Int) (o : Nat) : List Int → List Int
  | [] => l
  | a :: r => setMany (l.set o a) (o + 1) r

def stO : LK → AO → Nat → Nat → AV → Option (Bool × AO)
  | .one, .row ty pre n f, base, off, .s v =>
    bif Nat.blt base pre.length then (if v.known then some (Nat.blt (base + off) pre.length, .row ty (pre.set (base + off) v) n f) else none)
    else match v with
      | .bool b => some (decide (base - pre.length + off < n), .row ty pre n fun j => bif Nat.beq j (base - pre.length + off) then b else f j)
      | _ => none
  | .many p q, .row ty pre n _, base, off, .pb pre' n' f' =>
    bif Nat.beq base 0 && Nat.beq p pre.length && Nat.beq q n && Nat.beq n' n && Nat.beq pre'.length pre.length && pre'.all SV.known then some (decide (off = 0), .row ty pre' n f')
    else bif Nat.beq p 0 && Nat.beq q n && Nat.beq n' n && Nat.beq pre'.length 0 && Nat.beq base pre.length then some (decide (off = 0), .row ty pre n f')
    else none
  | .one, .ivec ty k sz l, base, off, .s (.int k' a) => if k = k' then some (decide (base + off < l.length), .ivec ty k sz (l.set (base + off) a)) else none
  | .many p q, .ivec ty k sz l, base, off, .pb pre' n' _ =>
    bif Nat.beq q 0 && Nat.beq n' 0 && Nat.beq pre'.length p then (intsOf k pre').map fun r => (decide (base + off + p ≤ l.length), .ivec ty k sz (setMany l (base + off) r)) else none
  | _, _, _, _, _ => none

def rowOf (ty : TypeId) : AV → Option AO
  | .s x => if x.known then some (.row ty [x] 0 ff) else none
  | .pb pre n f => if pre.all SV.known then some (.row ty pre n f) else none

def bldP : AV → List ((Nat × Nat) × TV) → Option AV
  | z, [] => some z
  | .pb pre n f, ((o, sz), .av (.s v)) :: r => if sz = 1 ∧ o < pre.length ∧ v.known then bldP (.pb (pre.set o v) n f) r else none
  | .pb pre n _, ((o, sz), .av (.pb [] n' f')) :: r => if o = pre.length ∧ n' = n ∧ sz = n then bldP (.pb pre n f') r else none
  | _, _ => none

def bslP (k : IntKind) (sz : Nat) : List Int → List (Nat × TV) → Option (List Int)
  | l, [] => some l
  | l, (i, .av (.s (.int k' a))) :: r => if k = k' ∧ sz = 1 ∧ i < l.length then bslP k sz (l.set i a) r else none
  | l, (i, .av (.pb pre 0 _)) :: r => if pre.length = sz ∧ (i + 1) * sz ≤ l.length then (intsOf k pre).bind fun q => bslP k sz (setMany l (i * sz) q) r else none
  | _, _ => none

def bslBP (sz len : Nat) : (Nat → Bool) → List (Nat × TV) → Option (Nat → Bool)
  | f, [] => some f
  | f, (i, .av (.pb [] n g)) :: r => if n = sz ∧ i < len then bslBP sz len (fun j => bif Nat.ble (i * sz) j && Nat.blt j (i * sz + sz) then g (j - i * sz) else f j) r else none
  | _, _ => none

def allAV : List TV → Option (List AV)
  | [] => some []
  | .av x :: r => (allAV r).map (x :: ·)
  | _ => none

def allIds : List TV → Option (List Nat)
  | [] => some []
  | .av (.s (.ptr id 0 0)) :: r => (allIds r).map (id :: ·)
  | _ => none

def allInts : List TV → Option (IntKind × List Int)
  | [.av (.s (.int k a))] => some (k, [a])
  | .av (.s (.int k a)) :: r => (allInts r).bind fun (k', l) => if k = k' then some (k, a :: l) else none
  | _ => none

def cvOf (kk : CK) : AV → Option CV
  | .s (.int k a) => match kk with | .int1 => if k = .i64 then some (.is [a]) else none | _ => none
  | .s (.bool b) => match kk with | .bool1 => some (.bl b) | _ => none
  | .pb pre n f => match kk with
    | .ints p => if pre.length = p ∧ n = 0 then (intsOf .i64 pre).map .is else none
    | .bools q => if pre.length = 0 ∧ n = q then some (.bf f) else none
    | _ => none
  | _ => none

def avOf (vk : CK) (c : Option CV) : AV :=
  match vk with
  | .int1 => .s (.int .i64 (match c with | some (.is (a :: _)) => a | _ => 0))
  | .bool1 => .s (.bool (match c with | some (.bl b) => b | _ => false))
  | .ints n => .pb ((List.range n).map fun j => .int .i64 (match c with | some (.is l) => l.getD j 0 | _ => 0)) 0 ff
  | .bools n => .pb [] n (match c with | some (.bf f) => f | _ => ff)

def eqC (kk : CK) : CV → CV → Bool
  | .is a, .is b => a == b
  | .bl a, .bl b => a == b
  | .bf f, .bf g => match kk with | .bools n => eqB n f g | _ => false
  | _, _ => false

def findC (kk : CK) (k : CV) : List (CV × CV) → Option CV
  | [] => none
  | (a, v) :: r => bif eqC kk k a then some v else findC kk k r

def updC (kk : CK) (k v : CV) : List (CV × CV) → List (CV × CV)
  | [] => [(k, v)]
  | (a, u) :: r => bif eqC kk k a then (k, v) :: r else (a, u) :: updC kk k v r

def srcOf : TV → (Nat → Option HO) → IntKind → Nat → Option (Bool × List Int × Nat × List Nat)
  | .av (.s .nils), _, _, _ => some (true, [], 0, [])
  | .av (.s (.sl id off sz len)), h, k, sz' =>
    if sz = sz' then
      match h id with
      | some ⟨_, .ivec _ k' _ l⟩ => if k = k' then some (decide ((off + len) * sz ≤ l.length), (l.drop (off * sz)).take (len * sz), len, [id]) else none
      | some ⟨_, .xvec k' _ l⟩ => if k = k' then some (decide ((off + len) * sz ≤ l.length), (l.drop (off * sz)).take (len * sz), len, [id]) else none
      | _ => none
    else none
  | _, _, _, _ => none

def bndL (n : Nat) : Bool := decide (n ≤ 1000000000)

def callE (Γ : Cal → Option Spec) (c : Cal) (args : List AV) (h : Nat → Option HO) (base : Nat) : Option Eff :=
  match Γ c with
  | some sp => sp.run args h base
  | none => none

def capArgs (caps : List Nat) : List AV := caps.map fun id => .s (.ptr id 0 0)

def xi (Γ : Cal → Option Spec) (x : XI) (ev : XO → TV) (h : Nat → Option HO) (base : Nat) : Option Eff :=
  match x with
  | .mv x => pureE true (ev x)
  | .pick c a b => match ev c with
    | .av (.s (.bool t)) => match ev a, ev b with
      | .av (.s (.bool p)), .av (.s (.bool q)) => pureE true (B (bif t then p else q))
      | .av (.s (.bool p)), _ => pureE t (B p)
      | _, .av (.s (.bool q)) => pureE (!t) (B q)
      | _, _ => none
    | _ => none
  | .alloc ty z => (rowOf ty z).map fun o => ⟨true, .av (.s (.ptr base 0 0)), [], [⟨false, o⟩], some []⟩
  | .box ty x => match ev x with
    | .av v => (rowOf ty v).map fun o => ⟨true, .av (.s (.ptr base 0 0)), [], [⟨false, o⟩], some []⟩
    | _ => none
  | .bld z parts => (bldP z (parts.map fun p => (p.1, ev p.2))).bind fun v => pureE true (.av v)
  | .bsl ty k sz len parts => (bslP k sz (List.replicate (len * sz) 0) (parts.map fun p => (p.1, ev p.2))).map fun l => ⟨true, .av (.s (.sl base 0 sz len)), [], [⟨false, .ivec ty k sz l⟩], some []⟩
  | .bslB ty sz len parts => (bslBP sz len ff (parts.map fun p => (p.1, ev p.2))).map fun f => ⟨true, .av (.s (.sl base 0 sz len)), [], [⟨false, .row ty [] (len * sz) f⟩], some []⟩
  | .ld lk a => match ev a with
    | .av (.s (.ptr id b o)) => match h id with
      | some ho => (ldO lk ho.o b o).map fun r => ⟨r.1, .av r.2, [], [], some [id]⟩
      | none => none
    | _ => none
  | .st lk a v => match ev a, ev v with
    | .av (.s (.ptr id b o)), .av v => match h id with
      | some ⟨false, ob⟩ => (stO lk ob b o v).map fun r => ⟨r.1, anyT, [(id, ⟨false, r.2⟩)], [], some [id]⟩
      | _ => none
    | _, _ => none
  | .nck x => match ev x with
    | .av (.s (.ptr id b o)) => pureE true (.av (.s (.ptr id b o)))
    | .av (.s (.fn f c)) => pureE true (.av (.s (.fn f c)))
    | .av (.s (.yield i)) => pureE true (.av (.s (.yield i)))
    | _ => none
  | .bin op x y => match ev x, ev y with
    | .av (.s (.int k a)), .av (.s (.int k' b)) => match op with
      | .shl => shI .shl k a b
      | .shr => shI .shr k a b
      | op => if k = k' then binI op k a b else none
    | _, _ => none
  | .eqv k neg x y => (eqT k (ev x) (ev y)).bind fun r => pureE r.1 (B (neg != r.2))
  | .not x => match ev x with
    | .av (.s (.bool b)) => pureE true (B (!b))
    | _ => none
  | .neg x => match ev x with
    | .av (.s (.int k a)) => arith k (0 - a)
    | _ => none
  | .conv k x => match ev x with
    | .av (.s (.int _ a)) => pureE true (.av (.s (.int k (k.wrap a))))
    | _ => none
  | .slc sz x lo hi =>
    match ev x, lo.map ev, hi.map ev with
    | .av (.s (.sl id off sz' len)), none, none => if sz = sz' then pureE true (.av (.s (.sl id off sz len))) else none
    | .av (.s (.sl id off sz' len)), none, some (.av (.s (.int _ b))) => if sz = sz' then pureE (decide (0 ≤ b) && decide (b ≤ len)) (.av (.s (.sl id off sz b.toNat))) else none
    | .av (.s (.sl id off sz' len)), some (.av (.s (.int _ a))), none => if sz = sz' then pureE (decide (0 ≤ a) && decide (a ≤ len)) (.av (.s (.sl id (off + a.toNat) sz (len - a.toNat)))) else none
    | .av (.s .nils), none, none => pureE true (.av (.s .nils))
    | .av (.s .nils), none, some (.av (.s (.int _ b))) => pureE (decide (b = 0)) (.av (.s .nils))
    | .av (.s .nils), some (.av (.s (.int _ a))), none => pureE (decide (a = 0)) (.av (.s .nils))
    | _, _, _ => none
  | .slcA n sz x lo hi => match ev x, lo, hi with
    | .av (.s (.ptr id b o)), none, none => pureE true (.av (.s (.vw id (b + o) sz n)))
    | _, _, _ => none
  | .fad off x => match ev x with
    | .av (.s (.ptr id b o)) => pureE true (.av (.s (.ptr id (b + off) o)))
    | _ => none
  | .iad n sz x i => match ev x, ev i with
    | .av (.s (.ptr id b o)), .av (.s (.int _ a)) => pureE (decide (0 ≤ a) && decide (a < n)) (.av (.s (.ptr id b (o + a.toNat * sz))))
    | _, _ => none
  | .iadS sz x i => match ev x, ev i with
    | .av (.s (.sl id off sz' len)), .av (.s (.int _ a)) => if sz = sz' then pureE (decide (0 ≤ a) && decide (a < len)) (.av (.s (.ptr id 0 ((off + a.toNat) * sz)))) else none
    | .av (.s (.vw id off sz' len)), .av (.s (.int _ a)) => if sz = sz' then pureE (decide (0 ≤ a) && decide (a < len)) (.av (.s (.ptr id 0 (off + a.toNat * sz)))) else none
    | _, _ => none
  | .fld off lk x => match ev x with
    | .av (.pb pre n f) => (ldO lk (.row 0 pre n f) off 0).bind fun r => pureE r.1 (.av r.2)
    | _ => none
  | .idx n sz lk x i => match ev x, ev i with
    | .av (.pb pre m f), .av (.s (.int _ a)) => (ldO lk (.row 0 pre m f) 0 (a.toNat * sz)).bind fun r => pureE (r.1 && decide (0 ≤ a) && decide (a < n)) (.av r.2)
    | _, _ => none
  | .lkup kk vk ok m k => match ev m, ev k with
    | .av (.s .nilm), .av kv => (cvOf kk kv).bind fun _ => pureE true (bif ok then .tup [avOf vk none, .s (.bool false)] else .av (avOf vk none))
    | .av (.s (.mp id)), .av kv => match h id with
      | some ⟨_, .map kk' vk' ents⟩ => if kk = kk' ∧ vk = vk' then (cvOf kk kv).map fun c =>
          ⟨true, (bif ok then .tup [avOf vk (findC kk c ents), .s (.bool (findC kk c ents).isSome)] else .av (avOf vk (findC kk c ents))), [], [], some [id]⟩ else none
      | _ => none
    | _, _ => none
  | .mupd kk vk m k v => match ev m, ev k, ev v with
    | .av (.s (.mp id)), .av kv, .av vv => match h id with
      | some ⟨false, .map kk' vk' ents⟩ => if kk = kk' ∧ vk = vk' then (cvOf kk kv).bind fun c => (cvOf vk vv).map fun d => ⟨true, anyT, [(id, ⟨false, .map kk vk (updC kk c d ents)⟩)], [], some [id]⟩ else none
      | _ => none
    | _, _, _ => none
  | .mmk kk vk => some ⟨true, .av (.s (.mp base)), [], [⟨false, .map kk vk []⟩], some []⟩
  | .mkS ty k n => match ev n with
    | .av (.s (.int _ a)) => some ⟨decide (0 ≤ a) && bndL a.toNat, .av (.s (.sl base 0 1 a.toNat)), [], [⟨false, .ivec ty k 1 (List.replicate a.toNat 0)⟩], some []⟩
    | _ => none
  | .mkSB ty n => match ev n with
    | .av (.s (.int _ a)) => some ⟨decide (0 ≤ a) && bndL a.toNat, .av (.s (.sl base 0 1 a.toNat)), [], [⟨false, .row ty [] a.toNat ff⟩], some []⟩
    | _ => none
  | .mkf f caps => (allIds (caps.map ev)).bind fun l => pureE true (.av (.s (.fn f l)))
  | .extr x i => match ev x with
    | .tup l => match l[i]? with
      | some v => pureE true (.av v)
      | none => none
    | _ => none
  | .len x => match ev x with
    | .av (.s (.sl _ _ _ len)) => pureE true (I len)
    | .av (.s (.vw _ _ _ len)) => pureE true (I len)
    | .av (.s .nils) => pureE true (I 0)
    | _ => none
  | .lenM x => match ev x with
    | .av (.s .nilm) => pureE true (I 0)
    | .av (.s (.mp id)) => match h id with
      | some ⟨_, .map _ _ ents⟩ => some ⟨true, I ents.length, [], [], some [id]⟩
      | _ => none
    | _ => none
  | .mn xs => match allInts (xs.map ev) with
    | some (k, a :: r) => pureE true (.av (.s (.int k (r.foldl min a))))
    | _ => none
  | .mx xs => match allInts (xs.map ev) with
    | some (k, a :: r) => pureE true (.av (.s (.int k (r.foldl max a))))
    | _ => none
  | .app ty k sz s x => match srcOf (ev x) h k sz with
    | some (vc, q, m, rd) => match ev s with
      | .av (.s .nils) => some ⟨vc && bndL m, .av (.s (.sl base 0 sz m)), [], [⟨false, .ivec ty k sz q⟩], some rd⟩
      | .av (.s (.sl id off sz' len)) => match h id with
        | some ⟨false, .ivec ty' k' szo l⟩ => if sz = sz' ∧ ty = ty' ∧ k = k' ∧ off = 0 ∧ szo = sz then
            some ⟨vc && decide (len * sz ≤ l.length) && bndL (len + m), .av (.s (.sl base 0 sz (len + m))), [(id, ⟨false, .gone⟩)], [⟨false, .ivec ty k sz (l.take (len * sz) ++ q)⟩], some (id :: rd)⟩ else none
        | _ => none
      | _ => none
    | none => none
  | .call f args => match ev f, allAV (args.map ev) with
    | .av (.s (.fn f caps)), some vs => callE Γ (.f f) (vs ++ capArgs caps) h base
    | .av (.s (.yield id)), some vs => callE Γ (.y id) vs h base
    | _, _ => none
  | .bad => none

end Go.Proofs.Yteekkjfjpoaihaa.Eng

/- A part of the proof of topChains_holds. -/
import Derived.Test.YteekkjfjpoaihaaRows
import Derived.WalkKit
import Derived.RangeFuncCalls
import Derived.OrdersIn
set_option linter.all false
namespace Go.Proofs.Yteekkjfjpoaihaa.Eng
open Go
/-- one cell -/
inductive SV where
  | int (k : IntKind) (n : Int)
  | bool (b : Bool)
  | nilp
  | ptr (id base off : Nat)
  | nils
  | sl (id off sz len : Nat)
  | vw (id off sz len : Nat)
  | nilm
  | mp (id : Nat)
  | nilf
  | fn (f : FuncId) (caps : List Nat)
  | yield (id : Nat)
  | any
def SV.known : SV → Bool
  | .any => false
  | _ => true
/-- a value: one cell, or some cells and then n bools -/
inductive AV where
  | s (x : SV)
  | pb (pre : List SV) (n : Nat) (f : Nat → Bool)
inductive TV where
  | av (x : AV)
  | tup (l : List AV)
structure Slot where
  c : Bool
  v : TV
abbrev anyT : TV := .av (.s .any)
abbrev I (n : Int) : TV := .av (.s (.int .i64 n))
abbrev B (b : Bool) : TV := .av (.s (.bool b))
def ff : Nat → Bool := fun _ => false
inductive Tr (α : Type) where
  | nil
  | node (v : Option α) (l r : Tr α)
theorem beqT {a b : Nat} (h : a = b) : Nat.beq a b = true := by subst h; exact Nat.beq_refl a
theorem beqF {a b : Nat} (h : ¬ a = b) : Nat.beq a b = false := by
  cases hh : Nat.beq a b with
  | false => rfl
  | true => exact absurd (Nat.eq_of_beq_eq_true hh) h
noncomputable def Tr.get {α : Type} (t : Tr α) : Nat → Option α :=
  Tr.rec (fun _ => none) (fun v _ _ gl gr i => bif Nat.beq i 0 then v else bif Nat.beq (Nat.mod i 2) 1 then gl (Nat.div i 2) else gr (Nat.pred (Nat.div i 2))) t
theorem Tr.get_nil {α : Type} (i : Nat) : (Tr.nil : Tr α).get i = none := rfl
theorem Tr.get_node {α : Type} (v : Option α) (l r : Tr α) (i : Nat) : (Tr.node v l r).get i = bif Nat.beq i 0 then v else bif Nat.beq (i % 2) 1 then l.get (i / 2) else r.get (i / 2 - 1) := rfl
noncomputable def Tr.setF {α : Type} (k : Nat) : Tr α → Nat → α → Tr α :=
  Nat.rec (fun t _ _ => t) (fun _ ih t i x => Tr.casesOn t
    (bif Nat.beq i 0 then .node (some x) .nil .nil else bif Nat.beq (Nat.mod i 2) 1 then .node none (ih .nil (Nat.div i 2) x) .nil else .node none .nil (ih .nil (Nat.pred (Nat.div i 2)) x))
    (fun v l r => bif Nat.beq i 0 then .node (some x) l r else bif Nat.beq (Nat.mod i 2) 1 then .node v (ih l (Nat.div i 2) x) r else .node v l (ih r (Nat.pred (Nat.div i 2)) x))) k
theorem Tr.setF_nil {α : Type} (k : Nat) (i : Nat) (x : α) : Tr.setF (k + 1) .nil i x = bif Nat.beq i 0 then .node (some x) .nil .nil else bif Nat.beq (i % 2) 1 then .node none (Tr.setF k .nil (i / 2) x) .nil else .node none .nil (Tr.setF k .nil (i / 2 - 1) x) := rfl
theorem Tr.setF_node {α : Type} (k : Nat) (v : Option α) (l r : Tr α) (i : Nat) (x : α) : Tr.setF (k + 1) (.node v l r) i x = bif Nat.beq i 0 then .node (some x) l r else bif Nat.beq (i % 2) 1 then .node v (Tr.setF k l (i / 2) x) r else .node v l (Tr.setF k r (i / 2 - 1) x) := rfl
noncomputable def Tr.set {α : Type} (t : Tr α) (i : Nat) (x : α) : Tr α := Tr.setF (i + 1) t i x
theorem Tr.get_setF {α : Type} (x : α) : ∀ (k : Nat) (t : Tr α) (i j : Nat), i < k → (Tr.setF k t i x).get j = if j = i then some x else t.get j := by
  intro k
  induction k with
  | zero => intro t i j h; omega
  | succ k ih =>
    intro t i j h
    cases t <;>
    · simp only [Tr.setF_nil, Tr.setF_node]
      by_cases h0 : i = 0
      · subst h0
        simp only [Nat.beq_refl, cond_true, Tr.get_nil, Tr.get_node]
        by_cases hj : j = 0
        · subst hj; simp
        · have : Nat.beq j 0 = false := beqF hj
          first | (simp [this, hj]; done) | simp [this, hj, Tr.get_nil, Tr.get_node]
      · have hb : Nat.beq i 0 = false := beqF h0
        simp only [hb, cond_false]
        by_cases h1 : i % 2 = 1
        · have hb1 : Nat.beq (i % 2) 1 = true := beqT h1
          simp only [hb1, cond_true, Tr.get_nil, Tr.get_node]
          by_cases hj : j = 0
          · subst hj
            have : ¬ (0 = i) := fun e => h0 e.symm
            simp [this]
          · have hbj : Nat.beq j 0 = false := beqF hj
            simp only [hbj, cond_false]
            by_cases hj1 : j % 2 = 1
            · have hbj1 : Nat.beq (j % 2) 1 = true := beqT hj1
              simp only [hbj1, cond_true]
              rw [ih _ _ _ (by omega)]
              have : (j / 2 = i / 2) ↔ (j = i) := by omega
              simp [this, Tr.get_nil, Tr.get_node]
            · have hbj1 : Nat.beq (j % 2) 1 = false := beqF hj1
              have : ¬ (j = i) := fun e => hj1 (e ▸ h1)
              first | (simp [hbj1, this]; done) | simp [hbj1, this, Tr.get_nil, Tr.get_node]
        · have hb1 : Nat.beq (i % 2) 1 = false := beqF h1
          simp only [hb1, cond_false, Tr.get_nil, Tr.get_node]
          by_cases hj : j = 0
          · subst hj
            have : ¬ (0 = i) := fun e => h0 e.symm
            simp [this]
          · have hbj : Nat.beq j 0 = false := beqF hj
            simp only [hbj, cond_false]
            by_cases hj1 : j % 2 = 1
            · have hbj1 : Nat.beq (j % 2) 1 = true := beqT hj1
              have : ¬ (j = i) := fun e => h1 (e ▸ hj1)
              first | (simp [hbj1, this]; done) | simp [hbj1, this, Tr.get_nil, Tr.get_node]
            · have hbj1 : Nat.beq (j % 2) 1 = false := beqF hj1
              simp only [hbj1, cond_false]
              rw [ih _ _ _ (by omega)]
              have : (j / 2 - 1 = i / 2 - 1) ↔ (j = i) := by omega
              simp [this, Tr.get_nil, Tr.get_node]
theorem Tr.get_set {α : Type} (t : Tr α) (i j : Nat) (x : α) : (t.set i x).get j = if j = i then some x else t.get j :=
  Tr.get_setF x _ t i j (Nat.lt_succ_self i)
/-- a store: a list of entries (for proofs by hand), or a tree (for runs by the kernel) -/
inductive Sto (α : Type) where
  | al (l : List (Nat × α))
  | tr (t : Tr α)
noncomputable def alGet {α : Type} (l : List (Nat × α)) (j : Nat) : Option α := List.rec none (fun p _ ih => bif Nat.beq p.1 j then some p.2 else ih) l
theorem alGet_nil {α : Type} (j : Nat) : alGet ([] : List (Nat × α)) j = none := rfl
theorem alGet_cons {α : Type} (i : Nat) (x : α) (r : List (Nat × α)) (j : Nat) : alGet ((i, x) :: r) j = bif Nat.beq i j then some x else alGet r j := rfl
noncomputable def Sto.get {α : Type} : Sto α → Nat → Option α
  | .al l, i => alGet l i
  | .tr t, i => t.get i
noncomputable def Sto.set {α : Type} : Sto α → Nat → α → Sto α
  | .al l, i, x => .al ((i, x) :: l)
  | .tr t, i, x => .tr (t.set i x)
theorem Sto.get_set {α : Type} (s : Sto α) (i j : Nat) (x : α) : (s.set i x).get j = if j = i then some x else s.get j := by
  cases s with
  | al l =>
    simp only [Sto.set, Sto.get, alGet_cons]
    by_cases h : j = i
    · subst h; simp
    · have : Nat.beq i j = false := beqF fun e => h e.symm
      simp [this, h]
  | tr t => simp only [Sto.set, Sto.get, Tr.get_set]
noncomputable def Sto.setAll {α : Type} (s : Sto α) (l : List (Nat × α)) : Sto α := List.rec (fun s => s) (fun p _ ih s => ih (s.set p.1 p.2)) l s
theorem Sto.setAll_cons {α : Type} (s : Sto α) (i : Nat) (x : α) (r : List (Nat × α)) : s.setAll ((i, x) :: r) = (s.set i x).setAll r := rfl
/-- what a map's keys and elements are -/
inductive CV where
  | is (l : List Int)
  | bl (b : Bool)
  | bf (f : Nat → Bool)
inductive CK where
  | ints (n : Nat)
  | int1
  | bool1
  | bools (n : Nat)
  deriving DecidableEq
inductive XO where
  | t (n : Nat)
  | c (v : AV)
/-- one cell, or p cells and then q bools -/
inductive LK where
  | one
  | many (p q : Nat)
/-- what '==' compares: bools; a slice and nil; aggregates of p ints and n bools -/
inductive EK where
  | b
  | nil
  | agg (p n : Nat)
inductive XI where
  | mv (x : XO)
  | pick (c a b : XO)
  | alloc (ty : TypeId) (z : AV)
  | box (ty : TypeId) (x : XO)
  | bld (z : AV) (parts : List ((Nat × Nat) × XO))
  | bsl (ty : TypeId) (k : IntKind) (sz len : Nat) (parts : List (Nat × XO))
  | bslB (ty : TypeId) (sz len : Nat) (parts : List (Nat × XO))
  | ld (lk : LK) (a : XO)
  | st (lk : LK) (a v : XO)
  | nck (x : XO)
  | bin (op : BinOp) (x y : XO)
  | eqv (k : EK) (neg : Bool) (x y : XO)
  | not (x : XO)
  | neg (x : XO)
  | conv (k : IntKind) (x : XO)
  | slc (sz : Nat) (x : XO) (lo hi : Option XO)
  | slcA (n sz : Nat) (x : XO) (lo hi : Option XO)
  | fad (off : Nat) (x : XO)
  | iad (n sz : Nat) (x i : XO)
  | iadS (sz : Nat) (x i : XO)
  | fld (off : Nat) (lk : LK) (x : XO)
  | idx (n sz : Nat) (lk : LK) (x i : XO)
  | lkup (kk vk : CK) (ok : Bool) (m k : XO)
  | mupd (kk vk : CK) (m k v : XO)
  | mmk (kk vk : CK)
  | mkS (ty : TypeId) (k : IntKind) (n : XO)
  | mkSB (ty : TypeId) (n : XO)
  | mkf (f : FuncId) (caps : List XO)
  | extr (x : XO) (i : Nat)
  | len (x : XO)
  | lenM (x : XO)
  | mn (xs : List XO)
  | mx (xs : List XO)
  | app (ty : TypeId) (k : IntKind) (sz : Nat) (s x : XO)
  | call (f : XO) (args : List XO)
  | bad
/-- one operation: where it goes; under which guard (a slot and what it must hold); the place of its first new id; how many -/
structure XOp where
  dst : Option Nat
  g : Option (Nat × Bool)
  x : XI
  off : Nat
inductive XC where
  | skip
  | reg (ops : List XOp) (tot : Nat)
  | regD (ops : List XOp) (tot : Nat) (chk : List (Nat × Nat))
  | seq (a b : XC)
  | cond (c : XO) (a b : XC)
  | block (id : Nat) (b : XC)
  | loop (b : XC)
  | rf (f : XO) (ps : List Nat) (asg body : XC)
  | exit (id : Nat)
  | scope (b : XC)
  | label (l : Nat)
  | ret
inductive PJ where
  | ret
  | exit (id : Nat)
/-- where a range over a function stands -/
inductive LS where
  | ready
  | busy
  | done (j : PJ)
inductive AO where
  | row (ty : TypeId) (pre : List SV) (n : Nat) (f : Nat → Bool)
  | ivec (ty : TypeId) (k : IntKind) (sz : Nat) (l : List Int)
  | xvec (k : IntKind) (sz : Nat) (l : List Int)
  | map (kk vk : CK) (ents : List (CV × CV))
  | loop (sl : Sto Slot) (ps : List Nat) (asg body : XC) (st : LS)
  | dfr
  | gone
structure HO where
  ro : Bool
  o : AO
def HO.live (h : HO) : Bool := match h.o with | .gone => false | _ => true
structure St where
  sl : Sto Slot
  hp : Sto HO
  nx : Nat
  df : List Nat
structure Eff where
  vc : Bool
  val : TV
  upd : List (Nat × HO)
  news : List HO
  rd : Option (List Nat)
structure Spec where
  run : List AV → (Nat → Option HO) → Nat → Option Eff
inductive Cal where
  | f (f : FuncId)
  | y (id : Nat)
def pureE (vc : Bool) (v : TV) : Option Eff := some ⟨vc, v, [], [], some []⟩
def rng64 : Int → Bool
  | .ofNat n => Nat.ble n 9223372036854775807
  | .negSucc n => Nat.ble n 9223372036854775807
theorem rng64_eq (e : Int) : rng64 e = (decide (-9223372036854775808 ≤ e) && decide (e ≤ 9223372036854775807)) := by
  cases e with
  | ofNat n =>
    simp only [rng64]
    rw [Bool.eq_iff_iff, Nat.ble_eq]
    simp
    omega
  | negSucc n =>
    simp only [rng64]
    rw [Bool.eq_iff_iff, Nat.ble_eq]
    simp
    omega
/-- a sum that is not to wrap (int), or wraps (the others) -/
def arith (k : IntKind) (e : Int) : Option Eff :=
  match k with
  | .i64 => pureE (rng64 e) (I e)
  | k => pureE true (.av (.s (.int k (k.wrap e))))
def bitop (op : BinOp) (k : IntKind) (x y : Int) : Int :=
  match op with
  | .and => k.wrap ((BitVec.ofInt k.bits x &&& BitVec.ofInt k.bits y).toNat)
  | .or => k.wrap ((BitVec.ofInt k.bits x ||| BitVec.ofInt k.bits y).toNat)
  | .xor => k.wrap ((BitVec.ofInt k.bits x ^^^ BitVec.ofInt k.bits y).toNat)
  | _ => k.wrap ((BitVec.ofInt k.bits x &&& ~~~ BitVec.ofInt k.bits y).toNat)
def binI (op : BinOp) (k : IntKind) (a b : Int) : Option Eff :=
  match op with
  | .add => arith k (a + b)
  | .sub => arith k (a - b)
  | .mul => arith k (a * b)
  | .quo => match k with
    | .i64 => pureE (decide (b ≠ 0) && rng64 (a.tdiv b)) (I (a.tdiv b))
    | k => pureE (decide (b ≠ 0)) (.av (.s (.int k (k.wrap (a.tdiv b)))))
  | .rem => pureE (decide (b ≠ 0)) (.av (.s (.int k (a.tmod b))))
  | .and => pureE true (.av (.s (.int k (bitop .and k a b))))
  | .or => pureE true (.av (.s (.int k (bitop .or k a b))))
  | .xor => pureE true (.av (.s (.int k (bitop .xor k a b))))
  | .andNot => pureE true (.av (.s (.int k (bitop .andNot k a b))))
  | .eql => pureE true (B (a == b))
  | .neq => pureE true (B (a != b))
  | .lss => pureE true (B (decide (a < b)))
  | .leq => pureE true (B (decide (a ≤ b)))
  | .gtr => pureE true (B (decide (a > b)))
  | .geq => pureE true (B (decide (a ≥ b)))
  | _ => none
def shI (op : BinOp) (k : IntKind) (a b : Int) : Option Eff :=
  match op with
  | .shl => match k with
    | .i64 => pureE (decide (0 ≤ b) && rng64 (a * 2 ^ (min b.toNat 64))) (I (a * 2 ^ (min b.toNat 64)))
    | k => pureE (decide (0 ≤ b)) (.av (.s (.int k (k.wrap (a * 2 ^ (min b.toNat k.bits))))))
  | .shr => pureE (decide (0 ≤ b)) (.av (.s (.int k (a.fdiv (2 ^ (min b.toNat k.bits))))))
  | _ => none
def eqNil : SV → SV → Option (Bool × Bool)
  | .nils, .nils => some (true, true)
  | .nils, .sl _ _ _ len => some (decide (0 < len), false)
  | .sl _ _ _ len, .nils => some (decide (0 < len), false)
  | _, _ => none
def eqB : Nat → (Nat → Bool) → (Nat → Bool) → Bool
  | 0, _, _ => true
  | n + 1, f, g => eqB n f g && (f n == g n)
def intsOf (k : IntKind) : List SV → Option (List Int)
  | [] => some []
  | .int k' a :: r => if k = k' then (intsOf k r).map (a :: ·) else none
  | _ :: _ => none
def eqT : EK → TV → TV → Option (Bool × Bool)
  | .b, .av (.s (.bool a)), .av (.s (.bool b)) => some (true, a == b)
  | .nil, .av (.s x), .av (.s y) => eqNil x y
  | .agg p n, .av (.pb l n1 f), .av (.pb r n2 g) => if n1 = n ∧ n2 = n ∧ l.length = p ∧ r.length = p then
      (match intsOf .i64 l, intsOf .i64 r with
       | some a, some b => some (true, a == b && eqB n f g)
       | _, _ => none) else none
  | _, _, _ => none
def ldO : LK → AO → Nat → Nat → Option (Bool × AV)
  | .one, .row _ pre n f, base, off =>
    bif Nat.blt base pre.length then some (Nat.blt (base + off) pre.length, .s (pre.getD (base + off) .any))
    else some (decide (base - pre.length + off < n), .s (.bool (f (base - pre.length + off))))
  | .many p q, .row _ pre n f, base, off =>
    bif Nat.beq base 0 && Nat.beq p pre.length && Nat.beq q n then some (decide (off = 0), .pb pre n f)
    else bif Nat.beq p 0 && Nat.ble pre.length base then some (decide (base - pre.length + off + q ≤ n), .pb [] q fun j => f (base - pre.length + off + j))
    else bif Nat.beq q 0 then some (decide (base + off + p ≤ pre.length), .pb ((pre.drop (base + off)).take p) 0 ff)
    else none
  | .one, .ivec _ k _ l, base, off => some (decide (base + off < l.length), .s (.int k (l.getD (base + off) 0)))
  | .one, .xvec k _ l, base, off => some (decide (base + off < l.length), .s (.int k (l.getD (base + off) 0)))
  | .many p q, .ivec _ k _ l, base, off => bif Nat.beq q 0 then some (decide (base + off + p ≤ l.length), .pb ((List.range p).map fun j => .int k (l.getD (base + off + j) 0)) 0 ff) else none
  | .many p q, .xvec k _ l, base, off => bif Nat.beq q 0 then some (decide (base + off + p ≤ l.length), .pb ((List.range p).map fun j => .int k (l.getD (base + off + j) 0)) 0 ff) else none
  | _, _, _, _ => none
def setMany (l : List Int) (o : Nat) : List Int → List Int
  | [] => l
  | a :: r => setMany (l.set o a) (o + 1) r
def stO : LK → AO → Nat → Nat → AV → Option (Bool × AO)
  | .one, .row ty pre n f, base, off, .s v =>
    bif Nat.blt base pre.length then (if v.known then some (Nat.blt (base + off) pre.length, .row ty (pre.set (base + off) v) n f) else none)
    else match v with
      | .bool b => some (decide (base - pre.length + off < n), .row ty pre n fun j => bif Nat.beq j (base - pre.length + off) then b else f j)
      | _ => none
  | .many p q, .row ty pre n _, base, off, .pb pre' n' f' =>
    bif Nat.beq base 0 && Nat.beq p pre.length && Nat.beq q n && Nat.beq n' n && Nat.beq pre'.length pre.length && pre'.all SV.known then some (decide (off = 0), .row ty pre' n f')
    else bif Nat.beq p 0 && Nat.beq q n && Nat.beq n' n && Nat.beq pre'.length 0 && Nat.beq base pre.length then some (decide (off = 0), .row ty pre n f')
    else none
  | .one, .ivec ty k sz l, base, off, .s (.int k' a) => if k = k' then some (decide (base + off < l.length), .ivec ty k sz (l.set (base + off) a)) else none
  | .many p q, .ivec ty k sz l, base, off, .pb pre' n' _ =>
    bif Nat.beq q 0 && Nat.beq n' 0 && Nat.beq pre'.length p then (intsOf k pre').map fun r => (decide (base + off + p ≤ l.length), .ivec ty k sz (setMany l (base + off) r)) else none
  | _, _, _, _, _ => none
def rowOf (ty : TypeId) : AV → Option AO
  | .s x => if x.known then some (.row ty [x] 0 ff) else none
  | .pb pre n f => if pre.all SV.known then some (.row ty pre n f) else none
def bldP : AV → List ((Nat × Nat) × TV) → Option AV
  | z, [] => some z
  | .pb pre n f, ((o, sz), .av (.s v)) :: r => if sz = 1 ∧ o < pre.length ∧ v.known then bldP (.pb (pre.set o v) n f) r else none
  | .pb pre n _, ((o, sz), .av (.pb [] n' f')) :: r => if o = pre.length ∧ n' = n ∧ sz = n then bldP (.pb pre n f') r else none
  | _, _ => none
def bslP (k : IntKind) (sz : Nat) : List Int → List (Nat × TV) → Option (List Int)
  | l, [] => some l
  | l, (i, .av (.s (.int k' a))) :: r => if k = k' ∧ sz = 1 ∧ i < l.length then bslP k sz (l.set i a) r else none
  | l, (i, .av (.pb pre 0 _)) :: r => if pre.length = sz ∧ (i + 1) * sz ≤ l.length then (intsOf k pre).bind fun q => bslP k sz (setMany l (i * sz) q) r else none
  | _, _ => none
def bslBP (sz len : Nat) : (Nat → Bool) → List (Nat × TV) → Option (Nat → Bool)
  | f, [] => some f
  | f, (i, .av (.pb [] n g)) :: r => if n = sz ∧ i < len then bslBP sz len (fun j => bif Nat.ble (i * sz) j && Nat.blt j (i * sz + sz) then g (j - i * sz) else f j) r else none
  | _, _ => none
def allAV : List TV → Option (List AV)
  | [] => some []
  | .av x :: r => (allAV r).map (x :: ·)
  | _ => none
def allIds : List TV → Option (List Nat)
  | [] => some []
  | .av (.s (.ptr id 0 0)) :: r => (allIds r).map (id :: ·)
  | _ => none
def allInts : List TV → Option (IntKind × List Int)
  | [.av (.s (.int k a))] => some (k, [a])
  | .av (.s (.int k a)) :: r => (allInts r).bind fun (k', l) => if k = k' then some (k, a :: l) else none
  | _ => none
def cvOf (kk : CK) : AV → Option CV
  | .s (.int k a) => match kk with | .int1 => if k = .i64 then some (.is [a]) else none | _ => none
  | .s (.bool b) => match kk with | .bool1 => some (.bl b) | _ => none
  | .pb pre n f => match kk with
    | .ints p => if pre.length = p ∧ n = 0 then (intsOf .i64 pre).map .is else none
    | .bools q => if pre.length = 0 ∧ n = q then some (.bf f) else none
    | _ => none
  | _ => none
def avOf (vk : CK) (c : Option CV) : AV :=
  match vk with
  | .int1 => .s (.int .i64 (match c with | some (.is (a :: _)) => a | _ => 0))
  | .bool1 => .s (.bool (match c with | some (.bl b) => b | _ => false))
  | .ints n => .pb ((List.range n).map fun j => .int .i64 (match c with | some (.is l) => l.getD j 0 | _ => 0)) 0 ff
  | .bools n => .pb [] n (match c with | some (.bf f) => f | _ => ff)
def eqC (kk : CK) : CV → CV → Bool
  | .is a, .is b => a == b
  | .bl a, .bl b => a == b
  | .bf f, .bf g => match kk with | .bools n => eqB n f g | _ => false
  | _, _ => false
def findC (kk : CK) (k : CV) : List (CV × CV) → Option CV
  | [] => none
  | (a, v) :: r => bif eqC kk k a then some v else findC kk k r
def updC (kk : CK) (k v : CV) : List (CV × CV) → List (CV × CV)
  | [] => [(k, v)]
  | (a, u) :: r => bif eqC kk k a then (k, v) :: r else (a, u) :: updC kk k v r
def srcOf : TV → (Nat → Option HO) → IntKind → Nat → Option (Bool × List Int × Nat × List Nat)
  | .av (.s .nils), _, _, _ => some (true, [], 0, [])
  | .av (.s (.sl id off sz len)), h, k, sz' =>
    if sz = sz' then
      match h id with
      | some ⟨_, .ivec _ k' _ l⟩ => if k = k' then some (decide ((off + len) * sz ≤ l.length), (l.drop (off * sz)).take (len * sz), len, [id]) else none
      | some ⟨_, .xvec k' _ l⟩ => if k = k' then some (decide ((off + len) * sz ≤ l.length), (l.drop (off * sz)).take (len * sz), len, [id]) else none
      | _ => none
    else none
  | _, _, _, _ => none
def bndL (n : Nat) : Bool := decide (n ≤ 1000000000)
def callE (Γ : Cal → Option Spec) (c : Cal) (args : List AV) (h : Nat → Option HO) (base : Nat) : Option Eff :=
  match Γ c with
  | some sp => sp.run args h base
  | none => none
def capArgs (caps : List Nat) : List AV := caps.map fun id => .s (.ptr id 0 0)
def xi (Γ : Cal → Option Spec) (x : XI) (ev : XO → TV) (h : Nat → Option HO) (base : Nat) : Option Eff :=
  match x with
  | .mv x => pureE true (ev x)
  | .pick c a b => match ev c with
    | .av (.s (.bool t)) => match ev a, ev b with
      | .av (.s (.bool p)), .av (.s (.bool q)) => pureE true (B (bif t then p else q))
      | .av (.s (.bool p)), _ => pureE t (B p)
      | _, .av (.s (.bool q)) => pureE (!t) (B q)
      | _, _ => none
    | _ => none
  | .alloc ty z => (rowOf ty z).map fun o => ⟨true, .av (.s (.ptr base 0 0)), [], [⟨false, o⟩], some []⟩
  | .box ty x => match ev x with
    | .av v => (rowOf ty v).map fun o => ⟨true, .av (.s (.ptr base 0 0)), [], [⟨false, o⟩], some []⟩
    | _ => none
  | .bld z parts => (bldP z (parts.map fun p => (p.1, ev p.2))).bind fun v => pureE true (.av v)
  | .bsl ty k sz len parts => (bslP k sz (List.replicate (len * sz) 0) (parts.map fun p => (p.1, ev p.2))).map fun l => ⟨true, .av (.s (.sl base 0 sz len)), [], [⟨false, .ivec ty k sz l⟩], some []⟩
  | .bslB ty sz len parts => (bslBP sz len ff (parts.map fun p => (p.1, ev p.2))).map fun f => ⟨true, .av (.s (.sl base 0 sz len)), [], [⟨false, .row ty [] (len * sz) f⟩], some []⟩
  | .ld lk a => match ev a with
    | .av (.s (.ptr id b o)) => match h id with
      | some ho => (ldO lk ho.o b o).map fun r => ⟨r.1, .av r.2, [], [], some [id]⟩
      | none => none
    | _ => none
  | .st lk a v => match ev a, ev v with
    | .av (.s (.ptr id b o)), .av v => match h id with
      | some ⟨false, ob⟩ => (stO lk ob b o v).map fun r => ⟨r.1, anyT, [(id, ⟨false, r.2⟩)], [], some [id]⟩
      | _ => none
    | _, _ => none
  | .nck x => match ev x with
    | .av (.s (.ptr id b o)) => pureE true (.av (.s (.ptr id b o)))
    | .av (.s (.fn f c)) => pureE true (.av (.s (.fn f c)))
    | .av (.s (.yield i)) => pureE true (.av (.s (.yield i)))
    | _ => none
  | .bin op x y => match ev x, ev y with
    | .av (.s (.int k a)), .av (.s (.int k' b)) => match op with
      | .shl => shI .shl k a b
      | .shr => shI .shr k a b
      | op => if k = k' then binI op k a b else none
    | _, _ => none
  | .eqv k neg x y => (eqT k (ev x) (ev y)).bind fun r => pureE r.1 (B (neg != r.2))
  | .not x => match ev x with
    | .av (.s (.bool b)) => pureE true (B (!b))
    | _ => none
  | .neg x => match ev x with
    | .av (.s (.int k a)) => arith k (0 - a)
    | _ => none
  | .conv k x => match ev x with
    | .av (.s (.int _ a)) => pureE true (.av (.s (.int k (k.wrap a))))
    | _ => none
  | .slc sz x lo hi =>
    match ev x, lo.map ev, hi.map ev with
    | .av (.s (.sl id off sz' len)), none, none => if sz = sz' then pureE true (.av (.s (.sl id off sz len))) else none
    | .av (.s (.sl id off sz' len)), none, some (.av (.s (.int _ b))) => if sz = sz' then pureE (decide (0 ≤ b) && decide (b ≤ len)) (.av (.s (.sl id off sz b.toNat))) else none
    | .av (.s (.sl id off sz' len)), some (.av (.s (.int _ a))), none => if sz = sz' then pureE (decide (0 ≤ a) && decide (a ≤ len)) (.av (.s (.sl id (off + a.toNat) sz (len - a.toNat)))) else none
    | .av (.s .nils), none, none => pureE true (.av (.s .nils))
    | .av (.s .nils), none, some (.av (.s (.int _ b))) => pureE (decide (b = 0)) (.av (.s .nils))
    | .av (.s .nils), some (.av (.s (.int _ a))), none => pureE (decide (a = 0)) (.av (.s .nils))
    | _, _, _ => none
  | .slcA n sz x lo hi => match ev x, lo, hi with
    | .av (.s (.ptr id b o)), none, none => pureE true (.av (.s (.vw id (b + o) sz n)))
    | _, _, _ => none
  | .fad off x => match ev x with
    | .av (.s (.ptr id b o)) => pureE true (.av (.s (.ptr id (b + off) o)))
    | _ => none
  | .iad n sz x i => match ev x, ev i with
    | .av (.s (.ptr id b o)), .av (.s (.int _ a)) => pureE (decide (0 ≤ a) && decide (a < n)) (.av (.s (.ptr id b (o + a.toNat * sz))))
    | _, _ => none
  | .iadS sz x i => match ev x, ev i with
    | .av (.s (.sl id off sz' len)), .av (.s (.int _ a)) => if sz = sz' then pureE (decide (0 ≤ a) && decide (a < len)) (.av (.s (.ptr id 0 ((off + a.toNat) * sz)))) else none
    | .av (.s (.vw id off sz' len)), .av (.s (.int _ a)) => if sz = sz' then pureE (decide (0 ≤ a) && decide (a < len)) (.av (.s (.ptr id 0 (off + a.toNat * sz)))) else none
    | _, _ => none
  | .fld off lk x => match ev x with
    | .av (.pb pre n f) => (ldO lk (.row 0 pre n f) off 0).bind fun r => pureE r.1 (.av r.2)
    | _ => none
  | .idx n sz lk x i => match ev x, ev i with
    | .av (.pb pre m f), .av (.s (.int _ a)) => (ldO lk (.row 0 pre m f) 0 (a.toNat * sz)).bind fun r => pureE (r.1 && decide (0 ≤ a) && decide (a < n)) (.av r.2)
    | _, _ => none
  | .lkup kk vk ok m k => match ev m, ev k with
    | .av (.s .nilm), .av kv => (cvOf kk kv).bind fun _ => pureE true (bif ok then .tup [avOf vk none, .s (.bool false)] else .av (avOf vk none))
    | .av (.s (.mp id)), .av kv => match h id with
      | some ⟨_, .map kk' vk' ents⟩ => if kk = kk' ∧ vk = vk' then (cvOf kk kv).map fun c =>
          ⟨true, (bif ok then .tup [avOf vk (findC kk c ents), .s (.bool (findC kk c ents).isSome)] else .av (avOf vk (findC kk c ents))), [], [], some [id]⟩ else none
      | _ => none
    | _, _ => none
  | .mupd kk vk m k v => match ev m, ev k, ev v with
    | .av (.s (.mp id)), .av kv, .av vv => match h id with
      | some ⟨false, .map kk' vk' ents⟩ => if kk = kk' ∧ vk = vk' then (cvOf kk kv).bind fun c => (cvOf vk vv).map fun d => ⟨true, anyT, [(id, ⟨false, .map kk vk (updC kk c d ents)⟩)], [], some [id]⟩ else none
      | _ => none
    | _, _, _ => none
  | .mmk kk vk => some ⟨true, .av (.s (.mp base)), [], [⟨false, .map kk vk []⟩], some []⟩
  | .mkS ty k n => match ev n with
    | .av (.s (.int _ a)) => some ⟨decide (0 ≤ a) && bndL a.toNat, .av (.s (.sl base 0 1 a.toNat)), [], [⟨false, .ivec ty k 1 (List.replicate a.toNat 0)⟩], some []⟩
    | _ => none
  | .mkSB ty n => match ev n with
    | .av (.s (.int _ a)) => some ⟨decide (0 ≤ a) && bndL a.toNat, .av (.s (.sl base 0 1 a.toNat)), [], [⟨false, .row ty [] a.toNat ff⟩], some []⟩
    | _ => none
  | .mkf f caps => (allIds (caps.map ev)).bind fun l => pureE true (.av (.s (.fn f l)))
  | .extr x i => match ev x with
    | .tup l => match l[i]? with
      | some v => pureE true (.av v)
      | none => none
    | _ => none
  | .len x => match ev x with
    | .av (.s (.sl _ _ _ len)) => pureE true (I len)
    | .av (.s (.vw _ _ _ len)) => pureE true (I len)
    | .av (.s .nils) => pureE true (I 0)
    | _ => none
  | .lenM x => match ev x with
    | .av (.s .nilm) => pureE true (I 0)
    | .av (.s (.mp id)) => match h id with
      | some ⟨_, .map _ _ ents⟩ => some ⟨true, I ents.length, [], [], some [id]⟩
      | _ => none
    | _ => none
  | .mn xs => match allInts (xs.map ev) with
    | some (k, a :: r) => pureE true (.av (.s (.int k (r.foldl min a))))
    | _ => none
  | .mx xs => match allInts (xs.map ev) with
    | some (k, a :: r) => pureE true (.av (.s (.int k (r.foldl max a))))
    | _ => none
  | .app ty k sz s x => match srcOf (ev x) h k sz with
    | some (vc, q, m, rd) => match ev s with
      | .av (.s .nils) => some ⟨vc && bndL m, .av (.s (.sl base 0 sz m)), [], [⟨false, .ivec ty k sz q⟩], some rd⟩
      | .av (.s (.sl id off sz' len)) => match h id with
        | some ⟨false, .ivec ty' k' szo l⟩ => if sz = sz' ∧ ty = ty' ∧ k = k' ∧ off = 0 ∧ szo = sz then
            some ⟨vc && decide (len * sz ≤ l.length) && bndL (len + m), .av (.s (.sl base 0 sz (len + m))), [(id, ⟨false, .gone⟩)], [⟨false, .ivec ty k sz (l.take (len * sz) ++ q)⟩], some (id :: rd)⟩ else none
        | _ => none
      | _ => none
    | none => none
  | .call f args => match ev f, allAV (args.map ev) with
    | .av (.s (.fn f caps)), some vs => callE Γ (.f f) (vs ++ capArgs caps) h base
    | .av (.s (.yield id)), some vs => callE Γ (.y id) vs h base
    | _, _ => none
  | .bad => none
end Go.Proofs.Yteekkjfjpoaihaa.Eng
namespace Go.Proofs.Yteekkjfjpoaihaa.Eng
open Go
def All2 {α β : Type} (R : α → β → Prop) : List α → List β → Prop
  | [], [] => True
  | a :: l, b :: r => R a b ∧ All2 R l r
  | _, _ => False
theorem All2.mono {α β : Type} {R R' : α → β → Prop} (h : ∀ a b, R a b → R' a b) : ∀ {l : List α} {r : List β}, All2 R l r → All2 R' l r
  | [], [], _ => trivial
  | _ :: _, _ :: _, ⟨h1, h2⟩ => ⟨h _ _ h1, All2.mono h h2⟩
  | [], _ :: _, h => h.elim
  | _ :: _, [], h => h.elim
theorem All2.length {α β : Type} {R : α → β → Prop} : ∀ {l : List α} {r : List β}, All2 R l r → r.length = l.length
  | [], [], _ => rfl
  | _ :: _, _ :: _, ⟨_, h2⟩ => by simp [All2.length h2]
  | [], _ :: _, h => h.elim
  | _ :: _, [], h => h.elim
theorem All2.get {α β : Type} {R : α → β → Prop} : ∀ {l : List α} {r : List β}, All2 R l r → ∀ {j : Nat} {a : α}, l[j]? = some a → ∃ b, r[j]? = some b ∧ R a b
  | _ :: _, b :: _, ⟨h1, _⟩, 0, a, e => ⟨b, rfl, by simp at e; exact e ▸ h1⟩
  | _ :: _, _ :: _, ⟨_, h2⟩, _ + 1, a, e => by simpa using All2.get h2 (by simpa using e)
  | [], [], _, i, a, e => by simp at e
  | [], _ :: _, h, _, _, _ => h.elim
  | _ :: _, [], h, _, _, _ => h.elim
theorem All2.set {α β : Type} {R : α → β → Prop} : ∀ {l : List α} {r : List β}, All2 R l r → ∀ {i : Nat} {a : α} {b : β}, R a b → All2 R (l.set i a) (r.set i b)
  | [], [], _, _, _, _, _ => trivial
  | _ :: _, _ :: _, ⟨_, h2⟩, 0, _, _, hr => ⟨hr, h2⟩
  | _ :: _, _ :: _, ⟨h1, h2⟩, _ + 1, _, _, hr => ⟨h1, All2.set h2 hr⟩
  | [], _ :: _, h, _, _, _, _ => h.elim
  | _ :: _, [], h, _, _, _, _ => h.elim
theorem All2.append {α β : Type} {R : α → β → Prop} : ∀ {l l' : List α} {r r' : List β}, All2 R l r → All2 R l' r' → All2 R (l ++ l') (r ++ r')
  | [], _, [], _, _, h => h
  | _ :: _, _, _ :: _, _, ⟨h1, h2⟩, h => ⟨h1, All2.append h2 h⟩
  | [], _, _ :: _, _, h, _ => h.elim
  | _ :: _, _, [], _, h, _ => h.elim
theorem All2.drop {α β : Type} {R : α → β → Prop} : ∀ (n : Nat) {l : List α} {r : List β}, All2 R l r → All2 R (l.drop n) (r.drop n)
  | 0, _, _, h => h
  | _ + 1, [], [], _ => trivial
  | n + 1, _ :: _, _ :: _, ⟨_, h2⟩ => All2.drop n h2
  | _ + 1, [], _ :: _, h => h.elim
  | _ + 1, _ :: _, [], h => h.elim
theorem All2.take {α β : Type} {R : α → β → Prop} : ∀ (n : Nat) {l : List α} {r : List β}, All2 R l r → All2 R (l.take n) (r.take n)
  | 0, _, _, _ => trivial
  | _ + 1, [], [], _ => trivial
  | n + 1, _ :: _, _ :: _, ⟨h1, h2⟩ => ⟨h1, All2.take n h2⟩
  | _ + 1, [], _ :: _, h => h.elim
  | _ + 1, _ :: _, [], h => h.elim
theorem All2.map {α β γ : Type} {R : α → β → Prop} (f : γ → α) (g : γ → β) : ∀ (l : List γ), (∀ x ∈ l, R (f x) (g x)) → All2 R (l.map f) (l.map g)
  | [], _ => trivial
  | x :: l, h => ⟨h x (by simp), All2.map f g l fun y hy => h y (by simp [hy])⟩
/-- where an id lies: its block (none: a nil slice's), where in it, the capacity -/
structure MB where
  b : Option Nat
  base : Nat
  cap : Nat
abbrev MM := Nat → Option MB
def MM.le (m m' : MM) : Prop := ∀ id mb, m id = some mb → m' id = some mb
theorem MM.le_refl (m : MM) : m.le m := fun _ _ h => h
theorem MM.le_trans {a b c : MM} (h : a.le b) (k : b.le c) : a.le c := fun id mb e => k id mb (h id mb e)
def SR (m : MM) : SV → Value → Prop
  | .int k n, v => v = .int k n
  | .bool b, v => v = .bool b
  | .nilp, v => v = .pointer none
  | .ptr id base off, v => ∃ mb b, m id = some mb ∧ mb.b = some b ∧ v = .pointer (some ⟨b, mb.base + (base + off), none⟩)
  | .nils, v => v = .slice none 0 0
  | .sl id off sz len, v => ∃ mb, m id = some mb ∧ off + len ≤ mb.cap ∧
      ((mb.b = none ∧ v = .slice none 0 0 ∧ off = 0 ∧ len = 0 ∧ mb.cap = 0) ∨
        ∃ b o, mb.b = some b ∧ v = .slice (some ⟨b, o, none⟩) len (mb.cap - off) ∧ ((len = 0 ∧ 0 < off) ∨ o = mb.base + off * sz))
  | .vw id off _ len, v => ∃ mb b c, m id = some mb ∧ mb.b = some b ∧ v = .slice (some ⟨b, mb.base + off, none⟩) len c
  | .nilm, v => v = .map none
  | .mp id, v => ∃ mb b, m id = some mb ∧ mb.b = some b ∧ v = .map (some b)
  | .nilf, v => v = .nilFunc
  | .fn f caps, v => ∃ vs, v = .func (.func f) #[] vs.toArray ∧ All2 (fun id x => ∃ mb b, m id = some mb ∧ mb.b = some b ∧ x = Value.pointer (some ⟨b, mb.base + (0 + 0), none⟩)) caps vs
  | .yield id, v => ∃ mb b, m id = some mb ∧ mb.b = some b ∧ v = .func (.yield b) #[] #[]
  | .any, _ => True
theorem SR.le {m m' : MM} (h : m.le m') : ∀ {x : SV} {v : Value}, SR m x v → SR m' x v := by
  intro x v hx
  cases x <;> simp only [SR] at hx ⊢ <;> try exact hx
  · obtain ⟨mb, b, h1, h2⟩ := hx; exact ⟨mb, b, h _ _ h1, h2⟩
  · obtain ⟨mb, h1, h2⟩ := hx; exact ⟨mb, h _ _ h1, h2⟩
  · obtain ⟨mb, b, c, h1, h2⟩ := hx; exact ⟨mb, b, c, h _ _ h1, h2⟩
  · obtain ⟨mb, b, h1, h2⟩ := hx; exact ⟨mb, b, h _ _ h1, h2⟩
  · obtain ⟨vs, h1, h2⟩ := hx; exact ⟨vs, h1, h2.mono fun _ _ ⟨mb, b, e, r⟩ => ⟨mb, b, h _ _ e, r⟩⟩
  · obtain ⟨mb, b, h1, h2⟩ := hx; exact ⟨mb, b, h _ _ h1, h2⟩
theorem SR.one {m : MM} {x : SV} {v : Value} (h : SR m x v) (hk : x.known = true) : v.oneCell' = true := by
  cases x <;> simp only [SR] at h
  case any => simp [SV.known] at hk
  case ptr => obtain ⟨_, _, _, _, rfl⟩ := h; rfl
  case sl =>
    obtain ⟨mb, _, _, h | ⟨_, _, _, h, _⟩⟩ := h
    · rw [h.2.1]; rfl
    · rw [h]; rfl
  case vw => obtain ⟨_, _, _, _, _, rfl⟩ := h; rfl
  case mp => obtain ⟨_, _, _, _, rfl⟩ := h; rfl
  case fn => obtain ⟨_, rfl, _⟩ := h; rfl
  case yield => obtain ⟨_, _, _, _, rfl⟩ := h; rfl
  all_goals subst h; rfl
def bcells (n : Nat) (f : Nat → Bool) : List Value := (List.range n).map fun i => .bool (f i)
theorem bcells_length (n : Nat) (f : Nat → Bool) : (bcells n f).length = n := by simp [bcells]
theorem bcells_get (n : Nat) (f : Nat → Bool) (i : Nat) (h : i < n) : (bcells n f)[i]? = some (.bool (f i)) := by simp [bcells, h]
/-- known cells, then bools -/
def PR (m : MM) (pre : List SV) (n : Nat) (f : Nat → Bool) (cs : List Value) : Prop :=
  ∃ vs, All2 (SR m) pre vs ∧ (∀ v ∈ vs, Value.oneCell' v = true) ∧ cs = vs ++ bcells n f
theorem PR.le {m m' : MM} (h : m.le m') {pre : List SV} {n : Nat} {f : Nat → Bool} {cs : List Value} : PR m pre n f cs → PR m' pre n f cs :=
  fun ⟨vs, a, b, c⟩ => ⟨vs, a.mono fun _ _ => SR.le h, b, c⟩
theorem PR.length {m : MM} {pre : List SV} {n : Nat} {f : Nat → Bool} {cs : List Value} (h : PR m pre n f cs) : cs.length = pre.length + n := by
  obtain ⟨vs, a, _, rfl⟩ := h
  simp [bcells_length, a.length]
theorem PR.one {m : MM} {pre : List SV} {n : Nat} {f : Nat → Bool} {cs : List Value} (h : PR m pre n f cs) : ∀ v ∈ cs, Value.oneCell' v = true := by
  obtain ⟨vs, _, b, rfl⟩ := h
  intro v hv
  rcases List.mem_append.1 hv with hv | hv
  · exact b v hv
  · simp [bcells] at hv; obtain ⟨i, _, rfl⟩ := hv; rfl
theorem PR.mk {m : MM} {pre : List SV} {vs : List Value} (n : Nat) (f : Nat → Bool) (h : All2 (SR m) pre vs) (hk : pre.all SV.known = true) : PR m pre n f (vs ++ bcells n f) := by
  refine ⟨vs, h, ?_, rfl⟩
  clear n f
  induction pre generalizing vs with
  | nil => cases vs with
    | nil => simp
    | cons _ _ => exact h.elim
  | cons x pre ih => cases vs with
    | nil => exact h.elim
    | cons v vs =>
      simp at hk
      intro u hu
      rcases List.mem_cons.1 hu with rfl | hu
      · exact h.1.one hk.1
      · exact ih h.2 (by simpa using hk.2) u hu
def AR (m : MM) : AV → Value → Prop
  | .s x, v => SR m x v
  | .pb pre n f, v => ∃ cs, v = .agg cs.toArray ∧ PR m pre n f cs
theorem AR.le {m m' : MM} (h : m.le m') : ∀ {x : AV} {v : Value}, AR m x v → AR m' x v
  | .s _, _, hx => SR.le h hx
  | .pb .., _, ⟨cs, e, hp⟩ => ⟨cs, e, hp.le h⟩
def TR (m : MM) : TV → Value → Prop
  | .av x, v => AR m x v
  | .tup l, v => ∃ vs, v = .tuple vs.toArray ∧ All2 (AR m) l vs
theorem TR.le {m m' : MM} (h : m.le m') : ∀ {x : TV} {v : Value}, TR m x v → TR m' x v
  | .av _, _, hx => AR.le h hx
  | .tup _, _, ⟨vs, e, hp⟩ => ⟨vs, e, hp.mono fun _ _ => AR.le h⟩
def SlotR (m : MM) (s : Slot) (v : Value) : Prop := (s.c = true → TR m s.v v) ∧ (s.c = false → v = undef)
theorem SlotR.le {m m' : MM} (h : m.le m') {s : Slot} {v : Value} : SlotR m s v → SlotR m' s v := fun ⟨a, b⟩ => ⟨fun c => (a c).le h, b⟩
/-- a key or an element of a map, as a value -/
def valC (k : CK) : CV → Value
  | .is l => match k with
    | .int1 => .int .i64 (l.getD 0 0)
    | _ => .agg (l.map (Value.int .i64)).toArray
  | .bl b => .bool b
  | .bf f => match k with
    | .bools n => .agg (bcells n f).toArray
    | _ => .tuple #[]
def cvOk (k : CK) : CV → Bool
  | .is l => match k with | .int1 => l.length == 1 | .ints n => l.length == n | _ => false
  | .bl _ => match k with | .bool1 => true | _ => false
  | .bf _ => match k with | .bools _ => true | _ => false
structure Ctx where
  w0 : World
  Wb : Nat → Prop
/-- the compile that loops' bodies are held against (fixed in the next part) -/
abbrev Cmp := Nat → Code → Option XC
def jcode : PJ → Code
  | .ret => .ret
  | .exit id => .exit id
def LoopR (cmp : Cmp) (m : MM) (sl : Sto Slot) (ps : List Nat) (asg body : XC) (st : LS) (lo : Loop) : Prop :=
  (∀ t s, sl.get t = some s → SlotR m s (lo.tmps.getD t undef)) ∧ lo.params = ps.toArray ∧ (∀ t ∈ ps, t < lo.tmps.size) ∧ cmp lo.tmps.size lo.assign = some asg ∧ cmp lo.tmps.size lo.body = some body ∧
  (match st with
   | .ready => lo.state = .ready ∧ lo.pending = none
   | .busy => lo.state = .busy
   | .done j => lo.state = .done ∧ lo.pending = some (jcode j))
def OR (cmp : Cmp) (m : MM) (mb : MB) : AO → World → Prop
  | .row ty pre n f, w => ∃ b cs, mb.b = some b ∧ mb.base = 0 ∧ w.heap[b]? = some (.cells cs.toArray ty (0, 0)) ∧ PR m pre n f cs
  | .ivec ty k sz l, w => (mb.b = none ∧ l = [] ∧ mb.cap = 0) ∨
      ∃ b cur, mb.b = some b ∧ mb.base = 0 ∧ w.heap[b]? = some (.cells cur ty (0, 0)) ∧ cur.size = mb.cap * sz ∧ mb.cap ≤ maxLen ∧ (∀ j, j < l.length → cur[j]? = some (.int k (l.getD j 0)))
  | .xvec k _ l, w => (mb.b = none ∧ l = [] ∧ mb.cap = 0) ∨ ∃ b, mb.b = some b ∧ ∀ j, j < l.length → w.cell? ⟨b, mb.base + j, none⟩ = some (.int k (l.getD j 0))
  | .map kk vk ents, w => ∃ b es clock, mb.b = some b ∧ w.heap[b]? = some (.map es clock) ∧
      All2 (fun (e : CV × CV) (x : MapEntry) => cvOk kk e.1 = true ∧ cvOk vk e.2 = true ∧ x.key = valC kk e.1 ∧ x.val = valC vk e.2) ents es.toList
  | .loop sl ps asg body st, w => ∃ b lo, mb.b = some b ∧ w.heap[b]? = some (.loop lo) ∧ LoopR cmp m sl ps asg body st lo
  | .dfr, w => ∃ b, mb.b = some b ∧ w.heap[b]? = some (.deferred (some []))
  | .gone, _ => True
section
variable {cmp : Cmp}
theorem OR.le {m m' : MM} (h : m.le m') {mb : MB} {w : World} : ∀ {o : AO}, OR cmp m mb o w → OR cmp m' mb o w := by
  intro o ho
  cases o <;> simp only [OR] at ho ⊢ <;> try exact ho
  · obtain ⟨b, cs, h1, h2, h3, h4⟩ := ho; exact ⟨b, cs, h1, h2, h3, h4.le h⟩
  · obtain ⟨b, lo, h1, h2, h3, h4⟩ := ho
    exact ⟨b, lo, h1, h2, fun t s e => (h3 t s e).le h, h4⟩
/-- an object leans on its own block alone -/
theorem OR.block {m : MM} {mb : MB} {w w' : World} {o : AO} (hb : ∀ b, mb.b = some b → w'.heap[b]? = w.heap[b]?) (ho : OR cmp m mb o w) : OR cmp m mb o w' := by
  cases o <;> simp only [OR] at ho ⊢
  · obtain ⟨b, cs, h1, h2, h3, h4⟩ := ho; exact ⟨b, cs, h1, h2, (hb b h1).trans h3, h4⟩
  · rcases ho with ho | ⟨b, cur, h1, h2, h3, h4⟩
    · exact .inl ho
    · exact .inr ⟨b, cur, h1, h2, (hb b h1).trans h3, h4⟩
  · rcases ho with ho | ⟨b, h1, h2⟩
    · exact .inl ho
    · exact .inr ⟨b, h1, fun j hj => (World.cell?_of_block (hb b h1)).trans (h2 j hj)⟩
  · obtain ⟨b, es, c, h1, h2, h3⟩ := ho; exact ⟨b, es, c, h1, (hb b h1).trans h2, h3⟩
  · obtain ⟨b, lo, h1, h2, h3⟩ := ho; exact ⟨b, lo, h1, (hb b h1).trans h2, h3⟩
  · obtain ⟨b, h1, h2⟩ := ho; exact ⟨b, h1, (hb b h1).trans h2⟩
/-- an object that is there lies in the heap -/
theorem OR.lt {m : MM} {mb : MB} {w : World} {o : AO} {b : Nat} (ho : OR cmp m mb o w) (hb : mb.b = some b) (hl : HO.live ⟨true, o⟩ = true) (hx : ∀ k sz l, o = .xvec k sz l → b < w.heap.size) : b < w.heap.size := by
  have key : ∀ {x : Obj}, w.heap[b]? = some x → b < w.heap.size := fun h => (Array.getElem?_eq_some_iff.1 h).1
  cases o <;> simp only [OR] at ho
  · obtain ⟨b', cs, h1, h2, h3, h4⟩ := ho; rw [hb] at h1; cases h1; exact key h3
  · rcases ho with ⟨ho, _⟩ | ⟨b', cur, h1, h2, h3, h4⟩
    · rw [hb] at ho; cases ho
    · rw [hb] at h1; cases h1; exact key h3
  · exact hx _ _ _ rfl
  · obtain ⟨b', es, c, h1, h2, h3⟩ := ho; rw [hb] at h1; cases h1; exact key h2
  · obtain ⟨b', lo, h1, h2, h3⟩ := ho; rw [hb] at h1; cases h1; exact key h2
  · obtain ⟨b', h1, h2⟩ := ho; rw [hb] at h1; cases h1; exact key h2
  · simp [HO.live] at hl
/-- the objects as a world has them -/
structure HRel (cmp : Cmp) (ctx : Ctx) (m : MM) (h : Nat → Option HO) (w : World) : Prop where
  obj : ∀ id ho, h id = some ho → ∃ mb, m id = some mb ∧ OR cmp m mb ho.o w ∧ (ho.live = true → ∀ b, mb.b = some b → b < w.heap.size) ∧
    (ho.ro = false → ho.live = true → ∀ b, mb.b = some b → ctx.w0.heap.size ≤ b ∨ ctx.Wb b)
  dist : ∀ id id' ho ho' mb mb' b, id ≠ id' → h id = some ho → h id' = some ho' → ho.ro = false → ho.live = true → ho'.live = true → m id = some mb → m id' = some mb' → mb.b = some b → mb'.b ≠ some b
  dom : ∀ id, h id = none → m id = none
  os : w.os = ctx.w0.os
  tape : w.tape = ctx.w0.tape
  output : w.output = ctx.w0.output
  size : ctx.w0.heap.size ≤ w.heap.size
  same0 : ∀ b, b < ctx.w0.heap.size → ¬ ctx.Wb b → w.heap[b]? = ctx.w0.heap[b]?
/-- one step: some objects turned, some new -/
structure Stp (cmp : Cmp) (m m' : MM) (w w' : World) (ups : List (Nat × HO)) (base : Nat) (news : List HO) : Prop where
  ext : m.le m'
  dom : ∀ id mb, m' id = some mb → m id = some mb ∨ (base ≤ id ∧ id < base + news.length)
  size : w.heap.size ≤ w'.heap.size
  same : ∀ b, b < w.heap.size → (∀ u ∈ ups, ∀ mb, m u.1 = some mb → mb.b ≠ some b) → w'.heap[b]? = w.heap[b]?
  os : w'.os = w.os
  tape : w'.tape = w.tape
  output : w'.output = w.output
  upd : ∀ u ∈ ups, ∃ mb, m u.1 = some mb ∧ OR cmp m' mb u.2.o w'
  new : ∀ k ho, news[k]? = some ho → ∃ mb, m' (base + k) = some mb ∧ OR cmp m' mb ho.o w' ∧ ∀ b, mb.b = some b → b < w'.heap.size ∧
    (w.heap.size ≤ b ∨ ∃ u ∈ ups, u.2.live = false ∧ ∃ mbu, m u.1 = some mbu ∧ mbu.b = some b)
  ndist : ∀ k k' mb mb' b, k < news.length → k' < news.length → k ≠ k' → m' (base + k) = some mb → m' (base + k') = some mb' → mb.b = some b → mb'.b ≠ some b
end
end Go.Proofs.Yteekkjfjpoaihaa.Eng
namespace Go.Proofs.Yteekkjfjpoaihaa.Eng
open Go
/-- of a type: its shape, its size in cells and bytes, its zero -/
structure TI where
  d : TypeDesc
  size : Nat
  bytes : Nat
  z : Option AV
abbrev Tab := TypeId → Option TI
def cV : Value → Option AV
  | .int k n => some (.s (.int k n))
  | .bool b => some (.s (.bool b))
  | .pointer none => some (.s .nilp)
  | .slice none 0 0 => some (.s .nils)
  | .map none => some (.s .nilm)
  | .nilFunc => some (.s .nilf)
  | _ => none
def cO : Operand → Option XO
  | .tmp t => some (.t t)
  | .const v => (cV v).map .c
  | .func f => some (.c (.s (.fn f [])))
  | .global _ => none
def cOs : List Operand → Option (List XO)
  | [] => some []
  | x :: r => (cO x).bind fun y => (cOs r).map fun l => y :: l
def cPs {β : Type} (f : Nat → Option β) : List (Nat × Operand) → Option (List (β × XO))
  | [] => some []
  | (i, x) :: r => (f i).bind fun o => (cO x).bind fun y => (cPs f r).map fun l => (o, y) :: l
def lkOf : AV → LK
  | .s _ => .one
  | .pb pre n _ => .many pre.length n
def zOf (T : Tab) (t : TypeId) : Option AV := (T t).bind (·.z)
def lkT (T : Tab) (t : TypeId) : Option LK := (zOf T t).map lkOf
def kindT (T : Tab) (t : TypeId) : Option IntKind :=
  match T t with
  | some ⟨.int k, _, _, _⟩ => some k
  | _ => none
/-- all its cells are ints of one kind: the kind, how many -/
def intsT (T : Tab) (t : TypeId) : Option (IntKind × Nat) :=
  match zOf T t with
  | some (.s (.int k a)) => if a = 0 then some (k, 1) else none
  | some (.pb (.int k a :: r) 0 _) => (intsOf k (.int k a :: r)).bind fun l => if l.all (fun x => x == 0) then some (k, l.length) else none
  | _ => none
def zFalse (z : Option AV) : Nat → Bool
  | 0 => true
  | n + 1 => (match z with | some (.pb _ _ f) => !f n | _ => false) && zFalse z n
/-- the aggregates that this program compares: so many ints, so many bools -/
def eqTab : List (Nat × (Nat × Nat)) := [(38, (2, 0)), (77, (2, 0)), (108, (2, 0)), (70, (0, 49)), (95, (0, 64))]
/-- of a key or an element: its kind; its zero is the zero -/
def ckT (T : Tab) (t : TypeId) : Option CK :=
  match zOf T t with
  | some (.s (.int .i64 a)) => if a = 0 then some .int1 else none
  | some (.s (.bool b)) => if b = false then some .bool1 else none
  | some (.pb [] n f) => if zFalse (some (.pb [] n f)) n then some (.bools n) else none
  | some (.pb (.int .i64 a :: r) 0 _) => (intsOf .i64 (.int .i64 a :: r)).bind fun l => if l.all (fun x => x == 0) then some (.ints l.length) else none
  | _ => none
/-- a key's type is one of those that are compared -/
noncomputable def keyOk (t : TypeId) : CK → Bool
  | .ints n => alGet eqTab t == some (n, 0)
  | .bools n => alGet eqTab t == some (0, n)
  | _ => false
noncomputable def ekT (T : Tab) (t : TypeId) : Option EK :=
  match T t with
  | some ⟨.bool, _, _, _⟩ => some .b
  | some ⟨.slice _, _, _, _⟩ => some .nil
  | some _ => (alGet eqTab t).map fun q => .agg q.1 q.2
  | none => none
def sizeT (T : Tab) (t : TypeId) : Option Nat := (T t).map (·.size)
def sameO : Operand → Operand → Bool
  | .tmp a, .tmp b => a == b
  | .const (.int _ a), .const (.int _ b) => a == b
  | _, _ => false
def cOpt : Option Operand → Option (Option XO)
  | none => some none
  | some x => (cO x).map some
noncomputable def compOp (T : Tab) (o : Oper) : Option XI :=
  match o.op with
  | .move x => (cO x).map .mv
  | .assign x => (cO x).map .mv
  | .pick c a b => (cO c).bind fun c => (cO a).bind fun a => (cO b).map fun b => .pick c a b
  | .alloc t => (zOf T t).map fun z => .alloc t z
  | .box t x => (T t).bind fun _ => (cO x).map fun x => .box t x
  | .build t parts => (zOf T t).bind fun z => match T t with
    | some ⟨.struct fs, _, _, _⟩ => if fs.toList.all (fun f => (T f.type).isSome) then (cPs (fun i => (fs[i]?).bind fun f => (sizeT T f.type).map fun n => (f.offset, n)) parts.toList).map fun l => .bld z l else none
    | some ⟨.array _ e, _, _, _⟩ => (sizeT T e).bind fun n => (cPs (fun i => some (i * n, n)) parts.toList).map fun l => .bld z l
    | _ => none
  | .buildSlice t len parts => match T t with
    | some ⟨.slice e, _, _, _⟩ => if len ≤ 1000 then match zOf T e with
      | some (.pb [] n _) => if n ≤ 1000 ∧ 0 < n ∧ zFalse (zOf T e) n then (cPs some parts.toList).map fun l => .bslB e n len l else none
      | _ => (intsT T e).bind fun q => if q.2 ≤ 1000 ∧ 0 < q.2 then (cPs some parts.toList).map fun l => .bsl e q.1 q.2 len l else none else none
    | _ => none
  | .load t a => (lkT T t).bind fun k => (cO a).map fun a => .ld k a
  | .store t a v => (lkT T t).bind fun k => (cO a).bind fun a => (cO v).map fun v => .st k a v
  | .nilCheck x => (cO x).map .nck
  | .binOp op t x y _ => (cO x).bind fun x => (cO y).bind fun y => match kindT T t with
    | some _ => some (.bin op x y)
    | none => (ekT T t).bind fun k => match op with
      | .eql => some (.eqv k false x y)
      | .neq => some (.eqv k true x y)
      | _ => none
  | .unOp .not _ x => (cO x).map .not
  | .unOp .neg _ x => (cO x).map .neg
  | .convert s d x => match kindT T s, kindT T d with
    | some _, some k => (cO x).map fun x => .conv k x
    | _, _ => none
  | .slice t x lo hi none => (cO x).bind fun x => (cOpt lo).bind fun lo => (cOpt hi).bind fun hi => match T t with
    | some ⟨.slice e, _, _, _⟩ => (sizeT T e).map fun n => .slc n x lo hi
    | some ⟨.array k e, _, _, _⟩ => (sizeT T e).map fun n => .slcA k n x lo hi
    | _ => none
  | .fieldAddr t x f => (cO x).bind fun x => match T t with
    | some ⟨.struct fs, _, _, _⟩ => (fs[f]?).bind fun q => (sizeT T q.type).bind fun n => if n = 0 then none else some (.fad q.offset x)
    | _ => none
  | .field t x f => (cO x).bind fun x => match T t with
    | some ⟨.struct fs, _, _, _⟩ => (fs[f]?).bind fun q => (lkT T q.type).map fun k => .fld q.offset k x
    | _ => none
  | .indexAddr t x i => (cO x).bind fun x => (cO i).bind fun i => match T t with
    | some ⟨.array k e, _, _, _⟩ => (sizeT T e).map fun n => .iad k n x i
    | some ⟨.slice e, _, _, _⟩ => (sizeT T e).map fun n => .iadS n x i
    | _ => none
  | .index t x i => (cO x).bind fun x => (cO i).bind fun i => match T t with
    | some ⟨.array k e, _, _, _⟩ => (sizeT T e).bind fun n => (lkT T e).map fun q => .idx k n q x i
    | _ => none
  | .lookup t m k ok => (cO m).bind fun m => (cO k).bind fun k => match T t with
    | some ⟨.map kt e, _, _, _⟩ => (ckT T kt).bind fun kk => if keyOk kt kk then (ckT T e).map fun vk => .lkup kk vk ok m k else none
    | _ => none
  | .mapUpdate t m k v => (cO m).bind fun m => (cO k).bind fun k => (cO v).bind fun v => match T t with
    | some ⟨.map kt e, _, _, _⟩ => (ckT T kt).bind fun kk => if keyOk kt kk then (ckT T e).map fun vk => .mupd kk vk m k v else none
    | _ => none
  | .insert t m k v => (cO m).bind fun m => (cO k).bind fun k => (cO v).bind fun v => match T t with
    | some ⟨.map kt e, _, _, _⟩ => (ckT T kt).bind fun kk => if keyOk kt kk then (ckT T e).map fun vk => .mupd kk vk m k v else none
    | _ => none
  | .makeMap t none => match T t with
    | some ⟨.map kt e, _, _, _⟩ => (ckT T kt).bind fun kk => (ckT T e).map fun vk => .mmk kk vk
    | _ => none
  | .makeSlice t l c => if sameO l c then (cO l).bind fun n => match T t with
    | some ⟨.slice e, _, _, _⟩ => match T e with
      | some ⟨.int k, 1, 8, some (.s (.int k' 0))⟩ => if k = k' then some (.mkS e k n) else none
      | some ⟨.bool, 1, 1, some (.s (.bool false))⟩ => some (.mkSB e n)
      | _ => none
    | _ => none else none
  | .makeFunc (.func f) first caps => if first.size = 0 then (cOs caps.toList).map fun l => .mkf f l else none
  | .extract x i => (cO x).map fun x => .extr x i
  | .panic _ => some .bad
  | .makeInterface _ _ => some .bad
  | .call c => match c.callee with
    | .builtin .len => match c.args.toList, c.argTypes.toList with
      | [x], [t] => match T t with
        | some ⟨.slice _, _, _, _⟩ => (cO x).map .len
        | some ⟨.map _ _, _, _, _⟩ => (cO x).map .lenM
        | _ => none
      | _, _ => none
    | .builtin .min => (cOs c.args.toList).map .mn
    | .builtin .max => (cOs c.args.toList).map .mx
    | .builtin .append => match c.args.toList, c.argTypes.toList with
      | [s, x], [t, t'] => if t = t' then match T t with
        | some ⟨.slice e, _, _, _⟩ => (intsT T e).bind fun q => (T e).bind fun ti => if 0 < q.2 ∧ ti.bytes ≤ 1000 then (cO s).bind fun s => (cO x).map fun x => .app e q.1 q.2 s x else none
        | _ => none else none
      | _, _ => none
    | .value f => (cO f).bind fun f => (cOs c.args.toList).map fun l => .call f l
    | _ => none
  | _ => none
/-- the operands that an operation reads -/
def XI.opnds : XI → List XO
  | .mv x | .box _ x | .ld _ x | .nck x | .not x | .neg x | .conv _ x | .fad _ x | .fld _ _ x | .mkS _ _ x | .mkSB _ x | .extr x _ | .len x | .lenM x => [x]
  | .pick c a b => [c, a, b]
  | .alloc .. | .mmk .. | .bad => []
  | .bld _ ps => ps.map (·.2)
  | .bsl _ _ _ _ ps | .bslB _ _ _ ps => ps.map (·.2)
  | .st _ a v | .bin _ a v | .eqv _ _ a v | .iad _ _ a v | .iadS _ a v | .idx _ _ _ a v | .lkup _ _ _ a v | .app _ _ _ a v => [a, v]
  | .slc _ x lo hi | .slcA _ _ x lo hi => x :: (lo.toList ++ hi.toList)
  | .mupd _ _ m k v => [m, k, v]
  | .mkf _ l | .mn l | .mx l => l
  | .call f l => f :: l
def evalX (sl : Nat → Option Slot) : XO → Slot
  | .t n => (sl n).getD ⟨true, anyT⟩
  | .c v => ⟨true, .av v⟩
/-- the operands' own conditions -/
noncomputable def allX (p : XO → Bool) (l : List XO) : Bool := List.rec true (fun x _ ih => p x && ih) l
theorem allX_eq (p : XO → Bool) : ∀ (l : List XO), allX p l = l.all p
  | [] => rfl
  | x :: l => by show (p x && allX p l) = _; rw [allX_eq p l]; rfl
noncomputable def opc (sl : Nat → Option Slot) : XI → Bool
  | .pick c a b => (evalX sl c).c && (match (evalX sl c).v with | .av (.s (.bool t)) => bif t then (evalX sl a).c else (evalX sl b).c | _ => false)
  | x => allX (fun y => (evalX sl y).c) x.opnds
def guardC (sl : Nat → Option Slot) : Option (Nat × Bool) → Option Bool
  | none => some true
  | some (t, want) => match sl t with
    | some ⟨c, .av (.s (.bool b))⟩ => some (c && (b == want))
    | some ⟨false, _⟩ => some false
    | _ => none
noncomputable def Sto.setNews (h : Sto HO) (b : Nat) (l : List HO) : Sto HO := List.rec (fun _ => h) (fun o _ ih b => (ih (Nat.succ b)).set b o) l b
theorem Sto.setNews_cons (h : Sto HO) (b : Nat) (o : HO) (r : List HO) : h.setNews b (o :: r) = (h.setNews (b + 1) r).set b o := rfl
def updOk (h : Nat → Option HO) : List (Nat × HO) → Bool
  | [] => true
  | [u] => (match h u.1 with | some ho => !ho.ro && ho.live | none => false) && !u.2.ro
  | u :: r => (match h u.1 with | some ho => !ho.ro && ho.live | none => false) && !u.2.ro && r.all (fun v => !(Nat.beq v.1 u.1)) && updOk h r
def newsOk (h : Nat → Option HO) : Nat → List HO → Bool
  | _, [] => true
  | b, o :: r => (h b).isNone && !o.ro && newsOk h (b + 1) r
noncomputable def setDst (sl : Sto Slot) : Option Nat → Slot → Sto Slot
  | none, _ => sl
  | some d, s => sl.set d s
/-- what an operation does: its slot, what it leaves there, which objects it turns, which it makes (and from which id on), what it looks at (none: unknown) -/
structure Ef where
  dst : Option Nat
  s : Slot
  upd : List (Nat × HO)
  base : Nat
  news : List HO
  rd : Option (List Nat)
/-- one operation: its conditions, what it does -/
noncomputable def xopF (Γ : Cal → Option Spec) (b0 : Nat) (x : XOp) (sl : Nat → Option Slot) (hp : Nat → Option HO) : Option (Bool × Ef) :=
  match guardC sl x.g with
  | none => none
  | some c =>
    match xi Γ x.x (fun y => (evalX sl y).v) hp (b0 + x.off) with
    | some e =>
      match e.upd, e.news with
      | [], [] => some (!c || (opc sl x.x && e.vc), ⟨x.dst, ⟨c, e.val⟩, [], b0 + x.off, [], bif c then e.rd else some []⟩)
      | _, _ => match c with
        | true => some (opc sl x.x && e.vc && updOk hp e.upd && newsOk hp (b0 + x.off) e.news, ⟨x.dst, ⟨true, e.val⟩, e.upd, b0 + x.off, e.news, e.rd⟩)
        | false => some (true, ⟨x.dst, ⟨false, e.val⟩, [], b0 + x.off, [], some []⟩)
    | none => match c with
      | false => some (true, ⟨x.dst, ⟨false, anyT⟩, [], b0 + x.off, [], some []⟩)
      | true => none
noncomputable def St.app (S : St) (e : Ef) : St := { S with sl := setDst S.sl e.dst e.s, hp := (S.hp.setAll e.upd).setNews e.base e.news }
/-- the operations of a region, in the text's order: the conditions, the state behind them, what each did -/
noncomputable def xops (Γ : Cal → Option Spec) (b0 : Nat) (l : List XOp) : St → Option (Bool × St × List Ef) :=
  List.rec (fun S => some (true, S, [])) (fun x _ ih S => match xopF Γ b0 x S.sl.get S.hp.get with
    | some (v, e) => match ih (S.app e) with
      | some (v', S'', l) => some (v && v', S'', e :: l)
      | none => none
    | none => none) l
theorem xops_nil (Γ : Cal → Option Spec) (b0 : Nat) (S : St) : xops Γ b0 [] S = some (true, S, []) := rfl
theorem xops_cons (Γ : Cal → Option Spec) (b0 : Nat) (x : XOp) (r : List XOp) (S : St) : xops Γ b0 (x :: r) S = (match xopF Γ b0 x S.sl.get S.hp.get with
    | some (v, e) => match xops Γ b0 r (S.app e) with
      | some (v', S'', l) => some (v && v', S'', e :: l)
      | none => none
    | none => none) := rfl
def disjL (a b : List Nat) : Bool := a.all fun i => b.all fun j => !(Nat.beq i j)
def Ef.tch (e : Ef) : List Nat := e.upd.map (·.1) ++ List.range' e.base e.news.length
def disjO (a : List Nat) : Option (List Nat) → Bool
  | none => a.isEmpty
  | some l => disjL a l
def okEf (a b : Ef) : Bool := disjL a.tch b.tch && disjO a.tch b.rd && disjO b.tch a.rd
def okAt (l : List Ef) (p : Nat × Nat) : Bool :=
  match l[p.1]?, l[p.2]? with
  | some a, some b => okEf a b
  | _, _ => false
def opClass : XI → Nat     -- 0: no memory; 1: reads; 2: makes; 3: writes; 4: calls
  | .ld .. | .lkup .. => 1
  | .alloc .. | .box .. | .bsl .. | .bslB .. | .mmk .. | .mkS .. | .mkSB .. => 2
  | .st .. | .mupd .. | .app .. => 3
  | .call .. => 4
  | .lenM _ => 1
  | _ => 0
def cnt : XI → Nat
  | .alloc .. | .box .. | .bsl .. | .bslB .. | .mmk .. | .mkS .. | .mkSB .. | .app .. => 1
  | .call .. => 8
  | _ => 0
def clash (a b : XI) : Bool :=
  match opClass a, opClass b with
  | 0, _ | _, 0 => false
  | 1, 1 => false
  | _, _ => true
def bindsE (e : Edge) : Bool := Region.binds .any e
/-- the operations before each, by the edges, all the way -/
def ancs : List Oper → List (List Nat) → List (List Nat)
  | [], acc => acc
  | o :: r, acc => ancs r (acc ++ [((o.after.toList.filter bindsE).map (·.on)).foldl (fun s j => if s.contains j then s else j :: (acc.getD j []).foldl (fun s k => if s.contains k then s else k :: s) s) []])
def pairs (n : Nat) (bad : Nat → Nat → Bool) : List (Nat × Nat) := (List.range n).flatMap fun j => ((List.range j).filter fun i => bad i j).map fun i => (i, j)
def dstOk (nt : Nat) : Option Nat → Bool
  | some d => decide (d < nt)
  | none => true
noncomputable def compOps (T : Tab) (nt : Nat) (all : List Oper) : List Oper → Nat → Option (List XOp × Nat)
  | [], off => some ([], off)
  | o :: r, off => (compOp T o).bind fun x =>
    (match o.guard with
      | none => some none
      | some (j, want) => ((all[j]?).bind (·.dst)).map fun t => some (t, want)).bind fun g =>
    if dstOk nt o.dst then (compOps T nt all r (off + cnt x)).map fun (q : List XOp × Nat) => (⟨o.dst, g, x, off⟩ :: q.1, q.2) else none
/-- the slots that an operation looks at -/
def XOp.looks (x : XOp) : List Nat := (match x.g with | some (t, _) => [t] | none => []) ++ x.x.opnds.filterMap fun | .t t => some t | .c _ => none
/-- the edges go forward -/
def fwdOk (ops : List Oper) : Bool := (List.range ops.length).all fun j => match ops[j]? with | none => false | some o => o.after.toList.all fun e => !bindsE e || decide (e.on < j)
/-- in a region that draws: each temporary is written once; who reads it waits for who writes it, or the other way round -/
def slotsOk (xs : List XOp) (anc : List (List Nat)) : Bool :=
  (List.range xs.length).all fun j => match xs[j]? with
    | none => false
    | some x =>
      (List.range xs.length).all fun i => match xs[i]? with
        | none => false
        | some p => match p.dst with
          | none => true
          | some d => (i == j || x.dst != some d) && (!(x.looks).contains d || i == j || (anc.getD j []).contains i || (anc.getD i []).contains j)
noncomputable def compC (T : Tab) (nt : Nat) : Code → Option XC
  | .skip => some .skip
  | .region _ ops draw => (compOps T nt ops.toList ops.toList 0).bind fun (q : List XOp × Nat) =>
    if draw then
      let anc := ancs ops.toList []
      if fwdOk ops.toList && slotsOk q.1 anc then
        some (.regD q.1 q.2 (pairs q.1.length fun i j => !(anc.getD j []).contains i && (match q.1[i]?, q.1[j]? with | some a, some b => clash a.x b.x | _, _ => false)))
      else none
    else some (.reg q.1 q.2)
  | .seq a b => (compC T nt a).bind fun a => (compC T nt b).map fun b => .seq a b
  | .cond c a b => (cO c).bind fun c => (compC T nt a).bind fun a => (compC T nt b).map fun b => .cond c a b
  | .block id b => (compC T nt b).map fun b => .block id b
  | .loop b => (compC T nt b).map .loop
  | .rangeFunc f ps a b => if ps.toList.all (fun t => decide (t < nt)) then (cO f).bind fun f => (compC T nt a).bind fun a => (compC T nt b).map fun b => .rf f ps.toList a b else none
  | .exit id => some (.exit id)
  | .scope b => (compC T nt b).map .scope
  | .label l => some (.label l)
  | .ret => some .ret
  | .goto _ | .refuse _ => none
end Go.Proofs.Yteekkjfjpoaihaa.Eng
namespace Go.Proofs.Yteekkjfjpoaihaa.Eng
open Go
def isAggD : TypeDesc → Bool
  | .struct _ => true
  | .array _ _ => true
  | _ => false
structure TOK (P : Program) (T : Tab) : Prop where
  und : ∀ t ti, T t = some ti → P.underlying t = some ti.d
  info : ∀ t ti, T t = some ti → ∃ i, P.info? t = some i ∧ i.size = ti.size ∧ i.bytes = ti.bytes ∧ ∀ z, ti.z = some z → ∃ zv, i.zero = some zv ∧ ∀ m, AR m z zv
  shape : ∀ t ti z, T t = some ti → ti.z = some z →
    (match z with
     | .s x => ti.size = 1 ∧ x.known = true ∧ isAggD ti.d = false
     | .pb pre n _ => ti.size = pre.length + n ∧ pre.all SV.known = true ∧ isAggD ti.d = true)
/-- '==' of the aggregates that are compared is cell by cell; they may be keys -/
structure EQOK (P : Program) : Prop where
  guard : ∀ t p n, alGet eqTab t = some (p, n) → P.eqGuardType P.depth t = false
  eq : ∀ t p n, alGet eqTab t = some (p, n) → ∀ (a b : List Int) (f g : Nat → Bool) (w : World), a.length = p → b.length = p →
    (Op.equal t (.agg (a.map (Value.int .i64) ++ bcells n f).toArray) (.agg (b.map (Value.int .i64) ++ bcells n g).toArray)).run P w = .ok (a == b && eqB n f g) w
  key : ∀ t p n, alGet eqTab t = some (p, n) → ∀ (e : Bool) (a : List Int) (f : Nat → Bool) (w : World), a.length = p → (Instr.checkKey e 10000 t (.agg (a.map (Value.int .i64) ++ bcells n f).toArray)).run P w = .ok () w
  und : ∀ t p n, alGet eqTab t = some (p, n) → ∃ d, P.underlying t = some d ∧ isAggD d = true
def FR (r : Option Nat) : Fence := { fn := fun _ => True, depth := none, alive := false, round := r }
section
variable {P : Program} {T : Tab} {cmp : Cmp} {r : Option Nat} {Γ : Cal → Option Spec}
theorem wpI {o : Oper} {a : Act} {w w' : World} {K : Act → World → Prop} {Q : Exit → Act → World → Prop} {v : Value} (hd : ∀ c, o.op ≠ .defer c)
    (hrun : (execOp a.eval o).run P w = .ok (.value v) w') (hK : K (a.put o.dst v) w') : o.wpIn (FR r) 0 P a w K Q :=
  ⟨fun _ _ => trivial, by rw [Oper.semAt_eq _ _ _ hd, hrun]; exact hK⟩
theorem wpSk {o : Oper} {a : Act} {w w' : World} {K : Act → World → Prop} {Q : Exit → Act → World → Prop} (hd : ∀ c, o.op ≠ .defer c)
    (hrun : (execOp a.eval o).run P w = .ok .skip w') (hK : K (a.put o.dst undef) w') : o.wpIn (FR r) 0 P a w K Q :=
  ⟨fun _ _ => trivial, by rw [Oper.semAt_eq _ _ _ hd, hrun]; exact hK⟩
theorem Stp.refl (cmp : Cmp) (m : MM) (w : World) (base : Nat) : Stp cmp m m w w [] base [] where
  ext := m.le_refl
  dom := fun _ _ h => .inl h
  size := Nat.le_refl _
  same := fun _ _ _ => rfl
  os := rfl
  tape := rfl
  output := rfl
  upd := fun _ h => by cases h
  new := fun _ _ h => by simp at h
  ndist := fun _ _ _ _ _ h => by simp at h
def MM.put (m : MM) (id : Nat) (mb : MB) : MM := fun i => if i = id then some mb else m i
theorem MM.le_put {m : MM} {id : Nat} {mb : MB} (h : m id = none) : m.le (m.put id mb) := by
  intro i x hx
  unfold MM.put
  split
  · rename_i e; subst e; rw [h] at hx; cases hx
  · exact hx
theorem MM.put_same (m : MM) (id : Nat) (mb : MB) : (m.put id mb) id = some mb := by simp [MM.put]
theorem Stp.new1 {m : MM} {w w' : World} {base : Nat} {o : AO} {obj : Obj} {mb : MB} (hm : m base = none) (hb : mb.b = some w.heap.size) (hh : w'.heap = w.heap.push obj) (hos : w'.os = w.os) (htp : w'.tape = w.tape) (hop : w'.output = w.output)
    (ho : OR cmp (m.put base mb) mb o w') : Stp cmp m (m.put base mb) w w' [] base [⟨false, o⟩] where
  ext := MM.le_put hm
  dom := fun id x h => by
    unfold MM.put at h
    split at h
    · rename_i e; exact .inr ⟨by omega, by simp; omega⟩
    · exact .inl h
  size := by rw [hh]; simp
  same := fun b hb _ => by rw [hh, Array.getElem?_push, if_neg (by omega)]
  os := hos
  tape := htp
  output := hop
  upd := fun _ h => by cases h
  new := fun k ho' h => by
    cases k with
    | zero =>
      simp at h
      subst h
      refine ⟨mb, m.put_same base mb, ho, fun b hb' => ?_⟩
      rw [hb] at hb'
      cases hb'
      rw [hh]
      simp
    | succ k => simp at h
  ndist := fun k k' _ _ _ h h' hne => by simp at h h'; omega
/-- the operands that must be what they say -/
def need (ev : XO → TV) : XI → List XO
  | .pick c a b => c :: (match ev c with | .av (.s (.bool t)) => bif t then [a] else [b] | _ => [])
  | x => x.opnds
/-- what is shown of an operation -/
def Snd (P : Program) (cmp : Cmp) (r : Option Nat) (Γ : Cal → Option Spec) (o : Oper) (x : XI) : Prop :=
  ∀ (ctx : Ctx) (m : MM) (h : Nat → Option HO) (w : World) (a : Act) (ev : XO → TV) (base : Nat) (e : Eff) (K : Act → World → Prop) (Q : Exit → Act → World → Prop),
    (∀ y xo, cO y = some xo → xo ∈ need ev x → TR m (ev xo) (a.eval y)) → HRel cmp ctx m h w → (∀ k, k < e.news.length → h (base + k) = none) → updOk h e.upd = true →
    xi Γ x ev h base = some e → e.vc = true →
    (∀ v w' m', TR m' e.val v → Stp cmp m m' w w' e.upd base e.news → K (a.put o.dst v) w') → o.wpIn (FR r) 0 P a w K Q
theorem addr_add (b o i : Nat) : (⟨b, o, none⟩ : Addr).add i = ⟨b, o + i, none⟩ := by unfold Addr.add; split <;> simp_all
/-- an operation that only computes -/
theorem snd_pure {o : Oper} {x : XI} (hd : ∀ c, o.op ≠ .defer c)
    (h : ∀ (ctx : Ctx) (m : MM) (h : Nat → Option HO) (w : World) (a : Act) (ev : XO → TV) (base : Nat) (e : Eff),
      (∀ y xo, cO y = some xo → xo ∈ need ev x → TR m (ev xo) (a.eval y)) → HRel cmp ctx m h w → xi Γ x ev h base = some e → e.vc = true →
      e.upd = [] ∧ e.news = [] ∧ ∃ v, (execOp a.eval o).run P w = .ok (.value v) w ∧ TR m e.val v) : Snd P cmp r Γ o x := by
  intro ctx m hp w a ev base e K Q hE hH hfr hup hx hvc hK
  obtain ⟨h1, h2, v, h3, h4⟩ := h ctx m hp w a ev base e hE hH hx hvc
  exact wpI hd h3 (hK v w m h4 (by rw [h1, h2]; exact Stp.refl cmp m w base))
theorem snd_mv {o : Oper} {y : Operand} {xo : XO} (ho : o.op = .move y ∨ o.op = .assign y) (hc : cO y = some xo) : Snd P cmp r Γ o (.mv xo) := by
  refine snd_pure (by rcases ho with ho | ho <;> simp [ho]) fun ctx m hp w a ev base e hE hH hx hvc => ?_
  simp only [xi, pureE, Option.some.injEq] at hx
  subst hx
  refine ⟨rfl, rfl, a.eval y, ?_, hE y xo hc (by simp [need, XI.opnds])⟩
  rcases ho with ho | ho <;> simp [execOp, ho]
theorem TR_bool {m : MM} {b : Bool} {v : Value} : TR m (B b) v ↔ v = .bool b := Iff.rfl
theorem TR_int {m : MM} {k : IntKind} {n : Int} {v : Value} : TR m (.av (.s (.int k n))) v ↔ v = .int k n := Iff.rfl
theorem snd_pick {o : Oper} {c x y : Operand} {c' x' y' : XO} (ho : o.op = .pick c x y) (hc : cO c = some c') (hx' : cO x = some x') (hy' : cO y = some y') : Snd P cmp r Γ o (.pick c' x' y') := by
  refine snd_pure (by simp [ho]) fun ctx m hp w a ev base e hE hH hx hvc => ?_
  have hcv := hE c c' hc (by simp [need])
  simp only [xi] at hx
  split at hx
  case h_2 => cases hx
  rename_i t ht
  rw [ht] at hcv
  have hcv' : a.eval c = .bool t := hcv
  have hsel : ∀ z z', cO z = some z' → z' = (bif t then x' else y') → TR m (ev z') (a.eval z) := fun z z' h1 h2 => hE z z' h1 (by cases t <;> simp [need, ht, h2])
  cases t with
  | true =>
    have hxv := hsel x x' hx' rfl
    refine ⟨?_, ?_, a.eval x, by simp [execOp, ho, hcv', asBool], ?_⟩
    all_goals (split at hx <;> first | cases hx | (simp only [pureE, Option.some.injEq] at hx; subst hx; first | rfl | skip))
    all_goals first | (simp at hvc; done) | simp_all
  | false =>
    have hyv := hsel y y' hy' rfl
    refine ⟨?_, ?_, a.eval y, by simp [execOp, ho, hcv', asBool], ?_⟩
    all_goals (split at hx <;> first | cases hx | (simp only [pureE, Option.some.injEq] at hx; subst hx; first | rfl | skip))
    all_goals first | (simp at hvc; done) | simp_all
theorem snd_not {o : Oper} {t : TypeId} {y : Operand} {y' : XO} (ho : o.op = .unOp .not t y) (hc : cO y = some y') : Snd P cmp r Γ o (.not y') := by
  refine snd_pure (by simp [ho]) fun ctx m hp w a ev base e hE hH hx hvc => ?_
  have hv := hE y y' hc (by simp [need, XI.opnds])
  simp only [xi] at hx
  split at hx
  case h_2 => cases hx
  rename_i b hb
  rw [hb, TR_bool] at hv
  simp only [pureE, Option.some.injEq] at hx
  subst hx
  exact ⟨rfl, rfl, .bool !b, by simp [execOp, ho, hv, Op.unary], rfl⟩
theorem rng64_wrap {e : Int} (h : rng64 e = true) : IntKind.i64.wrap e = e := by
  simp [rng64_eq] at h
  exact IntWalk.i64_in e h
theorem arith_snd {k : IntKind} {e : Int} {f : Eff} (h : arith k e = some f) (hvc : f.vc = true) : f.upd = [] ∧ f.news = [] ∧ f.val = .av (.s (.int k (k.wrap e))) := by
  unfold arith at h
  split at h
  · simp only [pureE, Option.some.injEq] at h
    subst h
    exact ⟨rfl, rfl, by rw [rng64_wrap hvc]⟩
  · simp only [pureE, Option.some.injEq] at h
    subst h
    exact ⟨rfl, rfl, rfl⟩
theorem snd_neg {o : Oper} {t : TypeId} {y : Operand} {y' : XO} (ho : o.op = .unOp .neg t y) (hc : cO y = some y') : Snd P cmp r Γ o (.neg y') := by
  refine snd_pure (by simp [ho]) fun ctx m hp w a ev base e hE hH hx hvc => ?_
  have hv := hE y y' hc (by simp [need, XI.opnds])
  simp only [xi] at hx
  split at hx
  case h_2 => cases hx
  rename_i k n hb
  rw [hb, TR_int] at hv
  obtain ⟨h1, h2, h3⟩ := arith_snd hx hvc
  refine ⟨h1, h2, .int k (k.wrap (0 - n)), by simp [execOp, ho, hv, Op.unary, Op.intArith], by rw [h3]; rfl⟩
theorem snd_conv (hT : TOK P T) {o : Oper} {s d : TypeId} {y : Operand} {y' : XO} {k k' : IntKind} (ho : o.op = .convert s d y) (hs : kindT T s = some k') (hd : kindT T d = some k) (hc : cO y = some y') : Snd P cmp r Γ o (.conv k y') := by
  refine snd_pure (by simp [ho]) fun ctx m hp w a ev base e hE hH hx hvc => ?_
  have hv := hE y y' hc (by simp [need, XI.opnds])
  have und : ∀ {t k}, kindT T t = some k → P.underlying t = some (.int k) := by
    intro t k h
    unfold kindT at h
    split at h
    · rename_i ht; cases h; exact hT.und _ _ ht
    · cases h
  simp only [xi] at hx
  split at hx
  case h_2 => cases hx
  rename_i k n hb
  rw [hb, TR_int] at hv
  simp only [pureE, Option.some.injEq] at hx
  subst hx
  exact ⟨rfl, rfl, _, by simp [execOp, ho, hv, convert, run_underlying (und hs), run_underlying (und hd), Conv.intToInt], rfl⟩
theorem run_eqGuard_int (op : BinOp) (t : TypeId) (x y : Operand) (k k' : IntKind) (a b : Int) (w : World) : (eqGuard op t x y (.int k a) (.int k' b)).run P w = .ok () w := by
  unfold eqGuard
  split <;> simp
theorem bin_snd {op : BinOp} {k : IntKind} {a b : Int} {e : Eff} (t : TypeId) (w : World) (hs : op ≠ .shl) (hs' : op ≠ .shr) (h : binI op k a b = some e) (hvc : e.vc = true) :
    e.upd = [] ∧ e.news = [] ∧ ∃ v, (binOp op t (.int k a) (.int k b)).run P w = .ok v w ∧ ∀ m, TR m e.val v := by
  unfold binI at h
  cases op
  case shl => exact absurd rfl hs
  case shr => exact absurd rfl hs'
  case add =>
    obtain ⟨h1, h2, h3⟩ := arith_snd h hvc
    exact ⟨h1, h2, .int k (k.wrap (a + b)), by simp [binOp, Op.intArith], fun m => by rw [h3]; rfl⟩
  case sub =>
    obtain ⟨h1, h2, h3⟩ := arith_snd h hvc
    exact ⟨h1, h2, .int k (k.wrap (a - b)), by simp [binOp, Op.intArith], fun m => by rw [h3]; rfl⟩
  case mul =>
    obtain ⟨h1, h2, h3⟩ := arith_snd h hvc
    exact ⟨h1, h2, .int k (k.wrap (a * b)), by simp [binOp, Op.intArith], fun m => by rw [h3]; rfl⟩
  case quo =>
    simp only at h
    split at h
    · simp only [pureE, Option.some.injEq] at h
      subst h
      simp only [Bool.and_eq_true, decide_eq_true_eq] at hvc
      refine ⟨rfl, rfl, .int .i64 (IntKind.i64.wrap (a.tdiv b)), by simp [binOp, Op.intDiv, hvc.1], fun m => ?_⟩
      rw [rng64_wrap hvc.2]; rfl
    · simp only [pureE, Option.some.injEq] at h
      subst h
      simp only [decide_eq_true_eq] at hvc
      exact ⟨rfl, rfl, _, by simp [binOp, Op.intDiv, hvc], fun m => rfl⟩
  case and =>
    simp only [pureE, Option.some.injEq] at h
    subst h
    exact ⟨rfl, rfl, .int k (bitop .and k a b), by simp only [binOp, ne_eq, not_true_eq_false, if_false]; rfl, fun m => rfl⟩
  case or =>
    simp only [pureE, Option.some.injEq] at h
    subst h
    exact ⟨rfl, rfl, .int k (bitop .or k a b), by simp only [binOp, ne_eq, not_true_eq_false, if_false]; rfl, fun m => rfl⟩
  case xor =>
    simp only [pureE, Option.some.injEq] at h
    subst h
    exact ⟨rfl, rfl, .int k (bitop .xor k a b), by simp only [binOp, ne_eq, not_true_eq_false, if_false]; rfl, fun m => rfl⟩
  case andNot =>
    simp only [pureE, Option.some.injEq] at h
    subst h
    exact ⟨rfl, rfl, .int k (bitop .andNot k a b), by simp only [binOp, ne_eq, not_true_eq_false, if_false]; rfl, fun m => rfl⟩
  case rem =>
    simp only [pureE, Option.some.injEq] at h
    subst h
    simp only [decide_eq_true_eq] at hvc
    exact ⟨rfl, rfl, .int k (a.tmod b), by simp [binOp, Op.intDiv, hvc], fun m => rfl⟩
  all_goals
    simp only [pureE, Option.some.injEq] at h
    subst h
    exact ⟨rfl, rfl, _, by simp [binOp, Op.intCmp], fun m => rfl⟩
theorem sh_snd {op : BinOp} {k k' : IntKind} {a b : Int} {e : Eff} (t : TypeId) (w : World) (hop : op = .shl ∨ op = .shr) (h : shI op k a b = some e) (hvc : e.vc = true) :
    e.upd = [] ∧ e.news = [] ∧ ∃ v, (binOp op t (.int k a) (.int k' b)).run P w = .ok v w ∧ ∀ m, TR m e.val v := by
  unfold shI at h
  rcases hop with rfl | rfl
  · simp only at h
    split at h
    · simp only [pureE, Option.some.injEq] at h
      subst h
      simp only [Bool.and_eq_true, decide_eq_true_eq] at hvc
      have hn : ¬ b < 0 := by omega
      refine ⟨rfl, rfl, .int .i64 (IntKind.i64.wrap (a * 2 ^ (min b.toNat 64))), by simp [binOp, Op.shift, hn, IntKind.bits], fun m => ?_⟩
      rw [rng64_wrap hvc.2]; rfl
    · simp only [pureE, Option.some.injEq] at h
      subst h
      simp only [decide_eq_true_eq] at hvc
      have hn : ¬ b < 0 := by omega
      exact ⟨rfl, rfl, _, by simp [binOp, Op.shift, hn], fun m => rfl⟩
  · simp only [pureE, Option.some.injEq] at h
    subst h
    simp only [decide_eq_true_eq] at hvc
    have hn : ¬ b < 0 := by omega
    exact ⟨rfl, rfl, _, by simp [binOp, Op.shift, hn], fun m => rfl⟩
theorem snd_bin {o : Oper} {op : BinOp} {t t' : TypeId} {x y : Operand} {x' y' : XO} (ho : o.op = .binOp op t x y t') (hx' : cO x = some x') (hy' : cO y = some y') : Snd P cmp r Γ o (.bin op x' y') := by
  refine snd_pure (by simp [ho]) fun ctx m hp w a ev base e hE hH hx hvc => ?_
  have hxv := hE x x' hx' (by simp [need, XI.opnds])
  have hyv := hE y y' hy' (by simp [need, XI.opnds])
  simp only [xi] at hx
  split at hx
  case h_2 => cases hx
  rename_i k n k' n' h1 h2
  rw [h1, TR_int] at hxv
  rw [h2, TR_int] at hyv
  have fin : ∀ {v : Value}, (binOp op t (.int k n) (.int k' n')).run P w = .ok v w → (execOp a.eval o).run P w = .ok (.value v) w := fun hv => by
    simp [execOp, ho, hxv, hyv, run_eqGuard_int, hv]
  split at hx
  · obtain ⟨h3, h4, v, h5, h6⟩ := sh_snd (P := P) (k' := k') t w (.inl rfl) hx hvc
    exact ⟨h3, h4, v, fin h5, h6 m⟩
  · obtain ⟨h3, h4, v, h5, h6⟩ := sh_snd (P := P) (k' := k') t w (.inr rfl) hx hvc
    exact ⟨h3, h4, v, fin h5, h6 m⟩
  · rename_i hs hs'
    split at hx
    · rename_i hk
      subst hk
      obtain ⟨h3, h4, v, h5, h6⟩ := bin_snd (P := P) t w hs hs' hx hvc
      exact ⟨h3, h4, v, fin h5, h6 m⟩
    · cases hx
theorem snd_nck {o : Oper} {y : Operand} {y' : XO} (ho : o.op = .nilCheck y) (hc : cO y = some y') : Snd P cmp r Γ o (.nck y') := by
  refine snd_pure (by simp [ho]) fun ctx m hp w a ev base e hE hH hx hvc => ?_
  have hv := hE y y' hc (by simp [need, XI.opnds])
  simp only [xi] at hx
  split at hx
  · rename_i hb
    simp only [pureE, Option.some.injEq] at hx
    subst hx
    rw [hb] at hv
    refine ⟨rfl, rfl, a.eval y, ?_, hv⟩
    obtain ⟨mb, b, _, _, hv⟩ := hv
    simp [execOp, ho, hv]
  · rename_i hb
    simp only [pureE, Option.some.injEq] at hx
    subst hx
    rw [hb] at hv
    refine ⟨rfl, rfl, a.eval y, ?_, hv⟩
    obtain ⟨vs, hv, _⟩ := hv
    simp [execOp, ho, hv]
  · rename_i hb
    simp only [pureE, Option.some.injEq] at hx
    subst hx
    rw [hb] at hv
    refine ⟨rfl, rfl, a.eval y, ?_, hv⟩
    obtain ⟨mb, b, _, _, hv⟩ := hv
    simp [execOp, ho, hv]
  · cases hx
theorem snd_extr {o : Oper} {y : Operand} {y' : XO} {i : Nat} (ho : o.op = .extract y i) (hc : cO y = some y') : Snd P cmp r Γ o (.extr y' i) := by
  refine snd_pure (by simp [ho]) fun ctx m hp w a ev base e hE hH hx hvc => ?_
  have hv := hE y y' hc (by simp [need, XI.opnds])
  simp only [xi] at hx
  split at hx
  case h_2 => cases hx
  rename_i l hl
  rw [hl] at hv
  obtain ⟨vs, hv, hall⟩ := hv
  split at hx
  case h_2 => cases hx
  rename_i u hu
  simp only [pureE, Option.some.injEq] at hx
  subst hx
  obtain ⟨b, h1, h2⟩ := hall.get hu
  exact ⟨rfl, rfl, b, by simp [execOp, ho, hv, Instr.extract, h1], h2⟩
theorem T_struct (hT : TOK P T) {t : TypeId} {fs : Array Field} {s b : Nat} {z : Option AV} (h : T t = some ⟨.struct fs, s, b, z⟩) : P.underlying t = some (.struct fs) := hT.und _ _ h
theorem T_size (hT : TOK P T) {t : TypeId} {n : Nat} (h : sizeT T t = some n) (w : World) : (sizeOf t).run P w = .ok n w := by
  unfold sizeT at h
  cases ht : T t with
  | none => simp [ht] at h
  | some ti =>
    obtain ⟨i, h1, h2, _⟩ := hT.info t ti ht
    simp [ht] at h
    simp [sizeOf, typeInfo, h1, h2, h]
theorem snd_fad (hT : TOK P T) {o : Oper} {t : TypeId} {y : Operand} {y' : XO} {f n : Nat} {q : Field} {fs : Array Field} {s b : Nat} {z : Option AV} (ho : o.op = .fieldAddr t y f) (hc : cO y = some y')
    (ht : T t = some ⟨.struct fs, s, b, z⟩) (hq : fs[f]? = some q) (hn : sizeT T q.type = some n) (h0 : n ≠ 0) : Snd P cmp r Γ o (.fad q.offset y') := by
  refine snd_pure (by simp [ho]) fun ctx m hp w a ev base e hE hH hx hvc => ?_
  have hv := hE y y' hc (by simp [need, XI.opnds])
  simp only [xi] at hx
  split at hx
  case h_2 => cases hx
  rename_i id b' o' hb
  rw [hb] at hv
  obtain ⟨mb, bb, h1, h2, hv⟩ := hv
  simp only [pureE, Option.some.injEq] at hx
  subst hx
  refine ⟨rfl, rfl, .pointer (some ⟨bb, mb.base + (b' + q.offset + o'), none⟩), ?_, mb, bb, h1, h2, rfl⟩
  simp [execOp, ho, hv, Instr.fieldAt, run_underlying (T_struct hT ht), hq, Instr.sureAddr, fieldPlace, T_size hT hn, h0, addr_add]
theorem T_und (hT : TOK P T) {t : TypeId} {d : TypeDesc} {s b : Nat} {z : Option AV} (h : T t = some ⟨d, s, b, z⟩) : P.underlying t = some d := hT.und _ _ h
theorem snd_iad (hT : TOK P T) {o : Oper} {t e' : TypeId} {y i : Operand} {y' i' : XO} {k n : Nat} {s b : Nat} {z : Option AV} (ho : o.op = .indexAddr t y i) (hc : cO y = some y') (hi : cO i = some i')
    (ht : T t = some ⟨.array k e', s, b, z⟩) (hn : sizeT T e' = some n) : Snd P cmp r Γ o (.iad k n y' i') := by
  refine snd_pure (by simp [ho]) fun ctx m hp w a ev base e hE hH hx hvc => ?_
  have hv := hE y y' hc (by simp [need, XI.opnds])
  have hiv := hE i i' hi (by simp [need, XI.opnds])
  simp only [xi] at hx
  split at hx
  case h_2 => cases hx
  rename_i id b' o' kk aa hb hb2
  rw [hb] at hv
  rw [hb2, TR_int] at hiv
  obtain ⟨mb, bb, h1, h2, hv⟩ := hv
  simp only [pureE, Option.some.injEq] at hx
  subst hx
  simp only [Bool.and_eq_true, decide_eq_true_eq] at hvc
  refine ⟨rfl, rfl, .pointer (some ⟨bb, mb.base + (b' + (o' + aa.toNat * n)), none⟩), ?_, mb, bb, h1, h2, rfl⟩
  have hc2 : 0 ≤ aa ∧ aa < (k : Int) := ⟨hvc.1, hvc.2⟩
  simp [execOp, ho, hv, hiv, Instr.indexAt, asIntOf, run_underlying (T_und hT ht), Instr.sureAddr, T_size hT hn, addr_add, hc2]
theorem snd_iadS (hT : TOK P T) {o : Oper} {t e' : TypeId} {y i : Operand} {y' i' : XO} {n : Nat} {s b : Nat} {z : Option AV} (ho : o.op = .indexAddr t y i) (hc : cO y = some y') (hi : cO i = some i')
    (ht : T t = some ⟨.slice e', s, b, z⟩) (hn : sizeT T e' = some n) : Snd P cmp r Γ o (.iadS n y' i') := by
  refine snd_pure (by simp [ho]) fun ctx m hp w a ev base e hE hH hx hvc => ?_
  have hv := hE y y' hc (by simp [need, XI.opnds])
  have hiv := hE i i' hi (by simp [need, XI.opnds])
  simp only [xi] at hx
  split at hx
  case h_3 => cases hx
  · rename_i id off sz' len kk aa hb hb2
    rw [hb] at hv
    rw [hb2, TR_int] at hiv
    split at hx
    case isFalse => cases hx
    rename_i hsz
    subst hsz
    simp only [pureE, Option.some.injEq] at hx
    subst hx
    simp only [Bool.and_eq_true, decide_eq_true_eq] at hvc
    obtain ⟨mb, h1, hcap, hv | ⟨bb, oo, h2, hv, hoo⟩⟩ := hv
    · omega
    · have ho2 : oo = mb.base + off * n := by rcases hoo with h | h <;> omega
      have hc2 : 0 ≤ aa ∧ aa < (len : Int) := ⟨hvc.1, hvc.2⟩
      refine ⟨rfl, rfl, .pointer (some ⟨bb, mb.base + (0 + (off + aa.toNat) * n), none⟩), ?_, mb, bb, h1, h2, rfl⟩
      simp [execOp, ho, hv, hiv, Instr.indexAt, asIntOf, run_underlying (T_und hT ht), T_size hT hn, addr_add, hc2, ho2, Nat.add_mul]
  · rename_i id off sz' len kk aa hb hb2
    rw [hb] at hv
    rw [hb2, TR_int] at hiv
    split at hx
    case isFalse => cases hx
    rename_i hsz
    subst hsz
    simp only [pureE, Option.some.injEq] at hx
    subst hx
    simp only [Bool.and_eq_true, decide_eq_true_eq] at hvc
    obtain ⟨mb, bb, c, h1, h2, hv⟩ := hv
    have hc2 : 0 ≤ aa ∧ aa < (len : Int) := ⟨hvc.1, hvc.2⟩
    refine ⟨rfl, rfl, .pointer (some ⟨bb, mb.base + (0 + (off + aa.toNat * n)), none⟩), ?_, mb, bb, h1, h2, rfl⟩
    simp [execOp, ho, hv, hiv, Instr.indexAt, asIntOf, run_underlying (T_und hT ht), T_size hT hn, addr_add, hc2]
end
end Go.Proofs.Yteekkjfjpoaihaa.Eng
namespace Go.Proofs.Yteekkjfjpoaihaa.Eng
open Go
section
variable {P : Program} {T : Tab} {cmp : Cmp} {r : Option Nat} {Γ : Cal → Option Spec}
theorem nbeq {a b : Nat} : (Nat.beq a b = true) ↔ a = b := ⟨Nat.eq_of_beq_eq_true, beqT⟩
theorem cell_at {w : World} {b : Nat} {cs : List Value} {ty : TypeId} {fr : Nat × Nat} (h : w.heap[b]? = some (.cells cs.toArray ty fr)) (i : Nat) : w.cell? ⟨b, i, none⟩ = cs[i]? := by
  simp [World.cell?, h]
theorem cell_atA {w : World} {b : Nat} {cs : Array Value} {ty : TypeId} {fr : Nat × Nat} (h : w.heap[b]? = some (.cells cs ty fr)) (i : Nat) : w.cell? ⟨b, i, none⟩ = cs[i]? := by
  simp [World.cell?, h]
theorem PR.get_lo {m : MM} {pre : List SV} {n : Nat} {f : Nat → Bool} {cs : List Value} (h : PR m pre n f cs) {i : Nat} (hi : i < pre.length) : ∃ v, cs[i]? = some v ∧ SR m (pre.getD i .any) v := by
  obtain ⟨vs, h1, _, rfl⟩ := h
  have e : pre[i]? = some (pre.getD i .any) := by simp [List.getD, hi]
  obtain ⟨v, h2, h3⟩ := h1.get e
  refine ⟨v, ?_, h3⟩
  rw [List.getElem?_append_left (by rw [h1.length]; exact hi)]
  exact h2
theorem PR.get_hi {m : MM} {pre : List SV} {n : Nat} {f : Nat → Bool} {cs : List Value} (h : PR m pre n f cs) {i : Nat} (hi : i < n) : cs[pre.length + i]? = some (.bool (f i)) := by
  obtain ⟨vs, h1, _, rfl⟩ := h
  rw [List.getElem?_append_right (by rw [h1.length]; omega), h1.length]
  simp only [Nat.add_sub_cancel_left]
  exact bcells_get n f i hi
theorem PR.sub_hi {m : MM} {pre : List SV} {n : Nat} {f : Nat → Bool} {cs : List Value} (h : PR m pre n f cs) {o q : Nat} (ho : pre.length ≤ o) (hq : o - pre.length + q ≤ n) : PR m [] q (fun j => f (o - pre.length + j)) ((cs.drop o).take q) := by
  refine ⟨[], trivial, by simp, ?_⟩
  apply List.ext_getElem?
  intro i
  simp only [List.nil_append, List.getElem?_take, List.getElem?_drop]
  by_cases hi : i < q
  · rw [if_pos hi, bcells_get _ _ _ hi]
    have := h.get_hi (i := o - pre.length + i) (by omega)
    rw [← this]
    congr 1
    omega
  · rw [if_neg hi]
    simp [bcells, hi]
theorem PR.sub_lo {m : MM} {pre : List SV} {n : Nat} {f : Nat → Bool} {cs : List Value} (h : PR m pre n f cs) {o p : Nat} (ho : o + p ≤ pre.length) : PR m ((pre.drop o).take p) 0 ff ((cs.drop o).take p) := by
  obtain ⟨vs, h1, h2, rfl⟩ := h
  refine ⟨(vs.drop o).take p, (h1.drop o).take p, fun v hv => h2 v (List.mem_of_mem_drop (List.mem_of_mem_take hv)), ?_⟩
  have hl := h1.length
  simp only [bcells, List.range_zero, List.map_nil, List.append_nil]
  rw [List.drop_append_of_le_length (by omega), List.take_append_of_le_length (by simp; omega)]
/-- what a load gives -/
theorem ld_one {m : MM} {mb : MB} {b : Nat} {o : AO} {w : World} {base off : Nat} {vc : Bool} {v : AV} (ho : OR cmp m mb o w) (hb : mb.b = some b) (h : ldO .one o base off = some (vc, v)) (hvc : vc = true) :
    ∃ u, w.cell? ⟨b, mb.base + (base + off), none⟩ = some u ∧ AR m v u := by
  cases o <;> simp only [ldO, reduceCtorEq] at h
  case row ty pre n f =>
    obtain ⟨b', cs, h1, h2, h3, h4⟩ := ho
    rw [hb] at h1
    cases h1
    rw [h2, Nat.zero_add, cell_at h3]
    cases hlt : Nat.blt base pre.length with
    | true =>
      simp only [hlt, cond_true, Option.some.injEq, Prod.mk.injEq] at h
      obtain ⟨rfl, rfl⟩ := h
      have hlt2 : base + off < pre.length := by simpa using hvc
      exact h4.get_lo hlt2
    | false =>
      simp only [hlt, cond_false, Option.some.injEq, Prod.mk.injEq] at h
      obtain ⟨rfl, rfl⟩ := h
      have hge : pre.length ≤ base := by
        have hn : ¬ (Nat.blt base pre.length = true) := by rw [hlt]; exact Bool.false_ne_true
        rw [Nat.blt_eq] at hn
        omega
      simp only [decide_eq_true_eq] at hvc
      have := h4.get_hi hvc
      rw [show pre.length + (base - pre.length + off) = base + off by omega] at this
      exact ⟨_, this, rfl⟩
  case ivec ty k sz l =>
    simp only [Option.some.injEq, Prod.mk.injEq] at h
    obtain ⟨rfl, rfl⟩ := h
    simp only [decide_eq_true_eq] at hvc
    rcases ho with ⟨h1, _⟩ | ⟨b', cur, h1, h2, h3, h4, h5, h6⟩
    · rw [hb] at h1; cases h1
    · rw [hb] at h1
      cases h1
      rw [h2, Nat.zero_add, cell_atA h3]
      exact ⟨_, h6 _ hvc, rfl⟩
  case xvec k sz l =>
    simp only [Option.some.injEq, Prod.mk.injEq] at h
    obtain ⟨rfl, rfl⟩ := h
    simp only [decide_eq_true_eq] at hvc
    rcases ho with ⟨h1, _⟩ | ⟨b', h1, h2⟩
    · rw [hb] at h1; cases h1
    · rw [hb] at h1
      cases h1
      exact ⟨_, h2 _ hvc, rfl⟩
theorem intsPR {m : MM} {k : IntKind} {p : Nat} {g : Nat → Int} {cs : List Value} (hl : cs.length = p) (h : ∀ j, j < p → cs[j]? = some (.int k (g j))) : PR m ((List.range p).map fun j => .int k (g j)) 0 ff cs := by
  have e : cs = (List.range p).map fun j => Value.int k (g j) := by
    apply List.ext_getElem?
    intro i
    by_cases hi : i < p
    · rw [h i hi]; simp [hi]
    · rw [List.getElem?_eq_none (by omega)]; simp [hi]
  refine ⟨cs, ?_, ?_, by simp [bcells]⟩
  · rw [e]
    exact All2.map _ _ _ fun x _ => rfl
  · rw [e]
    intro v hv
    simp at hv
    obtain ⟨i, _, rfl⟩ := hv
    rfl
theorem ld_many {m : MM} {mb : MB} {b : Nat} {o : AO} {w : World} {p q base off : Nat} {vc : Bool} {v : AV} (ho : OR cmp m mb o w) (hb : mb.b = some b) (h : ldO (.many p q) o base off = some (vc, v)) (hvc : vc = true) :
    ∃ cs : List Value, cs.length = p + q ∧ (∀ j u, cs[j]? = some u → w.cell? ⟨b, mb.base + (base + off) + j, none⟩ = some u) ∧ AR m v (.agg cs.toArray) := by
  cases o <;> simp only [ldO, Bool.cond_eq_ite, reduceCtorEq] at h
  case row ty pre n f =>
    obtain ⟨b', cs, h1, h2, h3, h4⟩ := ho
    rw [hb] at h1
    cases h1
    have hlen := h4.length
    rw [h2, Nat.zero_add]
    split at h
    · rename_i hcond
      simp only [Bool.and_eq_true, nbeq] at hcond
      obtain ⟨⟨rfl, rfl⟩, rfl⟩ := hcond
      simp only [Option.some.injEq, Prod.mk.injEq] at h
      obtain ⟨rfl, rfl⟩ := h
      simp only [decide_eq_true_eq] at hvc
      subst hvc
      refine ⟨cs, hlen, fun j u hu => ?_, cs, rfl, h4⟩
      rw [cell_at h3]
      simpa using hu
    · rename_i hcond
      split at h
      · rename_i hc2
        simp only [Bool.and_eq_true, nbeq, Nat.ble_eq] at hc2
        obtain ⟨rfl, hge⟩ := hc2
        simp only [Option.some.injEq, Prod.mk.injEq] at h
        obtain ⟨rfl, rfl⟩ := h
        simp only [decide_eq_true_eq] at hvc
        have hs := h4.sub_hi (o := base + off) (q := q) (by omega) (by omega)
        refine ⟨(cs.drop (base + off)).take q, by simp; omega, fun j u hu => ?_, _, rfl, ?_⟩
        · rw [cell_at h3]
          rw [List.getElem?_take, List.getElem?_drop] at hu
          split at hu
          · exact hu
          · cases hu
        · rw [show base - pre.length + off = base + off - pre.length by omega]
          exact hs
      · split at h
        · rename_i hc3
          simp only [nbeq] at hc3
          subst hc3
          simp only [Option.some.injEq, Prod.mk.injEq] at h
          obtain ⟨rfl, rfl⟩ := h
          simp only [decide_eq_true_eq] at hvc
          refine ⟨(cs.drop (base + off)).take p, by simp; omega, fun j u hu => ?_, _, rfl, h4.sub_lo hvc⟩
          rw [cell_at h3]
          rw [List.getElem?_take, List.getElem?_drop] at hu
          split at hu
          · exact hu
          · cases hu
        · cases h
  case ivec ty k sz l =>
    split at h
    case isFalse => cases h
    rename_i hc
    simp only [nbeq] at hc
    subst hc
    simp only [Option.some.injEq, Prod.mk.injEq] at h
    obtain ⟨rfl, rfl⟩ := h
    simp only [decide_eq_true_eq] at hvc
    rcases ho with ⟨h1, hl, _⟩ | ⟨b', cur, h1, h2, h3, h4, h5, h6⟩
    · rw [hb] at h1; cases h1
    · rw [hb] at h1
      cases h1
      rw [h2, Nat.zero_add]
      refine ⟨(List.range p).map fun j => .int k (l.getD (base + off + j) 0), by simp, fun j u hu => ?_, _, rfl, intsPR (by simp) (fun j hj => by simp [hj])⟩
      rw [cell_atA h3]
      by_cases hj : j < p
      · simp [hj] at hu
        rw [h6 _ (by omega), ← hu]
        simp [List.getD]
      · simp [hj] at hu
  case xvec k sz l =>
    split at h
    case isFalse => cases h
    rename_i hc
    simp only [nbeq] at hc
    subst hc
    simp only [Option.some.injEq, Prod.mk.injEq] at h
    obtain ⟨rfl, rfl⟩ := h
    simp only [decide_eq_true_eq] at hvc
    rcases ho with ⟨h1, hl, _⟩ | ⟨b', h1, h2⟩
    · rw [hb] at h1; cases h1
    · rw [hb] at h1
      cases h1
      refine ⟨(List.range p).map fun j => .int k (l.getD (base + off + j) 0), by simp, fun j u hu => ?_, _, rfl, intsPR (by simp) (fun j hj => by simp [hj])⟩
      by_cases hj : j < p
      · simp [hj] at hu
        rw [Nat.add_assoc, h2 _ (by omega), ← hu]
        simp [List.getD]
      · simp [hj] at hu
/-- the shape of a type -/
theorem lk_one (hT : TOK P T) {t : TypeId} (h : lkT T t = some .one) : (∀ w, (isAgg t).run P w = .ok false w) ∧ sizeT T t = some 1 := by
  unfold lkT zOf at h
  cases ht : T t with
  | none => simp [ht] at h
  | some ti =>
    simp only [ht, Option.bind_some] at h
    cases hz : ti.z with
    | none => simp [hz] at h
    | some z =>
      have hs := hT.shape t ti z ht hz
      cases z with
      | pb => simp [hz, lkOf] at h
      | s x =>
        refine ⟨fun w => ?_, by simp [sizeT, ht, hs.1]⟩
        have hd := hs.2.2
        simp only [isAgg, Sem.run_bind, run_underlying (hT.und t ti ht), Result.andThen_ok]
        cases hdd : ti.d <;> simp [hdd, isAggD] at hd ⊢
theorem lk_many (hT : TOK P T) {t : TypeId} {p q : Nat} (h : lkT T t = some (.many p q)) : (∀ w, (isAgg t).run P w = .ok true w) ∧ sizeT T t = some (p + q) := by
  unfold lkT zOf at h
  cases ht : T t with
  | none => simp [ht] at h
  | some ti =>
    simp only [ht, Option.bind_some] at h
    cases hz : ti.z with
    | none => simp [hz] at h
    | some z =>
      have hs := hT.shape t ti z ht hz
      cases z with
      | s x => simp [hz, lkOf] at h
      | pb pre n f =>
        simp [hz, lkOf] at h
        obtain ⟨rfl, rfl⟩ := h
        refine ⟨fun w => ?_, by simp [sizeT, ht, hs.1]⟩
        have hd := hs.2.2
        simp only [isAgg, Sem.run_bind, run_underlying (hT.und t ti ht), Result.andThen_ok]
        cases hdd : ti.d <;> simp [hdd, isAggD] at hd ⊢
theorem snd_ld (hT : TOK P T) {o : Oper} {t : TypeId} {y : Operand} {y' : XO} {k : LK} (ho : o.op = .load t y) (hk : lkT T t = some k) (hc : cO y = some y') : Snd P cmp r Γ o (.ld k y') := by
  refine snd_pure (by simp [ho]) fun ctx m hp w a ev base e hE hH hx hvc => ?_
  have hv := hE y y' hc (by simp [need, XI.opnds])
  simp only [xi] at hx
  split at hx
  case h_2 => cases hx
  rename_i id b' o' hb
  rw [hb] at hv
  split at hx
  case h_2 => cases hx
  rename_i hob hho
  obtain ⟨mb, bb, h1, h2, hv⟩ := hv
  obtain ⟨mb', h1', hor, _⟩ := hH.obj id hob hho
  rw [h1] at h1'
  cases h1'
  cases hl : ldO k hob.o b' o' with
  | none => simp [hl] at hx
  | some rv =>
    simp only [hl, Option.map_some, Option.some.injEq] at hx
    subst hx
    cases k with
    | one =>
      obtain ⟨u, hu1, hu2⟩ := ld_one hor h2 hl hvc
      refine ⟨rfl, rfl, u, ?_, hu2⟩
      simp [execOp, ho, hv, Instr.loadAt, Instr.sureAddr, loadVar, (lk_one hT hk).1, hu1]
    | many p q =>
      obtain ⟨cs, hcl, hcells, hu2⟩ := ld_many hor h2 hl hvc
      refine ⟨rfl, rfl, .agg cs.toArray, ?_, hu2⟩
      have hrun := run_loadCells_list (P := P) w ⟨bb, mb.base + (b' + o'), none⟩ cs (fun j u hj => by rw [addr_add]; exact hcells j u hj)
      rw [hcl] at hrun
      simp [execOp, ho, hv, Instr.loadAt, Instr.sureAddr, loadVar, (lk_many hT hk).1, T_size hT (lk_many hT hk).2, hrun]
end
end Go.Proofs.Yteekkjfjpoaihaa.Eng
namespace Go.Proofs.Yteekkjfjpoaihaa.Eng
open Go
section
variable {P : Program} {T : Tab} {cmp : Cmp} {r : Option Nat} {Γ : Cal → Option Spec}
theorem splice_set {α : Type} (l : List α) (o : Nat) (v : α) (h : o < l.length) : l.take o ++ [v] ++ l.drop (o + 1) = l.set o v := by
  rw [List.set_eq_take_append_cons_drop, if_pos h]
  simp
theorem PR.set_lo {m : MM} {pre : List SV} {n : Nat} {f : Nat → Bool} {cs : List Value} (h : PR m pre n f cs) {i : Nat} {x : SV} {v : Value} (hi : i < pre.length) (hx : SR m x v) (hv : v.oneCell' = true) : PR m (pre.set i x) n f (cs.set i v) := by
  obtain ⟨vs, h1, h2, rfl⟩ := h
  refine ⟨vs.set i v, h1.set hx, fun u hu => ?_, ?_⟩
  · rcases List.mem_or_eq_of_mem_set hu with hu | rfl
    · exact h2 u hu
    · exact hv
  · rw [List.set_append_left _ _ (by rw [h1.length]; exact hi)]
theorem PR.set_hi {m : MM} {pre : List SV} {n : Nat} {f : Nat → Bool} {cs : List Value} (h : PR m pre n f cs) {i : Nat} {b : Bool} (hi : i < n) : PR m pre n (fun j => bif Nat.beq j i then b else f j) (cs.set (pre.length + i) (.bool b)) := by
  obtain ⟨vs, h1, h2, rfl⟩ := h
  refine ⟨vs, h1, h2, ?_⟩
  rw [List.set_append_right _ _ (by rw [h1.length]; omega), h1.length]
  congr 1
  rw [Nat.add_sub_cancel_left]
  apply List.ext_getElem?
  intro j
  by_cases hj : j < n
  · rw [bcells_get _ _ _ hj]
    by_cases hji : j = i
    · subst hji
      rw [List.getElem?_set_self (by rw [bcells_length]; exact hj)]
      simp
    · rw [List.getElem?_set_ne (fun e => hji e.symm), bcells_get _ _ _ hj, beqF hji]
      rfl
  · rw [List.getElem?_eq_none (by simp [bcells_length]; omega), List.getElem?_eq_none (by simp [bcells_length]; omega)]
theorem PR.none {m : MM} {n : Nat} {f : Nat → Bool} {cs : List Value} (h : PR m [] n f cs) : cs = bcells n f := by
  obtain ⟨vs, h1, _, rfl⟩ := h
  cases vs with
  | nil => rfl
  | cons _ _ => exact h1.elim
theorem cells_one {v : Value} (h : v.oneCell' = true) : v.cells = #[v] := by cases v <;> first | rfl | simp [Value.oneCell'] at h
theorem intsOf_get {k : IntKind} : ∀ {pre : List SV} {l : List Int}, intsOf k pre = some l → l.length = pre.length ∧ ∀ j, j < pre.length → pre[j]? = some (.int k (l.getD j 0))
  | [], l, h => by simp [intsOf] at h; subst h; simp
  | .int k' a :: r, l, h => by
    simp only [intsOf] at h
    split at h
    · rename_i hk
      subst hk
      cases hr : intsOf k r with
      | none => simp [hr] at h
      | some q =>
        simp [hr] at h
        subst h
        obtain ⟨h1, h2⟩ := intsOf_get hr
        refine ⟨by simp [h1], fun j hj => ?_⟩
        cases j with
        | zero => simp
        | succ j => simpa using h2 j (by simpa using hj)
    · cases h
  | .bool _ :: _, _, h => by simp [intsOf] at h
  | .nilp :: _, _, h => by simp [intsOf] at h
  | .ptr .. :: _, _, h => by simp [intsOf] at h
  | .nils :: _, _, h => by simp [intsOf] at h
  | .sl .. :: _, _, h => by simp [intsOf] at h
  | .vw .. :: _, _, h => by simp [intsOf] at h
  | .nilm :: _, _, h => by simp [intsOf] at h
  | .mp _ :: _, _, h => by simp [intsOf] at h
  | .nilf :: _, _, h => by simp [intsOf] at h
  | .fn .. :: _, _, h => by simp [intsOf] at h
  | .yield _ :: _, _, h => by simp [intsOf] at h
  | .any :: _, _, h => by simp [intsOf] at h
theorem PR.ints {m : MM} {k : IntKind} {pre : List SV} {f : Nat → Bool} {cs : List Value} {l : List Int} (h : PR m pre 0 f cs) (hl : intsOf k pre = some l) : cs = l.map (Value.int k) := by
  obtain ⟨h1, h2⟩ := intsOf_get hl
  have hlen := h.length
  apply List.ext_getElem?
  intro j
  by_cases hj : j < pre.length
  · obtain ⟨v, hv1, hv2⟩ := h.get_lo hj
    have e : pre.getD j .any = .int k (l.getD j 0) := by simp [List.getD, h2 j hj]
    rw [e] at hv2
    rw [hv1, show v = .int k (l.getD j 0) from hv2]
    simp [List.getD, h1, hj]
  · rw [List.getElem?_eq_none (by omega), List.getElem?_eq_none (by simp; omega)]
theorem setMany_length : ∀ (q : List Int) (l : List Int) (o : Nat), (setMany l o q).length = l.length
  | [], _, _ => rfl
  | a :: q, l, o => by simp [setMany, setMany_length q]
theorem setMany_get : ∀ (q : List Int) (l : List Int) (o j : Nat), o + q.length ≤ l.length → (setMany l o q).getD j 0 = if o ≤ j ∧ j < o + q.length then q.getD (j - o) 0 else l.getD j 0
  | [], l, o, j, _ => by simp [setMany]; omega
  | a :: q, l, o, j, h => by
    simp only [List.length_cons] at h
    simp only [setMany]
    rw [setMany_get q _ _ _ (by simp; omega)]
    by_cases h1 : o + 1 ≤ j ∧ j < o + 1 + q.length
    · rw [if_pos h1, if_pos (by simp; omega)]
      rw [show j - o = (j - (o + 1)) + 1 by omega]
      simp
    · rw [if_neg h1]
      by_cases h2 : j = o
      · subst h2
        rw [if_pos (by simp)]
        simp [List.getD, (by omega : j < l.length)]
      · rw [if_neg (by simp; omega)]
        have h3 : ¬ o = j := fun e => h2 e.symm
        simp only [List.getD, List.getElem?_set, h3, if_false]
/-- what a store makes of a world -/
structure Wr (w w' : World) (b : Nat) : Prop where
  size : w'.heap.size = w.heap.size
  other : ∀ k, k ≠ b → w'.heap[k]? = w.heap[k]?
  os : w'.os = w.os
  tape : w'.tape = w.tape
  output : w'.output = w.output
theorem Wr.setRow (w : World) (b : Nat) (cs : Array Value) : Wr w (w.setRow b cs) b :=
  ⟨by simp [World.setRow], fun k hk => setRow_other w b k cs hk, rfl, rfl, rfl⟩
theorem st_row (hT : TOK P T) {t : TypeId} {n : Nat} {w : World} {b o : Nat} {ty : TypeId} {cur vs : List Value} {val : Value} (hs : sizeT T t = some n) (hn : vs.length = n) (hval : val.cells = vs.toArray)
    (hg : w.heap[b]? = some (.cells cur.toArray ty (0, 0))) (hfit : o + vs.length ≤ cur.length) (h1 : ∀ v ∈ vs, Value.oneCell' v = true) :
    ∃ w', (storeVar t ⟨b, o, none⟩ val).run P w = .ok () w' ∧ Wr w w' b ∧ w'.heap[b]? = some (.cells (cur.take o ++ vs ++ cur.drop (o + vs.length)).toArray ty (0, 0)) := by
  have hst := run_storeCells_at P b o ty vs 0 cur.toArray w hg (by simpa using hfit) h1
  simp only [Nat.add_zero] at hst
  refine ⟨w.setRow b (cur.take o ++ vs ++ cur.drop (o + vs.length)).toArray, ?_, Wr.setRow w b _, setRow_heap w b cur.toArray _ ty (0, 0) hg⟩
  unfold storeVar
  simp only [Sem.run_bind, T_size hT hs, Result.andThen_ok, hval]
  rw [if_neg (by simp [hn])]
  exact hst
theorem st_snd (hT : TOK P T) {m : MM} {mb : MB} {b : Nat} {o o' : AO} {w : World} {k : LK} {t : TypeId} {base off : Nat} {vc : Bool} {v : AV} {val : Value} (hk : lkT T t = some k) (ho : OR cmp m mb o w) (hb : mb.b = some b)
    (h : stO k o base off v = some (vc, o')) (hvc : vc = true) (hv : AR m v val) :
    ∃ w', (storeVar t ⟨b, mb.base + (base + off), none⟩ val).run P w = .ok () w' ∧ Wr w w' b ∧ OR cmp m mb o' w' ∧ HO.live ⟨false, o'⟩ = true := by
  cases k with
  | one =>
    have hsz := (lk_one hT hk).2
    cases o <;> simp only [stO, reduceCtorEq] at h
    case row ty pre n f =>
      obtain ⟨b', cs, h1, h2, h3, h4⟩ := ho
      rw [hb] at h1
      cases h1
      have hlen := h4.length
      cases v with
      | pb => simp [stO] at h
      | s x =>
        simp only [stO, Bool.cond_eq_ite] at h
        have hxv : SR m x val := hv
        rw [h2, Nat.zero_add]
        split at h
        · rename_i hlt
          split at h
          case isFalse => cases h
          rename_i hkn
          simp only [Option.some.injEq, Prod.mk.injEq] at h
          obtain ⟨rfl, rfl⟩ := h
          rw [Nat.blt_eq] at hvc
          have h1c := hxv.one hkn
          obtain ⟨w', hr, hw, hh⟩ := st_row hT (vs := [val]) hsz rfl (cells_one h1c) h3 (o := base + off) (by simp; omega) (by simpa using h1c)
          refine ⟨w', hr, hw, ⟨b, _, hb, h2, hh, ?_⟩, rfl⟩
          rw [show (base + off + [val].length) = base + off + 1 from rfl, splice_set _ _ _ (by omega)]
          exact h4.set_lo hvc hxv h1c
        · rename_i hlt
          split at h
          case h_2 => cases h
          rename_i bb
          simp only [Option.some.injEq, Prod.mk.injEq] at h
          obtain ⟨rfl, rfl⟩ := h
          simp only [decide_eq_true_eq] at hvc
          rw [Nat.blt_eq] at hlt
          have hval : val = .bool bb := hxv
          subst hval
          obtain ⟨w', hr, hw, hh⟩ := st_row hT (vs := [.bool bb]) (val := .bool bb) hsz rfl rfl h3 (o := base + off) (by simp; omega) (by simp [Value.oneCell'])
          refine ⟨w', hr, hw, ⟨b, _, hb, h2, hh, ?_⟩, rfl⟩
          rw [show (base + off + [Value.bool bb].length) = base + off + 1 from rfl, splice_set _ _ _ (by omega)]
          have := h4.set_hi (b := bb) hvc
          rw [show pre.length + (base - pre.length + off) = base + off by omega] at this
          simp only [Bool.cond_eq_ite] at this
          exact this
    case ivec ty k sz l =>
      cases v with
      | pb => simp [stO] at h
      | s x =>
        cases x <;> simp only [stO, reduceCtorEq] at h
        rename_i k' a
        split at h
        case isFalse => cases h
        rename_i hkk
        subst hkk
        simp only [Option.some.injEq, Prod.mk.injEq] at h
        obtain ⟨rfl, rfl⟩ := h
        simp only [decide_eq_true_eq] at hvc
        have hval : val = .int k a := hv
        subst hval
        rcases ho with ⟨h1, hl, _⟩ | ⟨b', cur, h1, h2, h3, h4, h5, h6⟩
        · subst hl; simp at hvc
        · rw [hb] at h1
          cases h1
          rw [h2, Nat.zero_add]
          have hcur : base + off < cur.size := (Array.getElem?_eq_some_iff.1 (h6 _ hvc)).1
          obtain ⟨w', hr, hw, hh⟩ := st_row hT (vs := [.int k a]) (val := .int k a) (cur := cur.toList) hsz rfl rfl h3 (o := base + off) (by simp; omega) (by simp [Value.oneCell'])
          refine ⟨w', hr, hw, .inr ⟨b, _, hb, h2, hh, ?_, h5, fun j hj => ?_⟩, rfl⟩
          · simp; omega
          · rw [show (base + off + [Value.int k a].length) = base + off + 1 from rfl, splice_set _ _ _ (by simpa using hcur)]
            simp only [List.length_set] at hj
            simp only [List.getElem?_toArray, List.getElem?_set, List.getD]
            by_cases hji : base + off = j
            · simp [hji, (by omega : j < cur.size), hj]
            · simp only [hji, if_false]
              have := h6 j hj
              simpa [List.getD] using this
  | many p q =>
    have hsz := (lk_many hT hk).2
    cases o <;> simp only [stO, reduceCtorEq] at h
    case row ty pre n f =>
      obtain ⟨b', cs, h1, h2, h3, h4⟩ := ho
      rw [hb] at h1
      cases h1
      have hlen := h4.length
      cases v with
      | s => simp [stO] at h
      | pb pre' n' f' =>
        obtain ⟨cs', rfl, h4'⟩ := hv
        have hlen' := h4'.length
        simp only [stO, Bool.cond_eq_ite] at h
        rw [h2, Nat.zero_add]
        split at h
        · rename_i hc
          simp only [Bool.and_eq_true, nbeq] at hc
          obtain ⟨⟨⟨⟨⟨rfl, rfl⟩, rfl⟩, rfl⟩, hpl⟩, hkn⟩ := hc
          simp only [Option.some.injEq, Prod.mk.injEq] at h
          obtain ⟨rfl, rfl⟩ := h
          simp only [decide_eq_true_eq] at hvc
          subst hvc
          obtain ⟨w', hr, hw, hh⟩ := st_row hT (vs := cs') (val := .agg cs'.toArray) hsz (by omega) rfl h3 (o := 0 + 0) (by omega) h4'.one
          refine ⟨w', hr, hw, ⟨b, cs', hb, h2, ?_, h4'⟩, rfl⟩
          rw [hh]
          simp only [Nat.add_zero, List.take_zero, List.nil_append]
          rw [List.drop_eq_nil_of_le (by omega), List.append_nil]
        · split at h
          case isFalse => cases h
          rename_i hc
          simp only [Bool.and_eq_true, nbeq] at hc
          obtain ⟨⟨⟨⟨rfl, rfl⟩, rfl⟩, hpl⟩, rfl⟩ := hc
          have hpe : pre' = [] := List.eq_nil_of_length_eq_zero hpl
          subst hpe
          simp only [Option.some.injEq, Prod.mk.injEq] at h
          obtain ⟨rfl, rfl⟩ := h
          simp only [decide_eq_true_eq] at hvc
          subst hvc
          obtain ⟨w', hr, hw, hh⟩ := st_row hT (vs := cs') (val := .agg cs'.toArray) hsz (by simp at hlen'; omega) rfl h3 (o := pre.length + 0) (by simp at hlen'; omega) h4'.one
          refine ⟨w', hr, hw, ⟨b, _, hb, h2, hh, ?_⟩, rfl⟩
          rw [List.drop_eq_nil_of_le (by simp at hlen'; omega), List.append_nil, h4'.none]
          obtain ⟨vs, g1, g2, rfl⟩ := h4
          refine ⟨vs, g1, g2, ?_⟩
          rw [Nat.add_zero, ← g1.length, List.take_left]
    case ivec ty k sz l =>
      cases v with
      | s => simp [stO] at h
      | pb pre' n' f' =>
        simp only [stO, Bool.cond_eq_ite] at h
        split at h
        case isFalse => cases h
        rename_i hc
        simp only [Bool.and_eq_true, nbeq] at hc
        obtain ⟨⟨rfl, rfl⟩, hpl⟩ := hc
        cases hq : intsOf k pre' with
        | none => simp [hq] at h
        | some qs =>
          simp only [hq, Option.map_some, Option.some.injEq, Prod.mk.injEq] at h
          obtain ⟨rfl, rfl⟩ := h
          simp only [decide_eq_true_eq] at hvc
          obtain ⟨cs', rfl, h4'⟩ := hv
          have hcs := h4'.ints hq
          obtain ⟨hq1, _⟩ := intsOf_get hq
          have hcl : cs'.length = qs.length := by simp [hcs]
          rcases ho with ⟨h1, hl, hcap⟩ | ⟨b', cur, h1, h2, h3, h4, h5, h6⟩
          · rw [hb] at h1; cases h1
          · rw [hb] at h1
            cases h1
            rw [h2, Nat.zero_add]
            have hfit : base + off + cs'.length ≤ cur.size := by
              rcases Nat.eq_zero_or_pos qs.length with h0 | h0
              · rcases Nat.eq_zero_or_pos (base + off) with h00 | h00
                · omega
                · have := (Array.getElem?_eq_some_iff.1 (h6 (base + off - 1) (by omega))).1; omega
              · have := (Array.getElem?_eq_some_iff.1 (h6 (base + off + qs.length - 1) (by omega))).1; omega
            obtain ⟨w', hr, hw, hh⟩ := st_row hT (vs := cs') (val := .agg cs'.toArray) (cur := cur.toList) hsz (by omega) rfl h3 (o := base + off) (by simpa using hfit) h4'.one
            refine ⟨w', hr, hw, .inr ⟨b, _, hb, h2, hh, ?_, h5, fun j hj => ?_⟩, rfl⟩
            · simp; omega
            · rw [setMany_length] at hj
              rw [setMany_get _ _ _ _ (by omega)]
              simp only [List.getElem?_toArray, List.append_assoc]
              by_cases c1 : j < base + off
              · rw [if_neg (by omega), List.getElem?_append_left (by simp; omega), List.getElem?_take, if_pos c1]
                simpa using h6 j hj
              · rw [List.getElem?_append_right (by simp; omega)]
                simp only [List.length_take, Array.length_toList]
                rw [Nat.min_eq_left (by omega)]
                by_cases c2 : j < base + off + qs.length
                · rw [if_pos (by omega), List.getElem?_append_left (by omega), hcs]
                  simp [List.getD, (by omega : j - (base + off) < qs.length)]
                · rw [if_neg (by omega), List.getElem?_append_right (by omega), List.getElem?_drop]
                  rw [show base + off + cs'.length + (j - (base + off) - cs'.length) = j by omega]
                  simpa using h6 j hj
theorem Stp.upd1 {ctx : Ctx} {m : MM} {h : Nat → Option HO} {w w' : World} {base id : Nat} {ho : HO} {mb : MB} {b : Nat} (hH : HRel cmp ctx m h w) (hm : m id = some mb) (hb : mb.b = some b)
    (hw : Wr w w' b) (hor : OR cmp m mb ho.o w') : Stp cmp m m w w' [(id, ho)] base [] where
  ext := m.le_refl
  dom := fun _ _ h => .inl h
  size := Nat.le_of_eq hw.size.symm
  same := fun b' _ hne => hw.other b' fun e => hne (id, ho) (by simp) mb hm (by rw [hb, e])
  os := hw.os
  tape := hw.tape
  output := hw.output
  upd := fun u hu => by
    simp at hu
    subst hu
    exact ⟨mb, hm, hor⟩
  new := fun _ _ h => by simp at h
  ndist := fun _ _ _ _ _ h => by simp at h
theorem snd_st (hT : TOK P T) {o : Oper} {t : TypeId} {y z : Operand} {y' z' : XO} {k : LK} (ho : o.op = .store t y z) (hk : lkT T t = some k) (hc : cO y = some y') (hz : cO z = some z') : Snd P cmp r Γ o (.st k y' z') := by
  intro ctx m hp w a ev base e K Q hE hH hfr hup hx hvc hK
  have hv := hE y y' hc (by simp [need, XI.opnds])
  have hzv := hE z z' hz (by simp [need, XI.opnds])
  simp only [xi] at hx
  split at hx
  case h_2 => cases hx
  rename_i id b' o' v hb hbz
  rw [hb] at hv
  rw [hbz] at hzv
  split at hx
  case h_2 => cases hx
  rename_i ob hho
  obtain ⟨mb, bb, h1, h2, hv⟩ := hv
  obtain ⟨mb', h1', hor, _⟩ := hH.obj id _ hho
  rw [h1] at h1'
  cases h1'
  cases hl : stO k ob b' o' v with
  | none => simp [hl] at hx
  | some rv =>
    simp only [hl, Option.map_some, Option.some.injEq] at hx
    subst hx
    obtain ⟨w', hr, hw, hor', _⟩ := st_snd hT hk hor h2 hl hvc hzv
    refine wpSk (w' := w') (by simp [ho]) ?_ (hK _ _ m trivial (Stp.upd1 hH h1 h2 hw hor'))
    simp [execOp, ho, hv, Instr.storeAt, Instr.sureAddr, hr]
theorem rowOf_snd {m : MM} {ty : TypeId} {v : AV} {o : AO} {val : Value} (h : rowOf ty v = some o) (hv : AR m v val) : ∃ cs : List Value, val.cells = cs.toArray ∧
    ∀ mb b (w : World), mb.b = some b → mb.base = 0 → w.heap[b]? = some (.cells cs.toArray ty (0, 0)) → OR cmp m mb o w := by
  cases v with
  | s x =>
    simp only [rowOf] at h
    split at h
    case isFalse => cases h
    rename_i hk
    cases h
    have h1 := SR.one hv hk
    refine ⟨[val], cells_one h1, fun mb b w e1 e2 e3 => ⟨b, [val], e1, e2, e3, [val], ⟨hv, trivial⟩, by simpa using h1, by simp [bcells]⟩⟩
  | pb pre n f =>
    simp only [rowOf] at h
    split at h
    case isFalse => cases h
    cases h
    obtain ⟨cs, rfl, hp⟩ := hv
    exact ⟨cs, rfl, fun mb b w e1 e2 e3 => ⟨b, cs, e1, e2, e3, hp⟩⟩
theorem T_zero (hT : TOK P T) {t : TypeId} {z : AV} (h : zOf T t = some z) : ∃ zv, (∀ w, (zeroValue t).run P w = .ok zv w) ∧ ∀ m, AR m z zv := by
  unfold zOf at h
  cases ht : T t with
  | none => simp [ht] at h
  | some ti =>
    simp only [ht, Option.bind_some] at h
    obtain ⟨i, h1, _, _, h2⟩ := hT.info t ti ht
    obtain ⟨zv, h3, h4⟩ := h2 z h
    exact ⟨zv, fun w => by simp [zeroValue, typeInfo, h1, h3], h4⟩
/-- a new block for a new id -/
theorem new_row {ctx : Ctx} {m : MM} {h : Nat → Option HO} {w : World} {base : Nat} {ty : TypeId} {v : AV} {o : AO} {val : Value} (hH : HRel cmp ctx m h w) (hfr : h base = none) (hro : rowOf ty v = some o) (hv : AR m v val) :
    ∃ m', Stp cmp m m' w (w.alloc (.cells val.cells ty)) [] base [⟨false, o⟩] ∧ TR m' (.av (.s (.ptr base 0 0))) (.pointer (some ⟨w.heap.size, 0, none⟩)) := by
  have hm := hH.dom base hfr
  have hv' : AR (m.put base ⟨some w.heap.size, 0, val.cells.size⟩) v val := hv.le (MM.le_put hm)
  obtain ⟨cs, h1, h2⟩ := rowOf_snd (cmp := cmp) hro hv'
  refine ⟨m.put base ⟨some w.heap.size, 0, val.cells.size⟩, Stp.new1 hm rfl rfl rfl rfl rfl (h2 _ w.heap.size _ rfl rfl ?_), ⟨_, w.heap.size, m.put_same _ _, rfl, rfl⟩⟩
  rw [h1]
  exact heap_alloc_new w _
theorem snd_alloc (hT : TOK P T) {o : Oper} {t : TypeId} {z : AV} (ho : o.op = .alloc t) (hz : zOf T t = some z) : Snd P cmp r Γ o (.alloc t z) := by
  intro ctx m hp w a ev base e K Q hE hH hfr hup hx hvc hK
  simp only [xi] at hx
  cases hro : rowOf t z with
  | none => simp [hro] at hx
  | some ob =>
    simp only [hro, Option.map_some, Option.some.injEq] at hx
    subst hx
    obtain ⟨zv, h1, h2⟩ := T_zero hT hz
    obtain ⟨m', h3, h4⟩ := new_row hH (by simpa using hfr 0 (by simp)) hro (h2 m)
    refine wpI (by simp [ho]) ?_ (hK _ _ m' h4 h3)
    simp [execOp, ho, Instr.alloc, h1, newVar, newRow]
theorem snd_box {o : Oper} {t : TypeId} {y : Operand} {y' : XO} (ho : o.op = .box t y) (hc : cO y = some y') : Snd P cmp r Γ o (.box t y') := by
  intro ctx m hp w a ev base e K Q hE hH hfr hup hx hvc hK
  have hv := hE y y' hc (by simp [need, XI.opnds])
  simp only [xi] at hx
  split at hx
  case h_2 => cases hx
  rename_i v hb
  rw [hb] at hv
  cases hro : rowOf t v with
  | none => simp [hro] at hx
  | some ob =>
    simp only [hro, Option.map_some, Option.some.injEq] at hx
    subst hx
    obtain ⟨m', h3, h4⟩ := new_row hH (by simpa using hfr 0 (by simp)) hro hv
    refine wpI (by simp [ho]) ?_ (hK _ _ m' h4 h3)
    simp [execOp, ho, Instr.box, newVar, newRow]
end
end Go.Proofs.Yteekkjfjpoaihaa.Eng

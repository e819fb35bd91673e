/- The engine, part 3: the compile of the model's code into the small code; one operation of the executor with its guard; the regions; the state's own run. -/
import Derived.Test.YteekkjfjpoaihaaEb
set_option linter.all false
namespace Go.Proofs.Yteekkjfjpoaihaa.Eng
open Go

/-- of a type: its shape, its size in cells and bytes, its zero -/
structure TI where
  d : TypeDesc
  size : Nat
  bytes : Nat
  z : Option AV

abbrev Tab := TypeId → Option TI

def cV : Value → Option AV
  | .int k n => some (.s (.int k n))
  | .bool b => some (.s (.bool b))
  | .pointer none => some (.s .nilp)
  | .slice none 0 0 => some (.s .nils)
  | .map none => some (.s .nilm)
  | .nilFunc => some (.s .nilf)
  | _ => none

def cO : Operand → Option XO
  | .tmp t => some (.t t)
  | .const v => (cV v).map .c
  | .func f => some (.c (.s (.fn f [])))
  | .global _ => none

def cOs : List Operand → Option (List XO)
  | [] => some []
  | x :: r => (cO x).bind fun y => (cOs r).map fun l => y :: l

def cPs {β : Type} (f : Nat → Option β) : List (Nat × Operand) → Option (List (β × XO))
  | [] => some []
  | (i, x) :: r => (f i).bind fun o => (cO x).bind fun y => (cPs f r).map fun l => (o, y) :: l

def lkOf : AV → LK
  | .s _ => .one
  | .pb pre n _ => .many pre.length n

def zOf (T : Tab) (t : TypeId) : Option AV := (T t).bind (·.z)
def lkT (T : Tab) (t : TypeId) : Option LK := (zOf T t).map lkOf

def kindT (T : Tab) (t : TypeId) : Option IntKind :=
  match T t with
  | some ⟨.int k, _, _, _⟩ => some k
  | _ => none

/-- all its cells are ints of one kind: the kind, how many -/
def intsT (T : Tab) (t : TypeId) : Option (IntKind × Nat) :=
  match zOf T t with
  | some (.s (.int k a)) => if a = 0 then some (k, 1) else none
  | some (.pb (.int k a :: r) 0 _) => (intsOf k (.int k a :: r)).bind fun l => if l.all (fun x => x == 0) then some (k, l.length) else none
  | _ => none

def zFalse (z : Option AV) : Nat → Bool
  | 0 => true
  | n + 1 => (match z with | some (.pb _ _ f) => !f n | _ => false) && zFalse z n

/-- the aggregates that this program compares: so many ints, so many bools -/
def eqTab : List (Nat × (Nat × Nat)) := [(38, (2, 0)), (77, (2, 0)), (108, (2, 0)), (70, (0, 49)), (95, (0, 64))]

/-- of a key or an element: its kind; its zero is the zero -/
def ckT (T : Tab) (t : TypeId) : Option CK :=
  match zOf T t with
  | some (.s (.int .i64 a)) => if a = 0 then some .int1 else none
  | some (.s (.bool b)) => if b = false then some .bool1 else none
  | some (.pb [] n f) => if zFalse (some (.pb [] n f)) n then some (.bools n) else none
  | some (.pb (.int .i64 a :: r) 0 _) => (intsOf .i64 (.int .i64 a :: r)).bind fun l => if l.all (fun x => x == 0) then some (.ints l.length) else none
  | _ => none

/-- a key's type is one of those that are compared -/
noncomputable def keyOk (t : TypeId) : CK → Bool
  | .ints n => alGet eqTab t == some (n, 0)
  | .bools n => alGet eqTab t == some (0, n)
  | _ => false

noncomputable def ekT (T : Tab) (t : TypeId) : Option EK :=
  match T t with
  | some ⟨.bool, _, _, _⟩ => some .b
  | some ⟨.slice _, _, _, _⟩ => some .nil
  | some _ => (alGet eqTab t).map fun q => .agg q.1 q.2
  | none => none

def sizeT (T : Tab) (t : TypeId) : Option Nat := (T t).map (·.size)

def sameO : Operand → Operand → Bool
  | .tmp a, .tmp b => a == b
  | .const (.int _ a), .const (.int _ b) => a == b
  | _, _ => false

def cOpt : Option Operand → Option (Option XO)
  | none => some none
  | some x => (cO x).map some

noncomputable def compOp (T : Tab) (o : Oper) : Option XI :=
  match o.op with
  | .move x => (cO x).map .mv
  | .assign x => (cO x).map .mv
  | .pick c a b => (cO c).bind fun c => (cO a).bind fun a => (cO b).map fun b => .pick c a b
  | .alloc t => (zOf T t).map fun z => .alloc t z
  | .box t x => (T t).bind fun _ => (cO x).map fun x => .box t x
  | .build t parts => (zOf T t).bind fun z => match T t with
    | some ⟨.struct fs, _, _, _⟩ => if fs.toList.all (fun f => (T f.type).isSome) then (cPs (fun i => (fs[i]?).bind fun f => (sizeT T f.type).map fun n => (f.offset, n)) parts.toList).map fun l => .bld z l else none
    | some ⟨.array _ e, _, _, _⟩ => (sizeT T e).bind fun n => (cPs (fun i => some (i * n, n)) parts.toList).map fun l => .bld z l
    | _ => none
  | .buildSlice t len parts => match T t with
    | some ⟨.slice e, _, _, _⟩ => if len ≤ 1000 then match zOf T e with
      | some (.pb [] n _) => if n ≤ 1000 ∧ 0 < n ∧ zFalse (zOf T e) n then (cPs some parts.toList).map fun l => .bslB e n len l else none
      | _ => (intsT T e).bind fun q => if q.2 ≤ 1000 ∧ 0 < q.2 then (cPs some parts.toList).map fun l => .bsl e q.1 q.2 len l else none else none
    | _ => none
  | .load t a => (lkT T t).bind fun k => (cO a).map fun a => .ld k a
  | .store t a v => (lkT T t).bind fun k => (cO a).bind fun a => (cO v).map fun v => .st k a v
  | .nilCheck x => (cO x).map .nck
  | .binOp op t x y _ => (cO x).bind fun x => (cO y).bind fun y => match kindT T t with
    | some _ => some (.bin op x y)
    | none => (ekT T t).bind fun k => match op with
      | .eql => some (.eqv k false x y)
      | .neq => some (.eqv k true x y)
      | _ => none
  | .unOp .not _ x => (cO x).map .not
  | .unOp .neg _ x => (cO x).map .neg
  | .convert s d x => match kindT T s, kindT T d with
    | some _, some k => (cO x).map fun x => .conv k x
    | _, _ => none
  | .slice t x lo hi none => (cO x).bind fun x => (cOpt lo).bind fun lo => (cOpt hi).bind fun hi => match T t with
    | some ⟨.slice e, _, _, _⟩ => (sizeT T e).map fun n => .slc n x lo hi
    | some ⟨.array k e, _, _, _⟩ => (sizeT T e).map fun n => .slcA k n x lo hi
    | _ => none
  | .fieldAddr t x f => (cO x).bind fun x => match T t with
    | some ⟨.struct fs, _, _, _⟩ => (fs[f]?).bind fun q => (sizeT T q.type).bind fun n => if n = 0 then none else some (.fad q.offset x)
    | _ => none
  | .field t x f => (cO x).bind fun x => match T t with
    | some ⟨.struct fs, _, _, _⟩ => (fs[f]?).bind fun q => (lkT T q.type).map fun k => .fld q.offset k x
    | _ => none
  | .indexAddr t x i => (cO x).bind fun x => (cO i).bind fun i => match T t with
    | some ⟨.array k e, _, _, _⟩ => (sizeT T e).map fun n => .iad k n x i
    | some ⟨.slice e, _, _, _⟩ => (sizeT T e).map fun n => .iadS n x i
    | _ => none
  | .index t x i => (cO x).bind fun x => (cO i).bind fun i => match T t with
    | some ⟨.array k e, _, _, _⟩ => (sizeT T e).bind fun n => (lkT T e).map fun q => .idx k n q x i
    | _ => none
  | .lookup t m k ok => (cO m).bind fun m => (cO k).bind fun k => match T t with
    | some ⟨.map kt e, _, _, _⟩ => (ckT T kt).bind fun kk => if keyOk kt kk then (ckT T e).map fun vk => .lkup kk vk ok m k else none
    | _ => none
  | .mapUpdate t m k v => (cO m).bind fun m => (cO k).bind fun k => (cO v).bind fun v => match T t with
    | some ⟨.map kt e, _, _, _⟩ => (ckT T kt).bind fun kk => if keyOk kt kk then (ckT T e).map fun vk => .mupd kk vk m k v else none
    | _ => none
  | .insert t m k v => (cO m).bind fun m => (cO k).bind fun k => (cO v).bind fun v => match T t with
    | some ⟨.map kt e, _, _, _⟩ => (ckT T kt).bind fun kk => if keyOk kt kk then (ckT T e).map fun vk => .mupd kk vk m k v else none
    | _ => none
  | .makeMap t none => match T t with
    | some ⟨.map kt e, _, _, _⟩ => (ckT T kt).bind fun kk => (ckT T e).map fun vk => .mmk kk vk
    | _ => none
  | .makeSlice t l c => if sameO l c then (cO l).bind fun n => match T t with
    | some ⟨.slice e, _, _, _⟩ => match T e with
      | some ⟨.int k, 1, 8, some (.s (.int k' 0))⟩ => if k = k' then some (.mkS e k n) else none
      | some ⟨.bool, 1, 1, some (.s (.bool false))⟩ => some (.mkSB e n)
      | _ => none
    | _ => none else none
  | .makeFunc (.func f) first caps => if first.size = 0 then (cOs caps.toList).map fun l => .mkf f l else none
  | .extract x i => (cO x).map fun x => .extr x i
  | .panic _ => some .bad
  | .makeInterface _ _ => some .bad
  | .call c => match c.callee with
    | .builtin .len => match c.args.toList, c.argTypes.toList with
      | [x], [t] => match T t with
        | some ⟨.slice _, _, _, _⟩ => (cO x).map .len
        | some ⟨.map _ _, _, _, _⟩ => (cO x).map .lenM
        | _ => none
      | _, _ => none
    | .builtin .min => (cOs c.args.toList).map .mn
    | .builtin .max => (cOs c.args.toList).map .mx
    | .builtin .append => match c.args.toList, c.argTypes.toList with
      | [s, x], [t, t'] => if t = t' then match T t with
        | some ⟨.slice e, _, _, _⟩ => (intsT T e).bind fun q => (T e).bind fun ti => if 0 < q.2 ∧ ti.bytes ≤ 1000 then (cO s).bind fun s => (cO x).map fun x => .app e q.1 q.2 s x else none
        | _ => none else none
      | _, _ => none
    | .value f => (cO f).bind fun f => (cOs c.args.toList).map fun l => .call f l
    | _ => none
  | _ => none

/-- the operands that an operation reads -/
def XI.opnds : XI → List XO
  | .mv x | .box _ x | .ld _ x | .nck x | .not x | .neg x | .conv _ x | .fad _ x | .fld _ _ x | .mkS _ _ x | .mkSB _ x | .extr x _ | .len x | .lenM x => [x]
  | .pick c a b => [c, a, b]
  | .alloc .. | .mmk .. | .bad => []
  | .bld _ ps => ps.map (·.2)
  | .bsl _ _ _ _ ps | .bslB _ _ _ ps => ps.map (·.2)
  | .st _ a v | .bin _ a v | .eqv _ _ a v | .iad _ _ a v | .iadS _ a v | .idx _ _ _ a v | .lkup _ _ _ a v | .app _ _ _ a v => [a, v]
  | .slc _ x lo hi | .slcA _ _ x lo hi => x :: (lo.toList ++ hi.toList)
  | .mupd _ _ m k v => [m, k, v]
  | .mkf _ l | .mn l | .mx l => l
  | .call f l => f :: l

def evalX (sl : Nat → Option Slot) : XO → Slot
  | .t n => (sl n).getD ⟨true, anyT⟩
  | .c v => ⟨true, .av v⟩

/-- the operands' own conditions -/
noncomputable def allX (p : XO → Bool) (l : List XO) : Bool := List.rec true (fun x _ ih => p x && ih) l
theorem allX_eq (p : XO → Bool) : ∀ (l : List XO), allX p l = l.all p
  | [] => rfl
  | x :: l => by show (p x && allX p l) = _; rw [allX_eq p l]; rfl

noncomputable def opc (sl : Nat → Option Slot) : XI → Bool
  | .pick c a b => (evalX sl c).c && (match (evalX sl c).v with | .av (.s (.bool t)) => bif t then (evalX sl a).c else (evalX sl b).c | _ => false)
  | x => allX (fun y => (evalX sl y).c) x.opnds

def guardC (sl : Nat → Option Slot) : Option (Nat × Bool) → Option Bool
  | none => some true
  | some (t, want) => match sl t with
    | some ⟨c, .av (.s (.bool b))⟩ => some (c && (b == want))
    | some ⟨false, _⟩ => some false
    | _ => none

noncomputable def Sto.setNews (h : Sto HO) (b : Nat) (l : List HO) : Sto HO := List.rec (fun _ => h) (fun o _ ih b => (ih (Nat.succ b)).set b o) l b
theorem Sto.setNews_nil (h : Sto HO) (b : Nat) : h.setNews b [] = h := rfl
theorem Sto.setNews_cons (h : Sto HO) (b : Nat) (o : HO) (r : List HO) : h.setNews b (o :: r) = (h.setNews (b + 1) r).set b o := rfl

def updOk (h : Nat → Option HO) : List (Nat × HO) → Bool
  | [] => true
  | [u] => (match h u.1 with | some ho => !ho.ro && ho.live | none => false) && !u.2.ro
  | u :: r => (match h u.1 with | some ho => !ho.ro && ho.live | none => false) && !u.2.ro && r.all (fun v => !(Nat.beq v.1 u.1)) && updOk h r

def newsOk (h : Nat → Option HO) : Nat → List HO → Bool
  | _, [] => true
  | b, o :: r => (h b).isNone && !o.ro && newsOk h (b + 1) r

noncomputable def setDst (sl : Sto Slot) : Option Nat → Slot → Sto Slot
  | none, _ => sl
  | some d, s => sl.set d s

/-- what an operation does: its slot, what it leaves there, which objects it turns, which it makes (and from which id on), what it looks at (none: unknown) -/
structure Ef where
  dst : Option Nat
  s : Slot
  upd : List (Nat × HO)
  base : Nat
  news : List HO
  rd : Option (List Nat)

/-- one operation: its conditions, what it does -/
noncomputable def xopF (Γ : Cal → Option Spec) (b0 : Nat) (x : XOp) (sl : Nat → Option Slot) (hp : Nat → Option HO) : Option (Bool × Ef) :=
  match guardC sl x.g with
  | none => none
  | some c =>
    match xi Γ x.x (fun y => (evalX sl y).v) hp (b0 + x.off) with
    | some e =>
      match e.upd, e.news with
      | [], [] => some (!c || (opc sl x.x && e.vc), ⟨x.dst, ⟨c, e.val⟩, [], b0 + x.off, [], bif c then e.rd else some []⟩)
      | _, _ => match c with
        | true => some (opc sl x.x && e.vc && updOk hp e.upd && newsOk hp (b0 + x.off) e.news, ⟨x.dst, ⟨true, e.val⟩, e.upd, b0 + x.off, e.news, e.rd⟩)
        | false => some (true, ⟨x.dst, ⟨false, anyT⟩, [], b0 + x.off, [], some []⟩)
    | none => match c with
      | false => some (true, ⟨x.dst, ⟨false, anyT⟩, [], b0 + x.off, [], some []⟩)
      | true => none

noncomputable def St.app (S : St) (e : Ef) : St := { S with sl := setDst S.sl e.dst e.s, hp := (S.hp.setAll e.upd).setNews e.base e.news }

/-- the operations of a region, in the text's order: the conditions, the state behind them, what each did -/
noncomputable def xops (Γ : Cal → Option Spec) (b0 : Nat) (l : List XOp) : St → Option (Bool × St × List Ef) :=
  List.rec (fun S => some (true, S, [])) (fun x _ ih S => match xopF Γ b0 x S.sl.get S.hp.get with
    | some (v, e) => match ih (S.app e) with
      | some (v', S'', l) => some (v && v', S'', e :: l)
      | none => none
    | none => none) l
theorem xops_nil (Γ : Cal → Option Spec) (b0 : Nat) (S : St) : xops Γ b0 [] S = some (true, S, []) := rfl
theorem xops_cons (Γ : Cal → Option Spec) (b0 : Nat) (x : XOp) (r : List XOp) (S : St) : xops Γ b0 (x :: r) S = (match xopF Γ b0 x S.sl.get S.hp.get with
    | some (v, e) => match xops Γ b0 r (S.app e) with
      | some (v', S'', l) => some (v && v', S'', e :: l)
      | none => none
    | none => none) := rfl

/-! of two operations that may come in either order -/
def disjL (a b : List Nat) : Bool := a.all fun i => b.all fun j => !(Nat.beq i j)
def Ef.tch (e : Ef) : List Nat := e.upd.map (·.1) ++ List.range' e.base e.news.length
def disjO (a : List Nat) : Option (List Nat) → Bool
  | none => a.isEmpty
  | some l => disjL a l
def okEf (a b : Ef) : Bool := disjL a.tch b.tch && disjO a.tch b.rd && disjO b.tch a.rd
def okAt (l : List Ef) (p : Nat × Nat) : Bool :=
  match l[p.1]?, l[p.2]? with
  | some a, some b => okEf a b
  | _, _ => false

/-! ### the compile of the code -/

def opClass : XI → Nat     -- 0: no memory; 1: reads; 2: makes; 3: writes; 4: calls
  | .ld .. | .lkup .. => 1
  | .alloc .. | .box .. | .bsl .. | .bslB .. | .mmk .. | .mkS .. | .mkSB .. => 2
  | .st .. | .mupd .. | .app .. => 3
  | .call .. => 4
  | .lenM _ => 1
  | _ => 0

def cnt : XI → Nat
  | .alloc .. | .box .. | .bsl .. | .bslB .. | .mmk .. | .mkS .. | .mkSB .. | .app .. => 1
  | .call .. => 8
  | _ => 0

def clash (a b : XI) : Bool :=
  match opClass a, opClass b with
  | 0, _ | _, 0 => false
  | 1, 1 => false
  | _, _ => true

def bindsE (e : Edge) : Bool := Region.binds .any e

/-- the operations before each, by the edges, all the way -/
def ancs : List Oper → List (List Nat) → List (List Nat)
  | [], acc => acc
  | o :: r, acc => ancs r (acc ++ [((o.after.toList.filter bindsE).map (·.on)).foldl (fun s j => if s.contains j then s else j :: (acc.getD j []).foldl (fun s k => if s.contains k then s else k :: s) s) []])

def pairs (n : Nat) (bad : Nat → Nat → Bool) : List (Nat × Nat) := (List.range n).flatMap fun j => ((List.range j).filter fun i => bad i j).map fun i => (i, j)

def dstOk (nt : Nat) : Option Nat → Bool
  | some d => decide (d < nt)
  | none => true

noncomputable def compOps (T : Tab) (nt : Nat) (all : List Oper) : List Oper → Nat → Option (List XOp × Nat)
  | [], off => some ([], off)
  | o :: r, off => (compOp T o).bind fun x =>
    (match o.guard with
      | none => some none
      | some (j, want) => ((all[j]?).bind (·.dst)).map fun t => some (t, want)).bind fun g =>
    if dstOk nt o.dst then (compOps T nt all r (off + cnt x)).map fun (q : List XOp × Nat) => (⟨o.dst, g, x, off⟩ :: q.1, q.2) else none

/-- the slots that an operation looks at -/
def XOp.looks (x : XOp) : List Nat := (match x.g with | some (t, _) => [t] | none => []) ++ x.x.opnds.filterMap fun | .t t => some t | .c _ => none

/-- the edges go forward -/
def fwdOk (ops : List Oper) : Bool := (List.range ops.length).all fun j => match ops[j]? with | none => false | some o => o.after.toList.all fun e => !bindsE e || decide (e.on < j)

/-- in a region that draws: each temporary is written once; who reads it waits for who writes it, or the other way round -/
def slotsOk (xs : List XOp) (anc : List (List Nat)) : Bool :=
  (List.range xs.length).all fun j => match xs[j]? with
    | none => false
    | some x =>
      (List.range xs.length).all fun i => match xs[i]? with
        | none => false
        | some p => match p.dst with
          | none => true
          | some d => (i == j || x.dst != some d) && (!(x.looks).contains d || i == j || (anc.getD j []).contains i || (anc.getD i []).contains j)

noncomputable def compC (T : Tab) (nt : Nat) : Code → Option XC
  | .skip => some .skip
  | .region _ ops draw => (compOps T nt ops.toList ops.toList 0).bind fun (q : List XOp × Nat) =>
    if draw then
      let anc := ancs ops.toList []
      if fwdOk ops.toList && slotsOk q.1 anc then
        some (.regD q.1 q.2 (pairs q.1.length fun i j => !(anc.getD j []).contains i && (match q.1[i]?, q.1[j]? with | some a, some b => clash a.x b.x | _, _ => false)))
      else none
    else some (.reg q.1 q.2)
  | .seq a b => (compC T nt a).bind fun a => (compC T nt b).map fun b => .seq a b
  | .cond c a b => (cO c).bind fun c => (compC T nt a).bind fun a => (compC T nt b).map fun b => .cond c a b
  | .block id b => (compC T nt b).map fun b => .block id b
  | .loop b => (compC T nt b).map .loop
  | .rangeFunc f ps a b => if ps.toList.all (fun t => decide (t < nt)) then (cO f).bind fun f => (compC T nt a).bind fun a => (compC T nt b).map fun b => .rf f ps.toList a b else none
  | .exit id => some (.exit id)
  | .scope b => (compC T nt b).map .scope
  | .label l => some (.label l)
  | .ret => some .ret
  | .goto _ | .refuse _ => none

end Go.Proofs.Yteekkjfjpoaihaa.Eng

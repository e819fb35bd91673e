/- A part of the proof of ordersOrders_holds. -/
import Derived.Test.YteekkjfjpoaihaaOo12
set_option linter.all false
namespace Go.Proofs.Yteekkjfjpoaihaa.Eng
open Go Go.Proofs
noncomputable def Lj29 : List (Nat × Spec) := [(61, pureS (gRel fun f => .av (.pb [] 49 (turnR f)))), (80, spJoined), (82, spLine)]
theorem Lj29_ok : SpecsL Lj29 := specsL_cons ok61 (pureS_fp (gRel_fp _)) o61 (specsL_cons ok80 (genS_fp) o80 (specsL_cons ok82 (genS_fp) o82 (fun p hp => absurd hp (by simp))))
noncomputable abbrev gj29 : Cal → Option Spec := specsΓ Lj29
theorem envj29 : EnvOK PP T gj29 := envL Lj29_ok
noncomputable def Lo29 : List (Nat × Spec) := [(81, spOth), (55, pureS gOrient)]
theorem Lo29_ok : SpecsL Lo29 := specsL_cons ok81 (genS_fp) o81 (specsL_cons ok55 (pureS_fp gOrient_fp) o55 (fun p hp => absurd hp (by simp)))
noncomputable abbrev go29 : Cal → Option Spec := specsΓ Lo29
theorem envo29 : EnvOK PP T go29 := envL Lo29_ok
abbrev bx48 : HO := ⟨false, .row 48 [.nils, .nils] 0 ff⟩
abbrev R70b (f : Nat → Bool) : HO := ⟨false, .row 70 [] 49 f⟩
abbrev B29 (n : Nat) (f : Nat → Bool) : St := mkSt [(0, iS n), (4, g1S 0), (7, g1S 1)] [bx48, R70b f] 2 []
abbrev D29 (n : Nat) (f j : Nat → Bool) : St := mkSt [(0, iS n), (4, g1S 0), (7, g1S 1), (9, g1S 2)] [bx48, R70b f, ⟨false, .row 115 [.int .i64 (Int.ofNat n)] 49 j⟩] 3 []
abbrev E29 (n : Nat) (f s : Nat → Bool) (ok : Bool) : St := mkSt [(0, iS n), (4, g1S 0), (7, g1S 1), (10, g1S 2), (11, ⟨true, B ok⟩)] [bx48, R70b f, R70b s] 3 []
theorem a29 {n : Nat} {q : List Int} {m : Nat}  : Exec PP T none x29.nt 0 x29.body.a (startSt (A40 (Int.ofNat n) m) (H1 q)) .n (mkSt [(0, iS n), (1, lsS 0 m), (4, g1S 1)] [⟨true, .xvec .i64 2 q⟩, bx48] 2 []) := by
  refine exec_orun env0 false 60 [] [0, 1] (fun _ => rfl) (by kernel_rfl) (by kernel_rfl) (by kernel_rfl) (by kernel_rfl)
theorem b29 {n : Nat} {q : List Int} {m : Nat} (hq : q.length = m * 2) (hm : m ≤ 1000000000) : Exec PP T none x29.nt 0 x29.body.b.a (mkSt [(0, iS n), (1, lsS 0 m), (4, g1S 1)] [⟨true, .xvec .i64 2 q⟩, bx48] 2 []) .n (mkSt [(0, iS n), (4, g1S 0), (7, g1S 1), (8, iS (orderE (Int.ofNat n) ((q.drop (0 * 2)).take (m * 2)) m))] [bx48, R70b (orderF (Int.ofNat n) ((q.drop (0 * 2)).take (m * 2)) m)] 2 []) := by
  refine exec_orun envr20 false 60 [] [1, 10] (fun _ => rfl) (by kernel_rfl) (by kernel_rfl) (by kernel_rfl) ?_
  rw [(show obOf (orun gr20 false 60 x29.body.b.a (mkSt [(0, iS n), (1, lsS 0 m), (4, g1S 1)] [⟨true, .xvec .i64 2 q⟩, bx48] 2 []) []) = (decide ((0 + m) * 2 ≤ q.length) && (decide (m ≤ 1000000000) && true) && true) from by kernel_rfl)]
  simp [bndL, hq]
  omega
theorem cc29 {n : Nat} {f : Nat → Bool}  : Exec PP T none x29.nt 0 x29.body.b.b.a (mkSt [(0, iS n), (4, g1S 0), (7, g1S 1), (8, iS 0)] [bx48, R70b f] 2 []) .n (B29 n f) := by
  refine exec_orun env0 false 60 [false] [0, 1] (fun _ => rfl) (by kernel_rfl) (by kernel_rfl) (by kernel_rfl) (by kernel_rfl)
theorem d29 {n : Nat} {f : Nat → Bool}  : Exec PP T none x29.nt 0 x29.body.b.b.b.a (B29 n f) .n (D29 n f (joinJ (combR f (turnR f)))) := by
  refine exec_orun envj29 false 60 [] [0, 1, 19] (fun _ => rfl) (by kernel_rfl) (by kernel_rfl) (by kernel_rfl) (by kernel_rfl)
theorem e29 {n : Nat} {f j : Nat → Bool} (hn : n ≤ 7) : Exec PP T none x29.nt 0 x29.body.b.b.b.b.a (D29 n f j) .n (E29 n f (oriR n (othF n j)) (oriOk n (othF n j))) := by
  refine exec_orun envo29 false 60 [] [0, 1, 19] (fun _ => rfl) (by kernel_rfl) (by kernel_rfl) (by kernel_rfl) ?_
  rw [(show obOf (orun go29 false 60 x29.body.b.b.b.b.a (D29 n f j) []) = (decide (0 ≤ Int.ofNat n) && decide (Int.ofNat n ≤ 7) && true && true && (decide (0 ≤ Int.ofNat n) && decide (Int.ofNat n ≤ 7) && true)) from by kernel_rfl)]
  simp [cOth]
  omega
theorem f29n {n : Nat} {f s : Nat → Bool}  : Exec PP T none x29.nt 0 x29.body.b.b.b.b.b.a (E29 n f s false) .r (mkSt [(4, g1S 0), (5, ⟨true, B false⟩), (6, iS 0)] [bx48] 1 []) := by
  refine exec_orun env0 false 60 [true] [0] (fun _ => rfl) (by kernel_rfl) (by kernel_rfl) (by kernel_rfl) (by kernel_rfl)
theorem f29y {n : Nat} {f s : Nat → Bool}  : Exec PP T none x29.nt 0 x29.body.b.b.b.b.b.a (E29 n f s true) .n (mkSt [(0, iS n), (4, g1S 0), (7, g1S 1), (10, g1S 2)] [bx48, R70b f, R70b s] 3 []) := by
  refine exec_orun env0 false 60 [false] [0, 1, 2] (fun _ => rfl) (by kernel_rfl) (by kernel_rfl) (by kernel_rfl) (by kernel_rfl)
theorem g29 {n : Nat} {f s : Nat → Bool} (hn : n ≤ 7) (h1 : lnOk (joinJ (combR f s)) n = true) (h2 : lnOk (joinJ (combR f (turnR s))) n = true) : Exec PP T none x29.nt 0 x29.body.b.b.b.b.b.b (mkSt [(0, iS n), (4, g1S 0), (7, g1S 1), (10, g1S 2)] [bx48, R70b f, R70b s] 3 []) .r (mkSt [(4, g1S 2), (5, ⟨true, B true⟩), (6, iS 0)] [⟨false, .ivec 3 .i64 1 (lnF (joinJ (combR f s)) n n)⟩, ⟨false, .ivec 3 .i64 1 (lnF (joinJ (combR f (turnR s))) n n)⟩, ⟨false, .row 48 [.sl 0 0 1 n, .sl 1 0 1 n] 0 ff⟩] 3 []) := by
  refine exec_orun envj29 false 60 [] [12, 37, 0] (fun _ => rfl) (by kernel_rfl) (by kernel_rfl) (by kernel_rfl) ?_
  rw [(show obOf (orun gj29 false 60 x29.body.b.b.b.b.b.b (mkSt [(0, iS n), (4, g1S 0), (7, g1S 1), (10, g1S 2)] [bx48, R70b f, R70b s] 3 []) []) = (lnOk (joinJ fun j => bif ((1, XO.t 40).fst * 49).ble j && j.ble 97 then s (j - 49) else bif j.ble 48 then f j else false) n && (decide (0 ≤ Int.ofNat n) && decide (Int.ofNat n ≤ 7)) && true && true && (lnOk (joinJ fun j => bif ((1, XO.t 47).fst * 49).ble j && j.ble 97 then turnR s (j - 49) else bif j.ble 48 then f j else false) n && (decide (0 ≤ Int.ofNat n) && decide (Int.ofNat n ≤ 7)) && true && true && true) && true && true) from by kernel_rfl)]
  simp only [Bool.and_eq_true, Bool.and_true, decide_eq_true_eq]
  exact ⟨⟨h1, by simp, by simp; omega⟩, h2, by simp, by simp; omega⟩
/-- the others of an order's graph -/
def rOth (f : Nat → Bool) (n : Nat) : Nat → Bool := othF n (joinJ (combR f (turnR f)))
def rS1 (f : Nat → Bool) (n : Nat) : Nat → Bool := joinJ (combR f (oriR n (rOth f n)))
def rS2 (f : Nat → Bool) (n : Nat) : Nat → Bool := joinJ (combR f (turnR (oriR n (rOth f n))))
theorem body29n {n : Nat} {q : List Int} {m : Nat} (hq : q.length = m * 2) (hm : m ≤ 1000000000) (h : ordC (Int.ofNat n) q m = true) (hk : oriOk n (rOth (orderF (Int.ofNat n) q m) n) = false) : Exec PP T none x29.nt 0 x29.body (startSt (A40 (Int.ofNat n) m) (H1 q)) .r
    (mkSt [(4, g1S 0), (5, ⟨true, B false⟩), (6, iS 0)] [bx48] 1 []) := by
  obtain ⟨h0, ht, h1, hn⟩ := ordC_at h
  have hb := b29 (n := n) hq hm
  rw [take_all2 hq, h0] at hb
  have he := e29 (n := n) (f := orderF (Int.ofNat n) q m) (j := joinJ (combR (orderF (Int.ofNat n) q m) (turnR (orderF (Int.ofNat n) q m)))) hn
  have hk' : oriOk n (othF n (joinJ (combR (orderF (Int.ofNat n) q m) (turnR (orderF (Int.ofNat n) q m))))) = false := hk
  rw [hk'] at he
  exact exec_seq (x := x29.body.a) (y := x29.body.b) a29 (exec_seq (x := x29.body.b.a) (y := x29.body.b.b) hb (exec_seq (x := x29.body.b.b.a) (y := x29.body.b.b.b) cc29 (exec_seq (x := x29.body.b.b.b.a) (y := x29.body.b.b.b.b) d29 (exec_seq (x := x29.body.b.b.b.b.a) (y := x29.body.b.b.b.b.b) he (exec_seq_x (x := x29.body.b.b.b.b.b.a) (y := x29.body.b.b.b.b.b.b) f29n (by simp))))))
theorem body29y {n : Nat} {q : List Int} {m : Nat} (hq : q.length = m * 2) (hm : m ≤ 1000000000) (h : ordC (Int.ofNat n) q m = true) (hk : oriOk n (rOth (orderF (Int.ofNat n) q m) n) = true) (k1 : lnOk (rS1 (orderF (Int.ofNat n) q m) n) n = true) (k2 : lnOk (rS2 (orderF (Int.ofNat n) q m) n) n = true) : Exec PP T none x29.nt 0 x29.body (startSt (A40 (Int.ofNat n) m) (H1 q)) .r
    (mkSt [(4, g1S 2), (5, ⟨true, B true⟩), (6, iS 0)] [⟨false, .ivec 3 .i64 1 (lnF (rS1 (orderF (Int.ofNat n) q m) n) n n)⟩, ⟨false, .ivec 3 .i64 1 (lnF (rS2 (orderF (Int.ofNat n) q m) n) n n)⟩, ⟨false, .row 48 [.sl 0 0 1 n, .sl 1 0 1 n] 0 ff⟩] 3 []) := by
  obtain ⟨h0, ht, h1, hn⟩ := ordC_at h
  have hb := b29 (n := n) hq hm
  rw [take_all2 hq, h0] at hb
  have he := e29 (n := n) (f := orderF (Int.ofNat n) q m) (j := joinJ (combR (orderF (Int.ofNat n) q m) (turnR (orderF (Int.ofNat n) q m)))) hn
  have hk' : oriOk n (othF n (joinJ (combR (orderF (Int.ofNat n) q m) (turnR (orderF (Int.ofNat n) q m))))) = true := hk
  rw [hk'] at he
  exact exec_seq (x := x29.body.a) (y := x29.body.b) a29 (exec_seq (x := x29.body.b.a) (y := x29.body.b.b) hb (exec_seq (x := x29.body.b.b.a) (y := x29.body.b.b.b) cc29 (exec_seq (x := x29.body.b.b.b.a) (y := x29.body.b.b.b.b) d29 (exec_seq (x := x29.body.b.b.b.b.a) (y := x29.body.b.b.b.b.b) he (exec_seq (x := x29.body.b.b.b.b.b.a) (y := x29.body.b.b.b.b.b.b) f29y (g29 hn k1 k2))))))
def cReaN : List PA → Bool := fun pas => match pas with | [.int n, .sl _ q m] => ordC n q m && !(oriOk n.toNat (rOth (orderF n q m) n.toNat)) | _ => false
def cReaY : List PA → Bool := fun pas => match pas with | [.int n, .sl _ q m] => ordC n q m && (oriOk n.toNat (rOth (orderF n q m) n.toNat) && (lnOk (rS1 (orderF n q m) n.toNat) n.toNat && lnOk (rS2 (orderF n q m) n.toNat) n.toNat)) | _ => false
def vReaN : List PA → TV := fun _ => .tup [.pb [.nils, .nils] 0 ff, .s (.bool false), .s (.int .i64 0)]
def vReaY : List PA → TV := fun pas => match pas with | [.int n, .sl _ q m] => .tup [.pb [.sl 0 0 1 n.toNat, .sl 1 0 1 n.toNat] 0 ff, .s (.bool true), .s (.int .i64 0)] | _ => .tup [.pb [.sl 0 0 1 0, .sl 1 0 1 0] 0 ff, .s (.bool true), .s (.int .i64 0)]
def nReaY : List PA → List HO := fun pas => match pas with | [.int n, .sl _ q m] => [⟨false, .ivec 3 .i64 1 (lnF (rS1 (orderF n q m) n.toNat) n.toNat n.toNat)⟩, ⟨false, .ivec 3 .i64 1 (lnF (rS2 (orderF n q m) n.toNat) n.toNat n.toNat)⟩] | _ => [⟨false, .ivec 3 .i64 1 []⟩, ⟨false, .ivec 3 .i64 1 []⟩]
noncomputable abbrev spReaN : Spec := genS [.int, .sl 2] cReaN vReaN fun _ => []
noncomputable abbrev spReaY : Spec := genS [.int, .sl 2] cReaY vReaY nReaY
theorem ok29N : SpecOK PP (compC T) 29 spReaN := ok_genT o29 (by kernel_rfl) fun pas hf hc => match pas, hf with
  | [.int n, .sl _ q m], ⟨_, ⟨rfl, hq, hm⟩, _⟩ => by
    unfold cReaN at hc
    simp only [Bool.and_eq_true, Bool.not_eq_true'] at hc
    obtain ⟨k, rfl⟩ := ordC_nat hc.1
    exact ⟨_, [bx48], 1, .r, body29n hq hm hc.1 hc.2, fun _ => rfl, by kernel_rfl, by kernel_rfl, by kernel_rfl⟩
theorem ok29Y : SpecOK PP (compC T) 29 spReaY := ok_genT o29 (by kernel_rfl) fun pas hf hc => match pas, hf with
  | [.int n, .sl _ q m], ⟨_, ⟨rfl, hq, hm⟩, _⟩ => by
    unfold cReaY at hc
    simp only [Bool.and_eq_true] at hc
    obtain ⟨k, rfl⟩ := ordC_nat hc.1
    exact ⟨_, [⟨false, .row 48 [.sl 0 0 1 k, .sl 1 0 1 k] 0 ff⟩], 3, .r, body29y hq hm hc.1 hc.2.1 hc.2.2.1 hc.2.2.2, fun _ => rfl, by kernel_rfl, by kernel_rfl, by kernel_rfl⟩
end Go.Proofs.Yteekkjfjpoaihaa.Eng
namespace Go.Proofs.Yteekkjfjpoaihaa.Eng
open Go Go.Proofs
open Go.Proofs.Yteekkjfjpoaihaa.Ori
def setX (X : Nat → Nat → Prop) (a b : Nat) (x y : Nat) : Prop := X x y ∨ (x = a ∧ y = b)
def revX (X : Nat → Nat → Prop) (x y : Nat) : Prop := X y x
def emX (_ _ : Nat) : Prop := False
/-- a state of counting -/
structure Mid (E X : Nat → Nat → Prop) (es : List (Nat × Nat)) : Prop where
  sub : ∀ {x y}, X x y → E x y
  esub : ∀ p ∈ es, E p.1 p.2
  cov : ∀ {x y}, E x y → X x y ∨ X y x ∨ (x, y) ∈ es ∨ (y, x) ∈ es
section
variable {E X : Nat → Nat → Prop}
theorem Mid.set (hG : Graph E) {a b : Nat} {es : List (Nat × Nat)} (h : Mid E X ((a, b) :: es)) : Mid E (setX X a b) es ∧ Mid E (setX X b a) es := by
  have hab : E a b := h.esub (a, b) (by simp)
  constructor
  · refine ⟨fun hx => ?_, fun p hp => h.esub p (by simp [hp]), fun {x y} he => ?_⟩
    · rcases hx with hx | ⟨rfl, rfl⟩
      · exact h.sub hx
      · exact hab
    · rcases h.cov he with h1 | h1 | h1 | h1
      · exact .inl (.inl h1)
      · exact .inr (.inl (.inl h1))
      · rcases List.mem_cons.1 h1 with h1 | h1
        · cases h1; exact .inl (.inr ⟨rfl, rfl⟩)
        · exact .inr (.inr (.inl h1))
      · rcases List.mem_cons.1 h1 with h1 | h1
        · cases h1; exact .inr (.inl (.inr ⟨rfl, rfl⟩))
        · exact .inr (.inr (.inr h1))
  · refine ⟨fun hx => ?_, fun p hp => h.esub p (by simp [hp]), fun {x y} he => ?_⟩
    · rcases hx with hx | ⟨rfl, rfl⟩
      · exact h.sub hx
      · exact hG.sym hab
    · rcases h.cov he with h1 | h1 | h1 | h1
      · exact .inl (.inl h1)
      · exact .inr (.inl (.inl h1))
      · rcases List.mem_cons.1 h1 with h1 | h1
        · cases h1; exact .inr (.inl (.inr ⟨rfl, rfl⟩))
        · exact .inr (.inr (.inl h1))
      · rcases List.mem_cons.1 h1 with h1 | h1
        · cases h1; exact .inl (.inr ⟨rfl, rfl⟩)
        · exact .inr (.inr (.inr h1))
end
section
variable {n : Nat} {f : Nat → Bool}
theorem Rl_ff : Rl ff = emX := ext2 fun x y => ⟨fun h => (by have := h.2.2; cases this), fun h => h.elim⟩
structure CInv (n : Nat) (f : Nat → Bool) (s : List (Nat × Nat) × Nat) (Ls : List (Nat × Nat)) : Prop where
  ed : ∀ l ∈ Ls, Ed n f l.1 l.2
  len : Ls.length = s.2
  mem : ∀ p, p ∈ s.1 ↔ ∃ l ∈ Ls, Cls (Ed n f) l p
theorem mem_push {L : List (Nat × Nat)} {p : Nat × Nat} : ∀ {M : List (Nat × Nat)}, p ∈ L.foldl pushL M ↔ p ∈ M ∨ p ∈ L := by
  induction L with
  | nil => simp
  | cons a L ih =>
    intro M
    rw [List.foldl_cons, ih, mem_pushL]
    simp [or_assoc]
theorem CInv.step (hn : n ≤ 7) {s : List (Nat × Nat) × Nat} {Ls : List (Nat × Nat)} (h : CInv n f s Ls) {p : Nat × Nat} (hp : Ed n f p.1 p.2) : ∃ Ls', CInv n f (clsT n f s p) Ls' ∧ p ∈ (clsT n f s p).1 ∧ ∀ q ∈ s.1, q ∈ (clsT n f s p).1 := by
  unfold clsT
  cases hc : s.1.contains p with
  | true => exact ⟨Ls, h, List.contains_iff_mem.1 hc, fun q hq => hq⟩
  | false =>
    refine ⟨p :: Ls, ⟨fun l hl => ?_, by simp [h.len], fun q => ?_⟩, ?_, fun q hq => ?_⟩
    · rcases List.mem_cons.1 hl with rfl | hl
      · exact hp
      · exact h.ed l hl
    · show q ∈ (rchL n f p.1 p.2).foldl pushL s.1 ↔ _
      rw [mem_push, h.mem, mem_rch hn hp]
      constructor
      · rintro (⟨l, h1, h2⟩ | h1)
        · exact ⟨l, by simp [h1], h2⟩
        · exact ⟨p, by simp, h1⟩
      · rintro ⟨l, h1, h2⟩
        rcases List.mem_cons.1 h1 with rfl | h1
        · exact .inr h2
        · exact .inl ⟨l, h1, h2⟩
    · show p ∈ (rchL n f p.1 p.2).foldl pushL s.1
      exact mem_push.2 (.inr rchL_mem)
    · show q ∈ (rchL n f p.1 p.2).foldl pushL s.1
      exact mem_push.2 (.inl hq)
end
end Go.Proofs.Yteekkjfjpoaihaa.Eng
namespace Go.Proofs.Yteekkjfjpoaihaa.Eng
open Go Go.Proofs
open Go.Proofs.Yteekkjfjpoaihaa.Ori
def lexP (p q : Nat × Nat) : Prop := p.1 < q.1 ∨ p.1 = q.1 ∧ p.2 < q.2
theorem pairsN_lex (g : Nat → Nat → Bool) (n : Nat) : ∀ a, (pairsN g n a).Pairwise lexP
  | 0 => by simp [pairsN]
  | a + 1 => by
    rw [pairsN_succ, List.pairwise_append]
    refine ⟨pairsN_lex g n a, ?_, fun p hp q hq => ?_⟩
    · exact List.pairwise_map.2 (((List.pairwise_lt_range (n := n)).sublist List.filter_sublist).imp fun h => .inr ⟨rfl, h⟩)
    · have h1 := (mem_pairsN.1 hp).1
      obtain ⟨k, _, rfl⟩ := List.mem_map.1 hq
      exact .inl h1
section
variable {L : List (Nat × Nat)}
theorem pa_flat {i : Nat} (hi : i < L.length) : pa (flatN L) i = Int.ofNat (L.getD i (0, 0)).1 ∧ pb (flatN L) i = Int.ofNat (L.getD i (0, 0)).2 := by
  have hp : L[i]? = some (L.getD i (0, 0)) := by simp [hi]
  have := flatN_get hp
  unfold pa pb
  rw [show 2 * i = i * 2 by omega]
  exact this
theorem upB_flat (hs : L.Pairwise lexP) {i : Nat} (hi : i < L.length) : upB (flatN L) i = false := by
  unfold upB
  by_cases h0 : 0 < i
  · rw [decide_eq_true h0, cond_true]
    obtain ⟨e1, e2⟩ := pa_flat (L := L) hi
    obtain ⟨e3, e4⟩ := pa_flat (L := L) (i := i - 1) (by omega)
    rw [e1, e2, e3, e4]
    have h := (List.pairwise_iff_getElem.1 hs) (i - 1) i (by omega) hi (by omega)
    have g1 : L.getD i (0, 0) = L[i] := by simp [hi]
    have g2 : L.getD (i - 1) (0, 0) = L[i - 1] := by simp [show i - 1 < L.length by omega]
    rw [g1, g2]
    unfold lessP
    generalize L[i] = q at h ⊢
    generalize L[i - 1] = p at h ⊢
    rcases h with h | ⟨h1, h2⟩
    · rw [decide_eq_true (show Int.ofNat p.1 < Int.ofNat q.1 by simp; omega)]; rfl
    · rw [decide_eq_false (show ¬ Int.ofNat p.1 < Int.ofNat q.1 by simp; omega), cond_false, h1]
      simp
      omega
  · rw [decide_eq_false h0]; rfl
theorem checkP_flat {n : Nat} (h1 : 1 ≤ n) (h7 : n ≤ 7) (hs : L.Pairwise lexP) (hL : ∀ p ∈ L, p.1 < p.2 ∧ p.2 < n) : checkP (Int.ofNat n) (flatN L) L.length = 0 := by
  unfold checkP
  have e : (decide (Int.ofNat n < 1) || decide (Int.ofNat n > 7)) = false := by simp; omega
  rw [e, cond_false]
  have e2 : (List.range L.length).any (badAt (Int.ofNat n) (flatN L)) = false := by
    rw [List.any_eq_false]
    intro i hi
    have hi := List.mem_range.1 hi
    obtain ⟨a1, a2⟩ := pa_flat (L := L) hi
    have hp := hL (L.getD i (0, 0)) (by simp [hi])
    unfold badAt badC
    rw [a1, a2, upB_flat hs hi]
    generalize L.getD i (0, 0) = p at hp
    simp
    omega
  rw [e2]
  rfl
theorem badO_flat {n : Nat} (hs : L.Pairwise lexP) (hL : ∀ p ∈ L, p.1 < n ∧ p.2 < n ∧ p.1 ≠ p.2) {i : Nat} (hi : i < L.length) : badO (Int.ofNat n) (flatN L) i = false := by
  obtain ⟨a1, a2⟩ := pa_flat (L := L) hi
  have hp := hL (L.getD i (0, 0)) (by simp [hi])
  unfold badO badD
  rw [a1, a2, upB_flat hs hi]
  generalize L.getD i (0, 0) = p at hp
  simp
  omega
theorem hasP_flat {x y : Nat} : hasP (flatN L) L.length (x : Int) (y : Int) = true ↔ (x, y) ∈ L := by
  rw [hasP_iff]
  constructor
  · rintro ⟨i, hi, h1, h2⟩
    obtain ⟨a1, a2⟩ := pa_flat (L := L) hi
    rw [a1] at h1
    rw [a2] at h2
    have hm : L.getD i (0, 0) ∈ L := by simp [hi]
    have e1 : (L.getD i (0, 0)).1 = x := Int.ofNat.inj h1
    have e2 : (L.getD i (0, 0)).2 = y := Int.ofNat.inj h2
    rw [← e1, ← e2]
    exact hm
  · intro hm
    obtain ⟨i, hi, he⟩ := List.getElem_of_mem hm
    obtain ⟨a1, a2⟩ := pa_flat (L := L) hi
    have g1 : L.getD i (0, 0) = (x, y) := by simp [hi, he]
    rw [g1] at a1 a2
    exact ⟨i, hi, a1, a2⟩
theorem Rl_at7 {f g : Nat → Bool} (h : Rl f = Rl g) {x y : Nat} (hx : x < 7) (hy : y < 7) : at7 f x y = at7 g x y := by
  have := congrFun (congrFun h x) y
  unfold Rl at this
  rw [Bool.eq_iff_iff]
  constructor
  · intro k; exact (this.mp ⟨hx, hy, k⟩).2.2
  · intro k; exact (this.mpr ⟨hx, hy, k⟩).2.2
theorem transB_congr {f g : Nat → Bool} (h : Rl f = Rl g) : transB f = transB g := by
  rw [Bool.eq_iff_iff, transB_Rl, transB_Rl, h]
/-- a list of an order -/
theorem order_flat {n : Nat} (h1 : 1 ≤ n) (h7 : n ≤ 7) (hs : L.Pairwise lexP) (hL : ∀ p ∈ L, p.1 < n ∧ p.2 < n ∧ p.1 ≠ p.2) {r : Nat → Bool} (hr : ∀ {x y}, (x, y) ∈ L ↔ Rl r x y) (ht : transB r = true) : orderE (Int.ofNat n) (flatN L) L.length = 0 ∧ Rl (orderF (Int.ofNat n) (flatN L) L.length) = Rl r := by
  have e : (decide (Int.ofNat n < 1) || decide (Int.ofNat n > 7)) = false := by simp; omega
  have hb : ∀ i, i < L.length → badO (Int.ofNat n) (flatN L) i = false := fun i hi => badO_flat hs hL hi
  have hst : stopO (Int.ofNat n) (flatN L) L.length = L.length := find_none hb
  have hR : Rl (relF (flatN L) L.length) = Rl r := ext2 fun x y => by
    constructor
    · rintro ⟨hx, hy, h⟩
      rw [relF_at e hb hx hy, hasP_flat] at h
      exact hr.1 h
    · intro h
      have hm := hr.2 h
      obtain ⟨hx, hy, _⟩ := h
      exact ⟨hx, hy, by rw [relF_at e hb hx hy, hasP_flat]; exact hm⟩
  have e2 : (List.range L.length).any (badO (Int.ofNat n) (flatN L)) = false := by
    rw [List.any_eq_false]
    intro i hi
    rw [hb i (List.mem_range.1 hi)]
    simp
  constructor
  · unfold orderE
    rw [e, e2, transB_congr hR, ht]
    rfl
  · unfold orderF
    rw [e, hst]
    exact hR
end
/-- what is told, as pairs of numbers -/
def toldN (r : Nat → Bool) : List (Nat × Nat) := pairsN (fun a b => at7 r a b) 7 7
theorem toldN_eq {r : Nat → Bool} : flat (toldL r) = flatN (toldN r) := by
  unfold toldL toldN
  rw [listL_pairs, flat_ofN]
theorem toldN_len {r : Nat → Bool} : (toldL r).length = (toldN r).length := by
  unfold toldL toldN
  rw [listL_pairs, List.length_map]
theorem mem_toldN {r : Nat → Bool} {x y : Nat} : (x, y) ∈ toldN r ↔ Rl r x y := mem_pairsN
theorem pairsN_congr {g g' : Nat → Nat → Bool} {n : Nat} : ∀ {a : Nat}, (∀ x y, x < a → y < n → g x y = g' x y) → pairsN g n a = pairsN g' n a
  | 0, _ => by simp [pairsN]
  | a + 1, h => by
    rw [pairsN_succ, pairsN_succ, pairsN_congr fun x y hx hy => h x y (by omega) hy, List.filter_congr fun y hy => h a y (by omega) (List.mem_range.1 hy)]
theorem toldL_congr {f g : Nat → Bool} (h : Rl f = Rl g) : toldL f = toldL g := by
  unfold toldL
  rw [listL_pairs, listL_pairs, pairsN_congr fun x y hx hy => Rl_at7 h hx hy]
/-- what is told of an orientation is an order, the one told -/
theorem told_order {n : Nat} {f r : Nat → Bool} (h1 : 1 ≤ n) (h7 : n ≤ 7) (hr : ∀ {x y}, Rl r x y → x < n ∧ y < n ∧ x ≠ y) (ht : transB r = true) : orderE (Int.ofNat n) (flat (toldL r)) (toldL r).length = 0 ∧ Rl (orderF (Int.ofNat n) (flat (toldL r)) (toldL r).length) = Rl r := by
  rw [toldN_eq, toldN_len]
  exact order_flat h1 h7 (pairsN_lex _ _ _) (fun p hp => hr (mem_toldN.1 hp)) mem_toldN ht
theorem Rl_turn {r : Nat → Bool} : Rl (turnR r) = revX (Rl r) := ext2 fun x y => by
  unfold Rl revX
  constructor
  · rintro ⟨hx, hy, h⟩
    rw [at7_turnR hx hy] at h
    exact ⟨hy, hx, h⟩
  · rintro ⟨hy, hx, h⟩
    exact ⟨hx, hy, by rw [at7_turnR hx hy]; exact h⟩
theorem eqB_ff {f : Nat → Bool} : eqB 49 f ff = true ↔ Rl f = emX := by
  rw [eqB_iff]
  constructor
  · intro h
    refine ext2 fun x y => ⟨fun ⟨hx, hy, k⟩ => ?_, fun k => k.elim⟩
    unfold at7 at k
    rw [h _ (by omega)] at k
    cases k
  · intro h j hj
    have := Rl_at7 (g := ff) (h.trans Rl_ff.symm) (x := j / 7) (y := j % 7) (by omega) (by omega)
    unfold at7 at this
    rw [show j / 7 * 7 + j % 7 = j by omega] at this
    exact this
end Go.Proofs.Yteekkjfjpoaihaa.Eng
namespace Go.Proofs.Yteekkjfjpoaihaa.Eng
open Go Go.Proofs
open Go.Proofs.Yteekkjfjpoaihaa.Ori
theorem at7_nearS {f : Nat → Bool} {a b : Int} {x y : Nat} (ha : 0 ≤ a ∧ a < 7) (hb : 0 ≤ b ∧ b < 7) (hx : x < 7) (hy : y < 7) : at7 (nearS f a b) x y = (at7 f x y || (a == (x : Int) && b == (y : Int)) || (a == (y : Int) && b == (x : Int))) := by
  obtain ⟨a, rfl⟩ : ∃ k : Nat, a = Int.ofNat k := ⟨a.toNat, by simp; omega⟩
  obtain ⟨b, rfl⟩ : ∃ k : Nat, b = Int.ofNat k := ⟨b.toNat, by simp; omega⟩
  simp at ha hb
  unfold at7 nearS
  simp only [List.length_cons, List.length_nil, Int.ofNat_eq_natCast, Int.toNat_natCast]
  by_cases h1 : x = b ∧ y = a
  · obtain ⟨rfl, rfl⟩ := h1
    rw [beqT (by omega), cond_true]
    simp
  · rw [beqF (by omega), cond_false]
    by_cases h2 : x = a ∧ y = b
    · obtain ⟨rfl, rfl⟩ := h2
      rw [beqT (by omega), cond_true]
      simp
    · rw [beqF (by omega), cond_false]
      have e1 : ((a : Int) == (x : Int) && (b : Int) == (y : Int)) = false := by
        rw [Bool.eq_false_iff]
        simp
        omega
      have e2 : ((a : Int) == (y : Int) && (b : Int) == (x : Int)) = false := by
        rw [Bool.eq_false_iff]
        simp
        omega
      rw [e1, e2]
      simp
theorem nearF_at {n : Int} {q : List Int} (hn : (decide (n < 1) || decide (n > 7)) = false) : ∀ {m : Nat}, (∀ i, i < m → badAt n q i = false) → ∀ {x y : Nat}, x < 7 → y < 7 → at7 (nearF q m) x y = (hasP q m x y || hasP q m y x)
  | 0, _, x, y, hx, hy => rfl
  | m + 1, h, x, y, hx, hy => by
    obtain ⟨h1, h2⟩ := badAt_rng hn (h m (by omega))
    show at7 (nearS (nearF q m) (pa q m) (pb q m)) x y = _
    rw [at7_nearS h1 h2 hx hy, hasP_succ, hasP_succ, pairAt_eq, pairAt_eq, nearF_at hn (fun i hi => h i (by omega)) hx hy]
    cases hasP q m x y <;> cases hasP q m y x <;> simp
    
theorem checkP_bad {n : Int} {q : List Int} {m : Nat} (h : err0 n q m = true) : (decide (n < 1) || decide (n > 7)) = false ∧ ∀ i, i < m → badAt n q i = false := by
  unfold err0 checkP at h
  cases h1 : (decide (n < 1) || decide (n > 7)) with
  | true => rw [h1] at h; cases h
  | false =>
    rw [h1, cond_false] at h
    refine ⟨rfl, ?_⟩
    cases h2 : (List.range m).any (badAt n q) with
    | true => rw [h2] at h; cases h
    | false => exact any_none _ _ h2
section
variable {n : Nat} {q : List Int} {m : Nat}
theorem badAt_at (h : err0 (Int.ofNat n) q m = true) {i : Nat} (hi : i < m) : ∃ a b : Nat, pa q i = (a : Int) ∧ pb q i = (b : Int) ∧ a < b ∧ b < n ∧ n ≤ 7 := by
  obtain ⟨h1, h2⟩ := checkP_bad h
  have hb := h2 i hi
  simp [badAt, badC] at hb h1
  refine ⟨(pa q i).toNat, (pb q i).toNat, ?_, ?_, ?_, ?_, ?_⟩ <;> omega
theorem err0_n (h : err0 (Int.ofNat n) q m = true) : 1 ≤ n ∧ n ≤ 7 := by
  obtain ⟨h1, _⟩ := checkP_bad h
  simp at h1
  omega
theorem near_gok (h : err0 (Int.ofNat n) q m = true) : GOK n (nearF q m) := by
  obtain ⟨h1, h2⟩ := checkP_bad h
  have h7 := (err0_n h).2
  refine ⟨fun {x y} hx hy he => ?_, fun {x} hx => ?_⟩
  · rw [nearF_at h1 h2 (by omega) (by omega)] at he ⊢
    rw [Bool.or_comm]
    exact he
  · rw [nearF_at h1 h2 (by omega) (by omega), Bool.or_self]
    cases hh : hasP q m x x with
    | false => rfl
    | true =>
      obtain ⟨i, hi, e1, e2⟩ := (hasP_iff _ _ _ _).1 hh
      obtain ⟨a, b, k1, k2, k3, _⟩ := badAt_at h hi
      omega
/-- the orders of OrdersEven: orient's, turned, and turned back -/
theorem ori_order (h : err0 (Int.ofNat n) q m = true) (hk : oriOk n (nearF q m) = true) : (∀ {x y}, Rl (oriR n (nearF q m)) x y → x < n ∧ y < n ∧ x ≠ y) ∧ transB (oriR n (nearF q m)) = true := by
  have hf := near_gok h
  have h7 := (err0_n h).2
  have hT := ori_to h7 hf hk
  refine ⟨fun {x y} hx => ?_, transB_Rl.2 ⟨hT.asym, hT.trans⟩⟩
  have := hT.sub hx
  exact ⟨this.1, this.2.1, fun e => hf.graph.irr x (by rw [← e] at this; exact this)⟩
end
end Go.Proofs.Yteekkjfjpoaihaa.Eng
namespace Go.Proofs.Yteekkjfjpoaihaa.Eng
open Go Go.Proofs
def Lw7 : List (Nat × Spec) := [(7, spTame)]
theorem Lw7_ok : SpecsL Lw7 := specsL_cons ok7 spTame_fp o7 (fun p hp => absurd hp (by simp))
noncomputable abbrev gw7 : Cal → Option Spec := specsΓ Lw7
theorem envw7 : EnvOK PP T gw7 := envL Lw7_ok
noncomputable def Lw10Y : List (Nat × Spec) := [(10, sp10Y)]
theorem Lw10Y_ok : SpecsL Lw10Y := specsL_cons ok10Y intPairsL_fp o10 (fun p hp => absurd hp (by simp))
noncomputable abbrev gw10Y : Cal → Option Spec := specsΓ Lw10Y
theorem envw10Y : EnvOK PP T gw10Y := envL Lw10Y_ok
def Lw10N : List (Nat × Spec) := [(10, pureS (intPairsX 0 oriN fun _ _ _ => .tup [.s .nils, .s (.bool false), .s (.int .i64 0)]))]
theorem Lw10N_ok : SpecsL Lw10N := specsL_cons ok10N (pureS_fp (intPairsX_fp _ _ _)) o10 (fun p hp => absurd hp (by simp))
noncomputable abbrev gw10N : Cal → Option Spec := specsΓ Lw10N
theorem envw10N : EnvOK PP T gw10N := envL Lw10N_ok
end Go.Proofs.Yteekkjfjpoaihaa.Eng
namespace Go.Proofs.Yteekkjfjpoaihaa.Eng
open Go Go.Proofs
noncomputable def Lw12Y : List (Nat × Spec) := [(12, sp12Y)]
theorem Lw12Y_ok : SpecsL Lw12Y := specsL_cons ok12Y intPairsL_fp o12 (fun p hp => absurd hp (by simp))
noncomputable abbrev gw12Y : Cal → Option Spec := specsΓ Lw12Y
theorem envw12Y : EnvOK PP T gw12Y := envL Lw12Y_ok
def Lw12N : List (Nat × Spec) := [(12, pureS (intPairsX 0 turN fun _ _ _ => .tup [.s .nils, .s (.int .i64 0)]))]
theorem Lw12N_ok : SpecsL Lw12N := specsL_cons ok12N (pureS_fp (intPairsX_fp _ _ _)) o12 (fun p hp => absurd hp (by simp))
noncomputable abbrev gw12N : Cal → Option Spec := specsΓ Lw12N
theorem envw12N : EnvOK PP T gw12N := envL Lw12N_ok
end Go.Proofs.Yteekkjfjpoaihaa.Eng
namespace Go.Proofs.Yteekkjfjpoaihaa.Eng
open Go Go.Proofs
open Go.Proofs.Yteekkjfjpoaihaa.Ori
theorem told_short (r : Nat → Bool) : (toldL r).length ≤ 1000000000 := by
  have := listL_len (fun a b => at7 r a b) 7 7
  unfold toldL
  omega
theorem same_self {q : List Int} {m : Nat} : sameP q m q m = true := by
  unfold sameP
  rw [decide_eq_true rfl, Bool.true_and, Bool.not_eq_true', List.any_eq_false]
  intro i hi
  unfold diffAt
  simp
theorem told_ff : toldL ff = [] := by kernel_rfl
end Go.Proofs.Yteekkjfjpoaihaa.Eng
namespace Go.Proofs.Yteekkjfjpoaihaa.Eng
open Go Go.Proofs
noncomputable def Li5 : List (Nat × Spec) := [(28, pureS (intPairs fun n q m => B (isOrd n q m)))]
theorem Li5_ok : SpecsL Li5 := specsL_cons ok28 (pureS_fp (intPairs_fp _)) o28 (fun p hp => absurd hp (by simp))
noncomputable abbrev gi5 : Cal → Option Spec := specsΓ Li5
theorem envi5 : EnvOK PP T gi5 := envL Li5_ok
noncomputable def Lch5 : List (Nat × Spec) := [(19, spChain)]
theorem Lch5_ok : SpecsL Lch5 := specsL_cons ok19 (genS_fp) o19 (fun p hp => absurd hp (by simp))
noncomputable abbrev gch5 : Cal → Option Spec := specsΓ Lch5
theorem envch5 : EnvOK PP T gch5 := envL Lch5_ok
noncomputable def Lla5 : List (Nat × Spec) := [(20, spLays)]
theorem Lla5_ok : SpecsL Lla5 := specsL_cons ok20 (genS_fp) o20 (fun p hp => absurd hp (by simp))
noncomputable abbrev gla5 : Cal → Option Spec := specsΓ Lla5
theorem envla5 : EnvOK PP T gla5 := envL Lla5_ok
noncomputable def Lry5 : List (Nat × Spec) := [(29, spReaY)]
theorem Lry5_ok : SpecsL Lry5 := specsL_cons ok29Y (genS_fp) o29 (fun p hp => absurd hp (by simp))
noncomputable abbrev gry5 : Cal → Option Spec := specsΓ Lry5
theorem envry5 : EnvOK PP T gry5 := envL Lry5_ok
noncomputable def Lrn5 : List (Nat × Spec) := [(29, spReaN)]
theorem Lrn5_ok : SpecsL Lrn5 := specsL_cons ok29N (genS_fp) o29 (fun p hp => absurd hp (by simp))
noncomputable abbrev grn5 : Cal → Option Spec := specsΓ Lrn5
theorem envrn5 : EnvOK PP T grn5 := envL Lrn5_ok
noncomputable def Lrl5 : List (Nat × Spec) := [(30, spRLayers)]
theorem Lrl5_ok : SpecsL Lrl5 := specsL_cons ok30 (genS_fp) o30 (fun p hp => absurd hp (by simp))
noncomputable abbrev grl5 : Cal → Option Spec := specsΓ Lrl5
theorem envrl5 : EnvOK PP T grl5 := envL Lrl5_ok
abbrev IVV (q : List Int) : HO := ⟨false, .ivec 3 .i64 1 q⟩
abbrev T5 (n : Nat) (o : List Int) (l : Nat) : St := mkSt [(7, iS n), (9, lsS 0 l)] [IW o] 1 []
theorem a5 {n : Int} {q : List Int} {m : Nat}  : Exec PP T none x5.nt 0 x5.body.a (startSt (A40 n m ++ List.replicate 1 (.s .any)) (H1 q)) .n (mkSt [(0, iS n), (1, sl0 m)] (H1 q) 1 []) := by
  refine exec_orun env0 false 60 [] [0] (fun _ => rfl) (by kernel_rfl) (by kernel_rfl) (by kernel_rfl) (by kernel_rfl)
theorem b5 {n : Int} {q : List Int} {m : Nat} (hq : q.length = m * 2) : Exec PP T none x5.nt 0 x5.body.b.a (mkSt [(0, iS n), (1, sl0 m)] (H1 q) 1 []) .n (mkSt [(7, iS (Int.ofNat (tamN n 7))), (8, lsS 0 (tamL n ((q.drop (0 * 2)).take (m * 2)) m 7).length)] [IW (flat (tamL n ((q.drop (0 * 2)).take (m * 2)) m 7))] 1 []) := by
  refine exec_orun envw7 false 60 [] [1] (fun _ => rfl) (by kernel_rfl) (by kernel_rfl) (by kernel_rfl) ?_
  rw [(show obOf (orun gw7 false 60 x5.body.b.a (mkSt [(0, iS n), (1, sl0 m)] (H1 q) 1 []) []) = (decide ((0 + m) * 2 ≤ q.length) && true && true && true && true) from by kernel_rfl)]
  simp [hq]
theorem c5Y {n : Nat} {q : List Int} {m : Nat} (hq : q.length = m * 2) (hm : m ≤ 1000000000) (h : err0 (Int.ofNat n) q m = true) (hk : oriOk n (nearF q m) = true) : Exec PP T none x5.nt 0 x5.body.b.b.a (mkSt [(7, iS n), (8, lsS 0 m)] [IW q] 1 []) .n (mkSt [(7, iS n), (9, lsS 0 (oriL (Int.ofNat n) ((q.drop (0 * 2)).take (m * 2)) m).length), (10, ⟨true, B true⟩), (11, iS 0)] [IW (flat (oriL (Int.ofNat n) ((q.drop (0 * 2)).take (m * 2)) m))] 1 []) := by
  refine exec_orun envw10Y false 60 [] [1] (fun _ => rfl) (by kernel_rfl) (by kernel_rfl) (by kernel_rfl) ?_
  rw [(show obOf (orun gw10Y false 60 x5.body.b.b.a (mkSt [(7, iS n), (8, lsS 0 m)] [IW q] 1 []) []) = (decide ((0 + m) * 2 ≤ q.length) && (decide (m ≤ 1000000000) && (checkP (Int.ofNat n) (List.take (m * 2) q) m == 0 && oriOk n (nearF (List.take (m * 2) (List.drop (0 * 2) q)) m))) && true && true && true) from by kernel_rfl)]
  simp only [take_all2 hq, take2 hq]
  simp only [err0] at h
  simp at h
  simp [hq, hm, h, hk, tk0 hq]
theorem c5N {n : Nat} {q : List Int} {m : Nat} (hq : q.length = m * 2) (hm : m ≤ 1000000000) (h : err0 (Int.ofNat n) q m = true) (hk : oriOk n (nearF q m) = false) : Exec PP T none x5.nt 0 x5.body.b.b.a (mkSt [(7, iS n), (8, lsS 0 m)] [IW q] 1 []) .n (mkSt [(7, iS n), (10, ⟨true, B false⟩), (11, iS 0)] [] 0 []) := by
  refine exec_orun envw10N false 60 [] [] (fun _ => rfl) (by kernel_rfl) (by kernel_rfl) (by kernel_rfl) ?_
  rw [(show obOf (orun gw10N false 60 x5.body.b.b.a (mkSt [(7, iS n), (8, lsS 0 m)] [IW q] 1 []) []) = (decide ((0 + m) * 2 ≤ q.length) && (decide (m ≤ 1000000000) && (checkP (Int.ofNat n) (List.take (m * 2) q) m == 0 && !oriOk n (nearF (List.take (m * 2) (List.drop (0 * 2) q)) m))) && true) from by kernel_rfl)]
  simp only [take_all2 hq, take2 hq]
  simp only [err0] at h
  simp at h
  simp [hq, hm, h, hk, tk0 hq]
theorem d5Y {n : Nat} {o : List Int} {l : Nat}  : Exec PP T none x5.nt 0 x5.body.b.b.b.a (mkSt [(7, iS n), (9, lsS 0 l), (10, ⟨true, B true⟩), (11, iS 0)] [IW o] 1 []) .n (mkSt [(7, iS n), (9, lsS 0 l), (10, ⟨true, B true⟩)] [IW o] 1 []) := by
  refine exec_orun env0 false 60 [false] [0] (fun _ => rfl) (by kernel_rfl) (by kernel_rfl) (by kernel_rfl) (by kernel_rfl)
theorem d5N {n : Nat}  : Exec PP T none x5.nt 0 x5.body.b.b.b.a (mkSt [(7, iS n), (10, ⟨true, B false⟩), (11, iS 0)] [] 0 []) .n (mkSt [(7, iS n), (10, ⟨true, B false⟩)] [] 0 []) := by
  refine exec_orun env0 false 60 [false] [] (fun _ => rfl) (by kernel_rfl) (by kernel_rfl) (by kernel_rfl) (by kernel_rfl)
theorem e5Y {n : Nat} {o : List Int} {l : Nat}  : Exec PP T none x5.nt 0 x5.body.b.b.b.b.a (mkSt [(7, iS n), (9, lsS 0 l), (10, ⟨true, B true⟩)] [IW o] 1 []) .n (T5 n o l) := by
  refine exec_orun env0 false 60 [false] [0] (fun _ => rfl) (by kernel_rfl) (by kernel_rfl) (by kernel_rfl) (by kernel_rfl)
def X5 : XC := x5.body.b.b.b.b.a.b.a
def L5o : XC := X5.b.b.i.i
def M5o : XC := L5o.b.a.i.b.i.i
abbrev SN (n : Nat) (o : List Int) (l a : Nat) : St := mkSt [(7, iS n), (9, lsS 0 l), (12, iS a)] [IW o] 1 []
abbrev UN (n : Nat) (o : List Int) (l a b : Nat) : St := mkSt [(7, iS n), (9, lsS 0 l), (12, iS a), (13, iS b)] [IW o] 1 []
theorem e5a {n : Nat}  : Exec PP T none x5.nt 0 x5.body.b.b.b.b.a.a (mkSt [(7, iS n), (10, ⟨true, B false⟩)] [] 0 []) .n (mkSt [(7, iS n), (43, ⟨true, B true⟩)] [] 0 []) := by
  refine exec_orun env0 false 60 [] [] (fun _ => rfl) (by kernel_rfl) (by kernel_rfl) (by kernel_rfl) (by kernel_rfl)
theorem e5b {n : Nat} (hn : n ≤ 7) : Exec PP T none x5.nt 0 X5.a (mkSt [(7, iS n), (43, ⟨true, B true⟩)] [] 0 []) .n (mkSt [(7, iS (1 + (Int.ofNat n).tmod 5)), (9, ⟨true, .av (.s .nils)⟩)] [] 0 []) := by
  refine exec_orun env0 false 60 [] [] (fun _ => rfl) (by kernel_rfl) (by kernel_rfl) (by kernel_rfl) ?_
  rw [(show obOf (orun g0 false 60 X5.a (mkSt [(7, iS n), (43, ⟨true, B true⟩)] [] 0 []) []) = (rng64 (1 + (Int.ofNat n).tmod 5) && true) from by kernel_rfl)]
  have h1 : (Int.ofNat n).tmod 5 = Int.ofNat (n % 5) := rfl
  rw [h1]
  simp [rng64_eq]
  omega
theorem e5c {n l : Nat} {o : List Int}  : Exec PP T none x5.nt 0 X5.b.a (mkSt [(9, lsS 0 l), (7, iS n)] [IW o] 1 []) .n (SN n o l 0) := by
  refine exec_orun env0 false 60 [] [0] (fun _ => rfl) (by kernel_rfl) (by kernel_rfl) (by kernel_rfl) (by kernel_rfl)
theorem l5a {n l a : Nat} {o : List Int} (ha : a < n) : Exec PP T none x5.nt 0 L5o.a (SN n o l a) .n (SN n o l a) := by
  refine exec_orun env0 false 60 [true] [0] (fun _ => rfl) (by kernel_rfl) (by kernel_rfl) (by kernel_rfl) ?_
  rw [(show obOf (orun g0 false 60 L5o.a (SN n o l a) [true]) = (decide (Int.ofNat a < Int.ofNat n) && true) from by kernel_rfl)]
  all_goals (first | rfl | (simp; done) | (simp; omega) | (simp [rng64]; done) | (simp [rng64]; omega) | (simp [rng64_eq]; omega))
theorem l5x {n l : Nat} {o : List Int}  : Exec PP T none x5.nt 0 L5o.a (SN n o l n) (.x 0) (T5 n o l) := by
  refine exec_orun env0 false 60 [false] [0] (fun _ => rfl) (by kernel_rfl) (by kernel_rfl) (by kernel_rfl) ?_
  rw [(show obOf (orun g0 false 60 L5o.a (SN n o l n) [false]) = (!decide (Int.ofNat n < Int.ofNat n) && true) from by kernel_rfl)]
  all_goals (first | rfl | (simp; done) | (simp; omega) | (simp [rng64]; done) | (simp [rng64]; omega) | (simp [rng64_eq]; omega))
theorem l5c {n l a : Nat} {o : List Int} (ha : a < 7) : Exec PP T none x5.nt 0 L5o.b.a.i.a (SN n o l a) .n (UN n o l a (a + 1)) := by
  refine exec_orun env0 false 60 [] [0] (fun _ => rfl) (by kernel_rfl) (by kernel_rfl) (by kernel_rfl) ?_
  rw [(show obOf (orun g0 false 60 L5o.b.a.i.a (SN n o l a) []) = (rng64 (Int.ofNat a.succ) && true) from by kernel_rfl)]
  all_goals (first | rfl | (simp; done) | (simp; omega) | (simp [rng64]; done) | (simp [rng64]; omega) | (simp [rng64_eq]; omega))
theorem l5e {n l a b : Nat} {o : List Int} (ha : a < 7) : Exec PP T none x5.nt 0 L5o.b.b (UN n o l a b) .n (SN n o l (a + 1)) := by
  refine exec_orun env0 false 60 [] [0] (fun _ => rfl) (by kernel_rfl) (by kernel_rfl) (by kernel_rfl) ?_
  rw [(show obOf (orun g0 false 60 L5o.b.b (UN n o l a b) []) = (rng64 (Int.ofNat a.succ) && true) from by kernel_rfl)]
  all_goals (first | rfl | (simp; done) | (simp; omega) | (simp [rng64]; done) | (simp [rng64]; omega) | (simp [rng64_eq]; omega))
theorem m5t {n l a b : Nat} {o : List Int} (ho : o.length = l * 2) (hl : l ≤ 100) (hn : n ≤ 7) (ha : a < n) (hb : b < n) : Exec PP T none x5.nt 0 M5o (UN n o l a b) .n (UN n (List.take (l * 2) o ++ [Int.ofNat a, Int.ofNat b]) (l + 1) a (b + 1)) := by
  refine exec_orun env0 false 60 [true] [2] (fun _ => rfl) (by kernel_rfl) (by kernel_rfl) (by kernel_rfl) ?_
  rw [(show obOf (orun g0 false 60 M5o (UN n o l a b) [true]) = (decide (Int.ofNat b < Int.ofNat n) && true && (decide (2 ≤ Nat.succ 1) && decide (l * 2 ≤ o.length) && decide (l.succ ≤ 1000000000) && true && true && true && (rng64 (Int.ofNat b.succ) && true))) from by kernel_rfl)]
  simp [bndL, rng64, ho]
  omega
theorem m5x {n l a : Nat} {o : List Int}  : Exec PP T none x5.nt 0 M5o (UN n o l a n) (.x 2) (UN n o l a n) := by
  refine exec_orun env0 false 60 [false] [0] (fun _ => rfl) (by kernel_rfl) (by kernel_rfl) (by kernel_rfl) ?_
  rw [(show obOf (orun g0 false 60 M5o (UN n o l a n) [false]) = (!decide (Int.ofNat n < Int.ofNat n) && true) from by kernel_rfl)]
  all_goals (first | rfl | (simp; done) | (simp; omega) | (simp [rng64]; done) | (simp [rng64]; omega) | (simp [rng64_eq]; omega))
def ggA (a b : Nat) : Bool := decide (a < b)
abbrev sUN (n a b : Nat) : St := UN n (flat (midL ggA n a b)) (midL ggA n a b).length a b
abbrev sSN (n a : Nat) : St := SN n (flat (listL ggA n a)) (listL ggA n a).length a
theorem l5o {n a : Nat} (hn : n ≤ 7) (ha : a < n) : Exec PP T none x5.nt 0 L5o (sSN n a) .n (sSN n (a + 1)) := by
  refine exec_seq (x := L5o.a) (y := L5o.b) (l5a ha) (exec_seq (x := L5o.b.a) (y := L5o.b.b) (exec_block (id := 1) (x := L5o.b.a.i) (e := .n) (exec_seq (x := L5o.b.a.i.a) (y := L5o.b.a.i.b) (l5c (by omega)) (exec_block (id := 2) (x := .loop M5o) (e := .x 2) (S1 := sUN n a n) ?_))) ?_)
  · have := exec_loop_from (fun b => sUN n a b) (a + 1) n (fun b hlo hb => by
      have h : ggA a b = true := decide_eq_true (by omega)
      show Exec _ _ _ _ _ _ (sUN n a b) _ (sUN n a (b + 1))
      unfold sUN
      rw [midL_tl h, midL_tf h]
      exact m5t (flat_len _) (midL_len (by omega) hn (by omega)) hn ha hb) m5x (by simp) (by omega)
    unfold sUN at this
    rw [midL_lo (b := a + 1) fun j hj => (by unfold ggA; rw [decide_eq_false (by omega)])] at this
    exact this
  · unfold sUN sSN
    rw [midL_end]
    exact l5e (by omega)
theorem e5N {n : Nat} (hn : n ≤ 7) : Exec PP T none x5.nt 0 x5.body.b.b.b.b.a (mkSt [(7, iS n), (10, ⟨true, B false⟩)] [] 0 []) .n (T5 (1 + n % 5) (flat (listL ggA (1 + n % 5) (1 + n % 5))) (listL ggA (1 + n % 5) (1 + n % 5)).length) := by
  refine exec_seq (x := x5.body.b.b.b.b.a.a) (y := x5.body.b.b.b.b.a.b) e5a (exec_cond (t := true) (c := .t 43) (x := X5) (y := .skip) rfl ?_)
  have hb := (e5b hn).post (weak_nil 9 38 .i64 2 rfl rfl rfl)
  have e : (1 + (Int.ofNat n).tmod 5) = Int.ofNat (1 + n % 5) := by
    rw [show (Int.ofNat n).tmod 5 = Int.ofNat (n % 5) from rfl]
    simp
  have hb2 := exec_eq hb (S2 := mkSt [(9, lsS 0 0), (7, iS (Int.ofNat (1 + n % 5)))] [IW []] 1 []) (by rw [e]; rfl)
  have hM : 1 + n % 5 ≤ 7 := by omega
  refine exec_seq (x := X5.a) (y := X5.b) hb2 (exec_seq (x := X5.b.a) (y := .block 0 (.loop L5o)) e5c (exec_block (e := .x 0) ?_))
  exact exec_loop_up (fun a => sSN (1 + n % 5) a) (1 + n % 5) (fun a ha => l5o hM ha) (exec_seq_x (x := L5o.a) (y := L5o.b) l5x (by simp)) (by simp) 0 (by omega)
def Y5 : XC := x5.body.b.b.b.b.b
theorem f5 {n l : Nat} {o : List Int} (ho : o.length = l * 2) (hl : l ≤ 1000000000) (h : isOrd (Int.ofNat n) o l = true) : Exec PP T none x5.nt 0 Y5.a (T5 n o l) .n (T5 n o l) := by
  refine exec_orun envi5 false 60 [false] [0] (fun _ => rfl) (by kernel_rfl) (by kernel_rfl) (by kernel_rfl) ?_
  rw [(show obOf (orun gi5 false 60 Y5.a (T5 n o l) [false]) = (decide ((0 + l) * 2 ≤ o.length) && decide (l ≤ 1000000000) && true && (!!isOrd (Int.ofNat n) (List.take (l * 2) o) l && true)) from by kernel_rfl)]
  simp only [take_all2 ho, take2 ho]
  rw [h]
  simp [bndL, ho, hl]
abbrev sl5t (n l tl : Nat) : List (Nat × Slot) := [(7, iS n), (9, lsS 0 l), (14, lsS 1 tl), (15, iS 0)]
abbrev sl5tn (n l : Nat) : List (Nat × Slot) := [(14, lsS 1 0), (7, iS n), (9, lsS 0 l), (15, iS 0)]
abbrev G5 (n l : Nat) (o : List Int) (tl : Nat) (t : List Int) : St := mkSt (sl5t n l tl) [IW o, IW t] 2 []
theorem g5Y {n l : Nat} {o : List Int} (ho : o.length = l * 2) (hl : l ≤ 1000000000) (h : turY (Int.ofNat n) o l = true) : Exec PP T none x5.nt 0 Y5.b.a (T5 n o l) .n (G5 n l o (turL (Int.ofNat n) ((o.drop (0 * 2)).take (l * 2)) l).length (flat (turL (Int.ofNat n) ((o.drop (0 * 2)).take (l * 2)) l))) := by
  refine exec_orun envw12Y false 60 [] [0, 1] (fun _ => rfl) (by kernel_rfl) (by kernel_rfl) (by kernel_rfl) ?_
  rw [(show obOf (orun gw12Y false 60 Y5.b.a (T5 n o l) []) = (decide ((0 + l) * 2 ≤ o.length) && (decide (l ≤ 1000000000) && turY (Int.ofNat n) (List.take (l * 2) o) l) && true && true && true) from by kernel_rfl)]
  simp only [take_all2 ho, take2 ho]
  simp [ho, hl]
  exact h
theorem g5Nq {n l : Nat} {o : List Int} (ho : o.length = l * 2) (hl : l ≤ 1000000000) (h : turN (Int.ofNat n) o l = true) : Exec PP T none x5.nt 0 Y5.b.a (T5 n o l) .n (mkSt [(7, iS n), (9, lsS 0 l), (15, iS 0), (14, ⟨true, .av (.s .nils)⟩)] [IW o] 1 []) := by
  refine exec_orun envw12N false 60 [] [0] (fun _ => rfl) (by kernel_rfl) (by kernel_rfl) (by kernel_rfl) ?_
  rw [(show obOf (orun gw12N false 60 Y5.b.a (T5 n o l) []) = (decide ((0 + l) * 2 ≤ o.length) && (decide (l ≤ 1000000000) && turN (Int.ofNat n) (List.take (l * 2) o) l) && true) from by kernel_rfl)]
  simp only [take_all2 ho, take2 ho]
  simp [ho, hl]
  exact h
theorem g5w {n l : Nat} {o : List Int} : Weak T 0 (mkSt (sl5tn n l) [IW o, IW []] 2 []) (G5 n l o 0 []) :=
  weak_mk (ids := [0, 1]) (by kernel_rfl) (fun p hp => by
    simp only [List.mem_cons, List.not_mem_nil, or_false] at hp
    rcases hp with rfl | rfl | rfl | rfl <;> rfl) (fun j h hj => by
    match j, hj with
    | 0, hj => cases hj; rfl
    | 1, hj => cases hj; rfl
    | j + 2, hj => simp at hj) rfl (fun j hj => by cases hj)
theorem g5N {n l : Nat} {o : List Int} (ho : o.length = l * 2) (hl : l ≤ 1000000000) (h : turN (Int.ofNat n) o l = true) : Exec PP T none x5.nt 0 Y5.b.a (T5 n o l) .n (G5 n l o 0 []) :=
  ((g5Nq ho hl h).post (weak_nil 14 38 .i64 2 rfl rfl rfl)).post g5w
abbrev sl5c (n l tl k : Nat) : List (Nat × Slot) := sl5t n l tl ++ [(16, s1S 2 k), (17, iS 0)]
theorem h5 {n l tl : Nat} {o t : List Int} (ho : o.length = l * 2) (hl : l ≤ 1000000000) (h : ordC (Int.ofNat n) o l = true) : Exec PP T none x5.nt 0 Y5.b.b.a (G5 n l o tl t) .n (mkSt (sl5c n l tl (hgF (orderF (Int.ofNat n) ((o.drop (0 * 2)).take (l * 2)) l) n (topF (orderF (Int.ofNat n) ((o.drop (0 * 2)).take (l * 2)) l) n) + 1)) [IW o, IW t, IVV (chainF (orderF (Int.ofNat n) ((o.drop (0 * 2)).take (l * 2)) l) n)] 3 []) := by
  refine exec_orun envch5 false 60 [] [0, 1, 2] (fun _ => rfl) (by kernel_rfl) (by kernel_rfl) (by kernel_rfl) ?_
  rw [(show obOf (orun gch5 false 60 Y5.b.b.a (G5 n l o tl t) []) = (decide ((0 + l) * 2 ≤ o.length) && decide (l ≤ 1000000000) && true && ordC (Int.ofNat n) (List.take (l * 2) o) l && true && true && true) from by kernel_rfl)]
  simp only [take_all2 ho, take2 ho, cLays]
  simp [bndL, ho, hl]
  exact h
abbrev sl5y (n l tl k : Nat) : List (Nat × Slot) := sl5c n l tl k ++ [(18, s1S 3 n), (19, iS 0)]
theorem i5 {n l tl k : Nat} {o t c : List Int} (ho : o.length = l * 2) (hl : l ≤ 1000000000) (h : ordC (Int.ofNat n) o l = true) : Exec PP T none x5.nt 0 Y5.b.b.b.a (mkSt (sl5c n l tl k) [IW o, IW t, IVV c] 3 []) .n (mkSt (sl5y n l tl k) [IW o, IW t, IVV c, IVV (lqF (orderF (Int.ofNat n) ((o.drop (0 * 2)).take (l * 2)) l) n n)] 4 []) := by
  refine exec_orun envla5 false 60 [] [0, 1, 2, 3] (fun _ => rfl) (by kernel_rfl) (by kernel_rfl) (by kernel_rfl) ?_
  rw [(show obOf (orun gla5 false 60 Y5.b.b.b.a (mkSt (sl5c n l tl k) [IW o, IW t, IVV c] 3 []) []) = (decide ((0 + l) * 2 ≤ o.length) && decide (l ≤ 1000000000) && true && ordC (Int.ofNat n) (List.take (l * 2) o) l && true && true && true) from by kernel_rfl)]
  simp only [take_all2 ho, take2 ho, cLays]
  simp [bndL, ho, hl]
  exact h
abbrev sY (n l tl k : Nat) : List (Nat × Slot) := sl5y n l tl k ++ [(20, g1S 6), (21, ⟨true, B true⟩), (22, iS 0)]
abbrev sN (n l tl k : Nat) : List (Nat × Slot) := sl5y n l tl k ++ [(20, g1S 4), (21, ⟨true, B false⟩), (22, iS 0)]
abbrev hY (n : Nat) (o t c y w w' : List Int) : List HO := [IW o, IW t, IVV c, IVV y, IVV w, IVV w', ⟨false, .row 48 [.sl 4 0 1 n, .sl 5 0 1 n] 0 ff⟩]
abbrev hN (o t c y : List Int) : List HO := [IW o, IW t, IVV c, IVV y, bx48]
theorem j5Y {n l tl k : Nat} {o t c y : List Int} (ho : o.length = l * 2) (hl : l ≤ 1000000000) (h : cReaY [.int (Int.ofNat n), .sl 2 o l] = true) : Exec PP T none x5.nt 0 Y5.b.b.b.b.a (mkSt (sl5y n l tl k) [IW o, IW t, IVV c, IVV y] 4 []) .n (mkSt (sY n l tl k) (hY n o t c y (lnF (rS1 (orderF (Int.ofNat n) ((o.drop (0 * 2)).take (l * 2)) l) n) n n) (lnF (rS2 (orderF (Int.ofNat n) ((o.drop (0 * 2)).take (l * 2)) l) n) n n)) 7 []) := by
  refine exec_orun envry5 false 60 [] [0, 1, 2, 3, 4, 5, 12] (fun _ => rfl) (by kernel_rfl) (by kernel_rfl) (by kernel_rfl) ?_
  rw [(show obOf (orun gry5 false 60 Y5.b.b.b.b.a (mkSt (sl5y n l tl k) [IW o, IW t, IVV c, IVV y] 4 []) []) = (decide ((0 + l) * 2 ≤ o.length) && decide (l ≤ 1000000000) && true && cReaY [PA.int (Int.ofNat n), PA.sl 2 (List.take (l * 2) o) l] && true && true && true) from by kernel_rfl)]
  simp only [take_all2 ho, take2 ho]
  simp [bndL, ho, hl]
  exact h
theorem j5N {n l tl k : Nat} {o t c y : List Int} (ho : o.length = l * 2) (hl : l ≤ 1000000000) (h : cReaN [.int (Int.ofNat n), .sl 2 o l] = true) : Exec PP T none x5.nt 0 Y5.b.b.b.b.a (mkSt (sl5y n l tl k) [IW o, IW t, IVV c, IVV y] 4 []) .n (mkSt (sN n l tl k) (hN o t c y) 5 []) := by
  refine exec_orun envrn5 false 60 [] [0, 1, 2, 3, 12] (fun _ => rfl) (by kernel_rfl) (by kernel_rfl) (by kernel_rfl) ?_
  rw [(show obOf (orun grn5 false 60 Y5.b.b.b.b.a (mkSt (sl5y n l tl k) [IW o, IW t, IVV c, IVV y] 4 []) []) = (decide ((0 + l) * 2 ≤ o.length) && decide (l ≤ 1000000000) && true && cReaN [PA.int (Int.ofNat n), PA.sl 2 (List.take (l * 2) o) l] && true) from by kernel_rfl)]
  simp only [take_all2 ho, take2 ho]
  simp [bndL, ho, hl]
  exact h
def Z5 : XC := Y5.b.b.b.b.b
def L5w : XC := Z5.b.b.a.b.i.i
abbrev K5Y (n l tl k : Nat) (o t c y w w' v : List Int) : St := mkSt (sY n l tl k ++ [(23, s1S 7 n)]) (hY n o t c y w w' ++ [IVV v]) 8 []
abbrev S5Y (n l tl k : Nat) (o t c y w w' v : List Int) (e : Int) (i : Nat) : St := mkSt (sY n l tl k ++ [(23, s1S 7 n)] ++ [(24, iS e), (25, iS i)]) (hY n o t c y w w' ++ [IVV v]) 8 []
abbrev E5Y (n l tl k : Nat) (o t c y w w' v : List Int) (e : Int) : St := mkSt (sY n l tl k ++ [(23, s1S 7 n)] ++ [(24, iS e)]) (hY n o t c y w w' ++ [IVV v]) 8 []
theorem k5Y {n l tl k : Nat} {o t c y w w' : List Int} (ho : o.length = l * 2) (hl : l ≤ 1000) (hn : n ≤ 7) (h : pairsIn (Int.ofNat n) o l = true) : Exec PP T none x5.nt 0 Z5.a (mkSt (sY n l tl k) (hY n o t c y w w') 7 []) .n (K5Y n l tl k o t c y w w' (layA ((o.drop (0 * 2)).take (l * 2)) l n n)) := by
  refine exec_orun envrl5 false 60 [] [0, 1, 2, 3, 4, 5, 6, 7] (fun _ => rfl) (by kernel_rfl) (by kernel_rfl) (by kernel_rfl) ?_
  rw [(show obOf (orun grl5 false 60 Z5.a (mkSt (sY n l tl k) (hY n o t c y w w') 7 []) []) = (decide ((0 + l) * 2 ≤ o.length) && decide (l ≤ 1000000000) && true && (decide (0 ≤ Int.ofNat n) && decide (Int.ofNat n ≤ 7) && (decide (l ≤ 1000) && pairsIn (Int.ofNat n) (List.take (l * 2) o) l)) && true && true && true) from by kernel_rfl)]
  simp only [take_all2 ho, take2 ho, cRLayers, h]
  simp [bndL, ho]
  omega
theorem l5Y {n l tl k : Nat} {o t c y w w' v : List Int}  : Exec PP T none x5.nt 0 Z5.b.a (K5Y n l tl k o t c y w w' v) .n (E5Y n l tl k o t c y w w' v 0) := by
  refine exec_orun env0 false 60 [] [0, 1, 2, 3, 4, 5, 6, 7] (fun _ => rfl) (by kernel_rfl) (by kernel_rfl) (by kernel_rfl) (by kernel_rfl)
theorem m5Yi {n l tl k : Nat} {o t c y w w' v : List Int} {e : Int}  : Exec PP T none x5.nt 0 Z5.b.b.a.a (E5Y n l tl k o t c y w w' v e) .n (S5Y n l tl k o t c y w w' v e 0) := by
  refine exec_orun env0 false 60 [] [0, 1, 2, 3, 4, 5, 6, 7] (fun _ => rfl) (by kernel_rfl) (by kernel_rfl) (by kernel_rfl) (by kernel_rfl)
theorem m5Y {n l tl k : Nat} {o t c y w w' v : List Int} {e : Int} {i : Nat} (hv : v.length = n) (hn : n ≤ 7) (hi : i < n) (hb : 0 ≤ at1 v i ∧ at1 v i ≤ 100000) : Exec PP T none x5.nt 0 L5w (S5Y n l tl k o t c y w w' v e i) .n (S5Y n l tl k o t c y w w' v (max e (at1 v i + 1)) (i + 1)) := by
  refine exec_orun env0 false 60 [true] [0, 1, 2, 3, 4, 5, 6, 7] (fun _ => rfl) (by kernel_rfl) (by kernel_rfl) (by kernel_rfl) ?_
  rw [(show obOf (orun g0 false 60 L5w (S5Y n l tl k o t c y w w' v e i) [true]) = (decide (Int.ofNat i < Int.ofNat n) && true && (decide (0 ≤ Int.ofNat i) && decide (Int.ofNat i < Int.ofNat n) && (decide (0 + (0 + i) * 1 < v.length) && (rng64 (v.getD (0 + (0 + i) * 1) 0 + 1) && true)) && (rng64 (Int.ofNat i.succ) && true))) from by kernel_rfl)]
  unfold at1 at hb
  simp only [Bool.and_eq_true, decide_eq_true_eq, rng64_eq]
  simp only [Int.ofNat_eq_natCast] at *
  simp at *
  omega
theorem m5Yx {n l tl k : Nat} {o t c y w w' v : List Int} {e : Int}  : Exec PP T none x5.nt 0 L5w (S5Y n l tl k o t c y w w' v e n) (.x 4) (E5Y n l tl k o t c y w w' v e) := by
  refine exec_orun env0 false 60 [false] [0, 1, 2, 3, 4, 5, 6, 7] (fun _ => rfl) (by kernel_rfl) (by kernel_rfl) (by kernel_rfl) ?_
  rw [(show obOf (orun g0 false 60 L5w (S5Y n l tl k o t c y w w' v e n) [false]) = (!decide (Int.ofNat n < Int.ofNat n) && true) from by kernel_rfl)]
  all_goals (first | rfl | (simp; done) | (simp; omega) | (simp [rng64]; done) | (simp [rng64]; omega) | (simp [rng64_eq]; omega))
abbrev K5N (n l tl k : Nat) (o t c y v : List Int) : St := mkSt (sN n l tl k ++ [(23, s1S 5 n)]) (hN o t c y ++ [IVV v]) 6 []
abbrev S5N (n l tl k : Nat) (o t c y v : List Int) (e : Int) (i : Nat) : St := mkSt (sN n l tl k ++ [(23, s1S 5 n)] ++ [(24, iS e), (25, iS i)]) (hN o t c y ++ [IVV v]) 6 []
abbrev E5N (n l tl k : Nat) (o t c y v : List Int) (e : Int) : St := mkSt (sN n l tl k ++ [(23, s1S 5 n)] ++ [(24, iS e)]) (hN o t c y ++ [IVV v]) 6 []
theorem k5N {n l tl k : Nat} {o t c y : List Int} (ho : o.length = l * 2) (hl : l ≤ 1000) (hn : n ≤ 7) (h : pairsIn (Int.ofNat n) o l = true) : Exec PP T none x5.nt 0 Z5.a (mkSt (sN n l tl k) (hN o t c y) 5 []) .n (K5N n l tl k o t c y (layA ((o.drop (0 * 2)).take (l * 2)) l n n)) := by
  refine exec_orun envrl5 false 60 [] [0, 1, 2, 3, 4, 5] (fun _ => rfl) (by kernel_rfl) (by kernel_rfl) (by kernel_rfl) ?_
  rw [(show obOf (orun grl5 false 60 Z5.a (mkSt (sN n l tl k) (hN o t c y) 5 []) []) = (decide ((0 + l) * 2 ≤ o.length) && decide (l ≤ 1000000000) && true && (decide (0 ≤ Int.ofNat n) && decide (Int.ofNat n ≤ 7) && (decide (l ≤ 1000) && pairsIn (Int.ofNat n) (List.take (l * 2) o) l)) && true && true && true) from by kernel_rfl)]
  simp only [take_all2 ho, take2 ho, cRLayers, h]
  simp [bndL, ho]
  omega
theorem l5N {n l tl k : Nat} {o t c y v : List Int}  : Exec PP T none x5.nt 0 Z5.b.a (K5N n l tl k o t c y v) .n (E5N n l tl k o t c y v 0) := by
  refine exec_orun env0 false 60 [] [0, 1, 2, 3, 4, 5] (fun _ => rfl) (by kernel_rfl) (by kernel_rfl) (by kernel_rfl) (by kernel_rfl)
theorem m5Ni {n l tl k : Nat} {o t c y v : List Int} {e : Int}  : Exec PP T none x5.nt 0 Z5.b.b.a.a (E5N n l tl k o t c y v e) .n (S5N n l tl k o t c y v e 0) := by
  refine exec_orun env0 false 60 [] [0, 1, 2, 3, 4, 5] (fun _ => rfl) (by kernel_rfl) (by kernel_rfl) (by kernel_rfl) (by kernel_rfl)
theorem m5N {n l tl k : Nat} {o t c y v : List Int} {e : Int} {i : Nat} (hv : v.length = n) (hn : n ≤ 7) (hi : i < n) (hb : 0 ≤ at1 v i ∧ at1 v i ≤ 100000) : Exec PP T none x5.nt 0 L5w (S5N n l tl k o t c y v e i) .n (S5N n l tl k o t c y v (max e (at1 v i + 1)) (i + 1)) := by
  refine exec_orun env0 false 60 [true] [0, 1, 2, 3, 4, 5] (fun _ => rfl) (by kernel_rfl) (by kernel_rfl) (by kernel_rfl) ?_
  rw [(show obOf (orun g0 false 60 L5w (S5N n l tl k o t c y v e i) [true]) = (decide (Int.ofNat i < Int.ofNat n) && true && (decide (0 ≤ Int.ofNat i) && decide (Int.ofNat i < Int.ofNat n) && (decide (0 + (0 + i) * 1 < v.length) && (rng64 (v.getD (0 + (0 + i) * 1) 0 + 1) && true)) && (rng64 (Int.ofNat i.succ) && true))) from by kernel_rfl)]
  unfold at1 at hb
  simp only [Bool.and_eq_true, decide_eq_true_eq, rng64_eq]
  simp only [Int.ofNat_eq_natCast] at *
  simp at *
  omega
theorem m5Nx {n l tl k : Nat} {o t c y v : List Int} {e : Int}  : Exec PP T none x5.nt 0 L5w (S5N n l tl k o t c y v e n) (.x 4) (E5N n l tl k o t c y v e) := by
  refine exec_orun env0 false 60 [false] [0, 1, 2, 3, 4, 5] (fun _ => rfl) (by kernel_rfl) (by kernel_rfl) (by kernel_rfl) ?_
  rw [(show obOf (orun g0 false 60 L5w (S5N n l tl k o t c y v e n) [false]) = (!decide (Int.ofNat n < Int.ofNat n) && true) from by kernel_rfl)]
  all_goals (first | rfl | (simp; done) | (simp; omega) | (simp [rng64]; done) | (simp [rng64]; omega) | (simp [rng64_eq]; omega))
def mxL (v : List Int) : Nat → Int
  | 0 => 0
  | i + 1 => max (mxL v i) (at1 v i + 1)
theorem w5Y {n l tl k : Nat} {o t c y w w' v : List Int} (hv : OkO n 100000 v) (hn : n ≤ 7) : Exec PP T none x5.nt 0 Z5.b.b.a (E5Y n l tl k o t c y w w' v 0) .n (E5Y n l tl k o t c y w w' v (mxL v n)) :=
  exec_seq (x := Z5.b.b.a.a) (y := .block 4 (.loop L5w)) m5Yi (exec_block (e := .x 4) (exec_loop_up (fun i => S5Y n l tl k o t c y w w' v (mxL v i) i) n (fun i hi => m5Y hv.1 hn hi (hv.at (by omega) i)) m5Yx (by simp) 0 (by omega)))
theorem w5N {n l tl k : Nat} {o t c y v : List Int} (hv : OkO n 100000 v) (hn : n ≤ 7) : Exec PP T none x5.nt 0 Z5.b.b.a (E5N n l tl k o t c y v 0) .n (E5N n l tl k o t c y v (mxL v n)) :=
  exec_seq (x := Z5.b.b.a.a) (y := .block 4 (.loop L5w)) m5Ni (exec_block (e := .x 4) (exec_loop_up (fun i => S5N n l tl k o t c y v (mxL v i) i) n (fun i hi => m5N hv.1 hn hi (hv.at (by omega) i)) m5Nx (by simp) 0 (by omega)))
end Go.Proofs.Yteekkjfjpoaihaa.Eng

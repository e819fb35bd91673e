/- TopChains: whatever the int and the slice of pairs that are handed in, in whatever memory: the call answers true, and each argument reads behind it as it read before. No condition on the input. -/
import Derived.ProofKit
import Derived.OpenShut
import Derived.ChangeOld
import Derived.Below
import Derived.Test.YteekkjfjpoaihaaOt28
import Derived.Test.YteekkjfjpoaihaaOt29
set_option linter.all false
namespace Go.Proofs.Yteekkjfjpoaihaa.Eng
open Go Go.Proofs
noncomputable def Lw12Y : List (Nat × Spec) := [(12, sp12Y)]
theorem Lw12Y_ok : SpecsL Lw12Y := specsL_cons ok12Y intPairsL_fp o12 (fun p hp => absurd hp (by simp))
noncomputable abbrev gw12Y : Cal → Option Spec := specsΓ Lw12Y
theorem envw12Y : EnvOK PP T gw12Y := envL Lw12Y_ok
def Lw12N : List (Nat × Spec) := [(12, pureS (intPairsX 0 turN fun _ _ _ => .tup [.s .nils, .s (.int .i64 0)]))]
theorem Lw12N_ok : SpecsL Lw12N := specsL_cons ok12N (pureS_fp (intPairsX_fp _ _ _)) o12 (fun p hp => absurd hp (by simp))
noncomputable abbrev gw12N : Cal → Option Spec := specsΓ Lw12N
theorem envw12N : EnvOK PP T gw12N := envL Lw12N_ok
end Go.Proofs.Yteekkjfjpoaihaa.Eng
namespace Go.Proofs.Yteekkjfjpoaihaa.Eng
open Go Go.Proofs
def vCol1 : List PA → TV := fun _ => .tup [.s .nils, .s (.bool true), .s (.int .i64 0)]
noncomputable abbrev spCol1 : Spec := genS [.int, .sl 1] isOne vCol1 fun _ => []
theorem ok25a : SpecOK PP (compC T) 25 spCol1 := ok_gen o25 (by kernel_rfl) fun pas hf hc => match pas, hf with
  | [.int n, .sl _ q m], ⟨_, ⟨rfl, hq, hm⟩, _⟩ => by
    obtain rfl : m = q.length := by omega
    obtain ⟨k, rfl, hmem⟩ := inT_mem (show inT [(1, [1])] n q = true from hc)
    have hmem := List.mem_singleton.1 hmem
    cases hmem
    exact ⟨_, 0, .r, rcXone, fun _ => rfl, by kernel_rfl, by kernel_rfl, by kernel_rfl⟩
def cCol2 : List PA → Bool := fun pas => match pas with | [.int n, .sl _ q _] => inT tabX n q | _ => false
def vCol2 : List PA → TV := fun pas => .tup [.s (.sl 0 0 2 (0 + colC (qOf pas))), .s (.bool true), .s (.int .i64 0)]
def nCol2 : List PA → List HO := fun pas => [vO (colV (qOf pas))]
noncomputable abbrev spCol2 : Spec := genS [.int, .sl 1] cCol2 vCol2 nCol2
theorem ok25b : SpecOK PP (compC T) 25 spCol2 := ok_gen o25 (by kernel_rfl) fun pas hf hc => match pas, hf with
  | [.int n, .sl _ q m], ⟨_, ⟨rfl, hq, hm⟩, _⟩ => by
    obtain rfl : m = q.length := by omega
    obtain ⟨k, rfl, hmem⟩ := inT_mem (show inT tabX n q = true from hc)
    exact ⟨_, 1, .r, (tabX_ok.mem hmem).2, fun _ => rfl, by kernel_rfl, by kernel_rfl, by kernel_rfl⟩
theorem ok13z : SpecOK PP (compC T) 13 (pureS (intPairsX 0 (oW 0) fun _ _ _ => I 0)) := specX_lit ok13e fun n q m h => ⟨rfl, (by rw [eq_of_beq h])⟩
noncomputable def Lso4 : List (Nat × Spec) := [(18, spSrt)]
theorem Lso4_ok : SpecsL Lso4 := specsL_cons ok18 (genS_fp) o18 (fun p hp => absurd hp (by simp))
noncomputable abbrev gso4 : Cal → Option Spec := specsΓ Lso4
theorem envso4 : EnvOK PP T gso4 := envL Lso4_ok
noncomputable def Lch4 : List (Nat × Spec) := [(19, spChain)]
theorem Lch4_ok : SpecsL Lch4 := specsL_cons ok19 (genS_fp) o19 (fun p hp => absurd hp (by simp))
noncomputable abbrev gch4 : Cal → Option Spec := specsΓ Lch4
theorem envch4 : EnvOK PP T gch4 := envL Lch4_ok
noncomputable def Lla4 : List (Nat × Spec) := [(20, spLays)]
theorem Lla4_ok : SpecsL Lla4 := specsL_cons ok20 (genS_fp) o20 (fun p hp => absurd hp (by simp))
noncomputable abbrev gla4 : Cal → Option Spec := specsΓ Lla4
theorem envla4 : EnvOK PP T gla4 := envL Lla4_ok
noncomputable def Lmd4 : List (Nat × Spec) := [(22, spChs), (21, spMade)]
theorem Lmd4_ok : SpecsL Lmd4 := specsL_cons ok22 (genS_fp) o22 (specsL_cons ok21 (genS_fp) o21 (fun p hp => absurd hp (by simp)))
noncomputable abbrev gmd4 : Cal → Option Spec := specsΓ Lmd4
theorem envmd4 : EnvOK PP T gmd4 := envL Lmd4_ok
noncomputable def Lor4 : List (Nat × Spec) := [(13, pureS (intPairsX 0 (oW 0) fun _ _ _ => I 0))]
theorem Lor4_ok : SpecsL Lor4 := specsL_cons ok13z (pureS_fp (intPairsX_fp _ _ _)) o13 (fun p hp => absurd hp (by simp))
noncomputable abbrev gor4 : Cal → Option Spec := specsΓ Lor4
theorem envor4 : EnvOK PP T gor4 := envL Lor4_ok
noncomputable def Lct4 : List (Nat × Spec) := [(23, spCts)]
theorem Lct4_ok : SpecsL Lct4 := specsL_cons ok23 (genS_fp) o23 (fun p hp => absurd hp (by simp))
noncomputable abbrev gct4 : Cal → Option Spec := specsΓ Lct4
theorem envct4 : EnvOK PP T gct4 := envL Lct4_ok
noncomputable def Lin4 : List (Nat × Spec) := [(24, spInts)]
theorem Lin4_ok : SpecsL Lin4 := specsL_cons ok24 (genS_fp) o24 (fun p hp => absurd hp (by simp))
noncomputable abbrev gin4 : Cal → Option Spec := specsΓ Lin4
theorem envin4 : EnvOK PP T gin4 := envL Lin4_ok
noncomputable def Lca4 : List (Nat × Spec) := [(25, spCol1)]
theorem Lca4_ok : SpecsL Lca4 := specsL_cons ok25a (genS_fp) o25 (fun p hp => absurd hp (by simp))
noncomputable abbrev gca4 : Cal → Option Spec := specsΓ Lca4
theorem envca4 : EnvOK PP T gca4 := envL Lca4_ok
noncomputable def Lcb4 : List (Nat × Spec) := [(25, spCol2)]
theorem Lcb4_ok : SpecsL Lcb4 := specsL_cons ok25b (genS_fp) o25 (fun p hp => absurd hp (by simp))
noncomputable abbrev gcb4 : Cal → Option Spec := specsΓ Lcb4
theorem envcb4 : EnvOK PP T gcb4 := envL Lcb4_ok
noncomputable def Lho4 : List (Nat × Spec) := [(26, spHol)]
theorem Lho4_ok : SpecsL Lho4 := specsL_cons ok26 (genS_fp) o26 (fun p hp => absurd hp (by simp))
noncomputable abbrev gho4 : Cal → Option Spec := specsΓ Lho4
theorem envho4 : EnvOK PP T gho4 := envL Lho4_ok
noncomputable def Lth4 : List (Nat × Spec) := [(27, spThree)]
theorem Lth4_ok : SpecsL Lth4 := specsL_cons ok27 (genS_fp) o27 (fun p hp => absurd hp (by simp))
noncomputable abbrev gth4 : Cal → Option Spec := specsΓ Lth4
theorem envth4 : EnvOK PP T gth4 := envL Lth4_ok
def U2 : XC := x4.body.b.b.b.b
def U3 : XC := U2.b.b.b.b
def U4 : XC := U3.b.b.b.b
abbrev z4c (n m k : Nat) : List (Nat × Slot) := [(0, iS n), (5, lsS 0 m), (11, s1S 1 k), (12, iS 0)]
abbrev z4y (n m k : Nat) : List (Nat × Slot) := z4c n m k ++ [(13, s1S 2 n), (14, iS 0)]
abbrev z4t (n m k tl : Nat) : List (Nat × Slot) := z4y n m k ++ [(15, lsS 3 tl), (16, iS 0)]
abbrev z4q (n m k : Nat) : List (Nat × Slot) := z4y n m k ++ [(16, iS 0)]
abbrev z4z (n m k tl zl : Nat) : List (Nat × Slot) := z4t n m k tl ++ [(17, s1S 4 zl), (18, iS 0)]
abbrev z4s (n m k tl zl sl : Nat) : List (Nat × Slot) := z4z n m k tl zl ++ [(19, s1S 5 sl), (20, iS 0)]
abbrev w4 (n m k zl sl : Nat) : List (Nat × Slot) := [(0, iS n), (5, lsS 0 m), (11, s1S 1 k), (13, s1S 2 n), (17, s1S 3 zl), (19, s1S 4 sl)]
abbrev w4c (n m k zl sl cl : Nat) : List (Nat × Slot) := w4 n m k zl sl ++ [(21, s1S 5 cl), (22, iS 0)]
abbrev i4 (n : Nat) : Int := Int.ofNat n
theorem tda {n m : Nat} {q : List Int} (hq : q.length = m * 2) (hm : m ≤ 1000) : Exec PP T none x4.nt 0 U2.a (Q4 n m q) .n (Q4 n (srtN ((q.drop (0 * 2)).take (m * 2)) m) (srtV ((q.drop (0 * 2)).take (m * 2)) m)) := by
  refine exec_orun envso4 false 60 [] [1] (fun _ => rfl) (by kernel_rfl) (by kernel_rfl) (by kernel_rfl) ?_
  rw [(show obOf (orun gso4 false 60 U2.a (Q4 n m q) []) = (decide ((0 + m) * 2 ≤ q.length) && decide (m ≤ 1000000000) && true && cSrt [PA.sl 2 (List.take (m * 2) q) m] && true && true && true) from by kernel_rfl)]
  simp [cSrt, bndL, hq]
  omega
theorem tdb {n m : Nat} {q : List Int} (hq : q.length = m * 2) (hm : m ≤ 1000) (h : ordC (Int.ofNat n) q m = true) : Exec PP T none x4.nt 0 U2.b.a (Q4 n m q) .n (mkSt (z4c n m (hgF (orderF (Int.ofNat n) ((q.drop (0 * 2)).take (m * 2)) m) n (topF (orderF (Int.ofNat n) ((q.drop (0 * 2)).take (m * 2)) m) n) + 1)) [ivO q, lO (chainF (orderF (Int.ofNat n) ((q.drop (0 * 2)).take (m * 2)) m) n)] 2 []) := by
  refine exec_orun envch4 false 60 [] [0, 1] (fun _ => rfl) (by kernel_rfl) (by kernel_rfl) (by kernel_rfl) ?_
  rw [(show obOf (orun gch4 false 60 U2.b.a (Q4 n m q) []) = (decide ((0 + m) * 2 ≤ q.length) && decide (m ≤ 1000000000) && true && ordC (Int.ofNat n) (List.take (m * 2) q) m && true && true && true) from by kernel_rfl)]
  simp only [take_all2 hq, take2 hq, cLays, h]
  simp [bndL, hq]
  omega
theorem tdc {n m k : Nat} {q c : List Int} (hq : q.length = m * 2) (hm : m ≤ 1000) (h : ordC (Int.ofNat n) q m = true) : Exec PP T none x4.nt 0 U2.b.b.a (mkSt (z4c n m k) [ivO q, lO c] 2 []) .n (mkSt (z4y n m k) [ivO q, lO c, lO (lqF (orderF (Int.ofNat n) ((q.drop (0 * 2)).take (m * 2)) m) n n)] 3 []) := by
  refine exec_orun envla4 false 60 [] [0, 1, 2] (fun _ => rfl) (by kernel_rfl) (by kernel_rfl) (by kernel_rfl) ?_
  rw [(show obOf (orun gla4 false 60 U2.b.b.a (mkSt (z4c n m k) [ivO q, lO c] 2 []) []) = (decide ((0 + m) * 2 ≤ q.length) && decide (m ≤ 1000000000) && true && ordC (Int.ofNat n) (List.take (m * 2) q) m && true && true && true) from by kernel_rfl)]
  simp only [take_all2 hq, take2 hq, cLays, h]
  simp [bndL, hq]
  omega
theorem tddY {n m k : Nat} {q c y : List Int} (hq : q.length = m * 2) (hm : m ≤ 1000) (h : turY (Int.ofNat n) q m = true) : Exec PP T none x4.nt 0 U2.b.b.b.a (mkSt (z4y n m k) [ivO q, lO c, lO y] 3 []) .n (mkSt (z4t n m k (turL (Int.ofNat n) ((q.drop (0 * 2)).take (m * 2)) m).length) [ivO q, lO c, lO y, ivO (flat (turL (Int.ofNat n) ((q.drop (0 * 2)).take (m * 2)) m))] 4 []) := by
  refine exec_orun envw12Y false 60 [] [0, 1, 2, 3] (fun _ => rfl) (by kernel_rfl) (by kernel_rfl) (by kernel_rfl) ?_
  rw [(show obOf (orun gw12Y false 60 U2.b.b.b.a (mkSt (z4y n m k) [ivO q, lO c, lO y] 3 []) []) = (decide ((0 + m) * 2 ≤ q.length) && (decide (m ≤ 1000000000) && turY (Int.ofNat n) (List.take (m * 2) q) m) && true && true && true) from by kernel_rfl)]
  simp only [take_all2 hq, take2 hq, h]
  simp [bndL, hq]
  omega
theorem tddq {n m k : Nat} {q c y : List Int} (hq : q.length = m * 2) (hm : m ≤ 1000) (h : turN (Int.ofNat n) q m = true) : Exec PP T none x4.nt 0 U2.b.b.b.a (mkSt (z4y n m k) [ivO q, lO c, lO y] 3 []) .n (mkSt (z4q n m k ++ [(15, nlS)]) [ivO q, lO c, lO y] 3 []) := by
  refine exec_orun envw12N false 60 [] [0, 1, 2] (fun _ => rfl) (by kernel_rfl) (by kernel_rfl) (by kernel_rfl) ?_
  rw [(show obOf (orun gw12N false 60 U2.b.b.b.a (mkSt (z4y n m k) [ivO q, lO c, lO y] 3 []) []) = (decide ((0 + m) * 2 ≤ q.length) && (decide (m ≤ 1000000000) && turN (Int.ofNat n) (List.take (m * 2) q) m) && true) from by kernel_rfl)]
  simp only [take_all2 hq, take2 hq, h]
  simp [bndL, hq]
  omega
theorem tde {n m k tl : Nat} {q c y t : List Int} (hq : q.length = m * 2) (hm : m ≤ 1000) (hn : n ≤ 5) (h : cMd [.int (Int.ofNat n), .sl 1 (chV q m n) (chV q m n).length] = true) : Exec PP T none x4.nt 0 U3.a (mkSt (z4t n m k tl) [ivO q, lO c, lO y, ivO t] 4 []) .n (mkSt (z4z n m k tl (mdL (((chV ((q.drop (0 * 2)).take (m * 2)) m n).drop (0 * 1)).take ((chV ((q.drop (0 * 2)).take (m * 2)) m n).length * 1))).length) [ivO q, lO c, lO y, ivO t, lO (mdL (((chV ((q.drop (0 * 2)).take (m * 2)) m n).drop (0 * 1)).take ((chV ((q.drop (0 * 2)).take (m * 2)) m n).length * 1)))] 5 []) := by
  refine exec_orun envmd4 false 60 [] [0, 1, 2, 3, 12] (fun _ => rfl) (by kernel_rfl) (by kernel_rfl) (by kernel_rfl) ?_
  rw [(show obOf (orun gmd4 false 60 U3.a (mkSt (z4t n m k tl) [ivO q, lO c, lO y, ivO t] 4 []) []) = (decide ((0 + m) * 2 ≤ q.length) && decide (m ≤ 1000000000) && true && (decide (0 ≤ Int.ofNat n) && decide (Int.ofNat n ≤ 5) && decide (m ≤ 1000)) && true && true && (decide ((0 + (chV (List.take (m * 2) q) m n).length) * 1 ≤ (chV (List.take (m * 2) q) m n).length) && decide ((chV (List.take (m * 2) q) m n).length ≤ 1000000000) && true && cMd [PA.int (Int.ofNat n), PA.sl 1 (List.take ((chV (List.take (m * 2) q) m n).length * 1) (List.drop 0 (chV (List.take (m * 2) q) m n))) (chV (List.take (m * 2) q) m n).length] && true && true && true)) from by kernel_rfl)]
  have hl : (chV q m n).length ≤ 64 := by simp [cMd] at h; omega
  simp only [take_all2 hq, take2 hq, take_all1 (Nat.mul_one _).symm, take_all, h]
  simp [bndL, hq, cCh]
  omega
theorem tdf {n m k tl zl : Nat} {q c y t z : List Int} (ht : t.length = tl * 2) (hm : tl ≤ 1000) (hn : n ≤ 5) (h : cMd [.int (Int.ofNat n), .sl 1 (chV t tl n) (chV t tl n).length] = true) : Exec PP T none x4.nt 0 U3.b.a (mkSt (z4z n m k tl zl) [ivO q, lO c, lO y, ivO t, lO z] 5 []) .n (mkSt (z4s n m k tl zl (mdL (((chV ((t.drop (0 * 2)).take (tl * 2)) tl n).drop (0 * 1)).take ((chV ((t.drop (0 * 2)).take (tl * 2)) tl n).length * 1))).length) [ivO q, lO c, lO y, ivO t, lO z, lO (mdL (((chV ((t.drop (0 * 2)).take (tl * 2)) tl n).drop (0 * 1)).take ((chV ((t.drop (0 * 2)).take (tl * 2)) tl n).length * 1)))] 6 []) := by
  refine exec_orun envmd4 false 60 [] [0, 1, 2, 3, 4, 13] (fun _ => rfl) (by kernel_rfl) (by kernel_rfl) (by kernel_rfl) ?_
  rw [(show obOf (orun gmd4 false 60 U3.b.a (mkSt (z4z n m k tl zl) [ivO q, lO c, lO y, ivO t, lO z] 5 []) []) = (decide ((0 + tl) * 2 ≤ t.length) && decide (tl ≤ 1000000000) && true && (decide (0 ≤ Int.ofNat n) && decide (Int.ofNat n ≤ 5) && decide (tl ≤ 1000)) && true && true && (decide ((0 + (chV (List.take (tl * 2) t) tl n).length) * 1 ≤ (chV (List.take (tl * 2) t) tl n).length) && decide ((chV (List.take (tl * 2) t) tl n).length ≤ 1000000000) && true && cMd [PA.int (Int.ofNat n), PA.sl 1 (List.take ((chV (List.take (tl * 2) t) tl n).length * 1) (List.drop 0 (chV (List.take (tl * 2) t) tl n))) (chV (List.take (tl * 2) t) tl n).length] && true && true && true)) from by kernel_rfl)]
  have hl : (chV t tl n).length ≤ 64 := by simp [cMd] at h; omega
  simp only [take_all2 ht, take2 ht, take_all1 (Nat.mul_one _).symm, take_all, h]
  simp [bndL, ht, cCh]
  omega
theorem tdg {n m k tl zl sl : Nat} {q c y t z s : List Int} (hq : q.length = m * 2) (hm : m ≤ 1000) (h : orderE (Int.ofNat n) q m = 0) : Exec PP T none x4.nt 0 U3.b.b.a (mkSt (z4s n m k tl zl sl) [ivO q, lO c, lO y, ivO t, lO z, lO s] 6 []) .n (mkSt (w4 n m k zl sl) [ivO q, lO c, lO y, lO z, lO s] 5 []) := by
  refine exec_prun envor4 [(155, false)] false 60 [0, 1, 2, 4, 5] (by kernel_rfl) (by kernel_rfl) (by kernel_rfl) ?_
  rw [(show obOf (prun [(155, false)] gor4 false 60 U3.b.b.a (mkSt (z4s n m k tl zl sl) [ivO q, lO c, lO y, ivO t, lO z, lO s] 6 [])) = (decide ((0 + m) * 2 ≤ q.length) && (decide (m ≤ 1000000000) && orderE (Int.ofNat n) (List.take (m * 2) q) m == 0) && ((Int.ofNat n != Int.ofNat n) == false && true) && true) from by kernel_rfl)]
  simp only [take_all2 hq, take2 hq, oW, h]
  simp [bndL, hq]
  omega
theorem tdh {n m k zl sl : Nat} {q c y z s : List Int} (hz : z.length = zl) (h : inT tabC (Int.ofNat n) z = true) (hl : zl ≤ 1000) : Exec PP T none x4.nt 0 U3.b.b.b.a (mkSt (w4 n m k zl sl) [ivO q, lO c, lO y, lO z, lO s] 5 []) .n (mkSt (w4c n m k zl sl (cntV ((z.drop (0 * 1)).take (zl * 1))).length) [ivO q, lO c, lO y, lO z, lO s, lO (cntV ((z.drop (0 * 1)).take (zl * 1)))] 6 []) := by
  refine exec_orun envct4 false 60 [] [0, 1, 2, 3, 4, 5] (fun _ => rfl) (by kernel_rfl) (by kernel_rfl) (by kernel_rfl) ?_
  rw [(show obOf (orun gct4 false 60 U3.b.b.b.a (mkSt (w4 n m k zl sl) [ivO q, lO c, lO y, lO z, lO s] 5 []) []) = (decide ((0 + zl) * 1 ≤ z.length) && decide (zl ≤ 1000000000) && true && inT tabC (Int.ofNat n) (List.take (zl * 1) z) && true && true && true) from by kernel_rfl)]
  subst hz
  simp only [take_all1 (Nat.mul_one _).symm, take_all, cCts, h]
  simp [bndL]
  omega
def LH4 : XC := U4.b.a.b.i.i
abbrev SH4 (n m k zl sl cl : Nat) (q c y z s ct : List Int) (e : Int) (i : Nat) : St := mkSt (w4c n m k zl sl cl ++ [(23, iS e), (24, iS i)]) [ivO q, lO c, lO y, lO z, lO s, lO ct] 6 []
abbrev SI4h (n m k zl sl cl : Nat) (q c y z s ct : List Int) (e : Int) : St := mkSt (w4c n m k zl sl cl ++ [(23, iS e)]) [ivO q, lO c, lO y, lO z, lO s, lO ct] 6 []
theorem tdi {n m k zl sl cl : Nat} {q c y z s ct : List Int}  : Exec PP T none x4.nt 0 U4.a (mkSt (w4c n m k zl sl cl) [ivO q, lO c, lO y, lO z, lO s, lO ct] 6 []) .n (SI4h n m k zl sl cl q c y z s ct 0) := by
  refine exec_orun env0 false 60 [] [0, 1, 2, 3, 4, 5] (fun _ => rfl) (by kernel_rfl) (by kernel_rfl) (by kernel_rfl) (by kernel_rfl)
theorem tdj {n m k zl sl cl : Nat} {q c y z s ct : List Int}  : Exec PP T none x4.nt 0 U4.b.a.a (SI4h n m k zl sl cl q c y z s ct 0) .n (SH4 n m k zl sl cl q c y z s ct 0 0) := by
  refine exec_orun env0 false 60 [] [0, 1, 2, 3, 4, 5] (fun _ => rfl) (by kernel_rfl) (by kernel_rfl) (by kernel_rfl) (by kernel_rfl)
theorem tdk {n m k zl sl cl i : Nat} {q c y z s ct : List Int} {e : Int} (hy : y.length = n) (hn : n ≤ 7) (hi : i < n) : Exec PP T none x4.nt 0 LH4 (SH4 n m k zl sl cl q c y z s ct e i) .n (SH4 n m k zl sl cl q c y z s ct (max e (at1 y i)) (i + 1)) := by
  refine exec_orun env0 false 60 [true] [0, 1, 2, 3, 4, 5] (fun _ => rfl) (by kernel_rfl) (by kernel_rfl) (by kernel_rfl) ?_
  rw [(show obOf (orun g0 false 60 LH4 (SH4 n m k zl sl cl q c y z s ct e i) [true]) = (decide (Int.ofNat i < Int.ofNat n) && true && (decide (0 ≤ Int.ofNat i) && decide (Int.ofNat i < Int.ofNat n) && (decide (0 + (0 + i) * 1 < y.length) && true) && (rng64 (Int.ofNat i.succ) && true))) from by kernel_rfl)]
  all_goals (first | rfl | (simp; done) | (simp; omega) | (simp [rng64]; done) | (simp [rng64]; omega) | (simp [rng64_eq]; omega))
theorem tdkx {n m k zl sl cl : Nat} {q c y z s ct : List Int} {e : Int}  : Exec PP T none x4.nt 0 LH4.a (SH4 n m k zl sl cl q c y z s ct e n) (.x 6) (SI4h n m k zl sl cl q c y z s ct e) := by
  refine exec_orun env0 false 60 [false] [0, 1, 2, 3, 4, 5] (fun _ => rfl) (by kernel_rfl) (by kernel_rfl) (by kernel_rfl) ?_
  rw [(show obOf (orun g0 false 60 LH4.a (SH4 n m k zl sl cl q c y z s ct e n) [false]) = (!decide (Int.ofNat n < Int.ofNat n) && true) from by kernel_rfl)]
  all_goals (first | rfl | (simp; done) | (simp; omega) | (simp [rng64]; done) | (simp [rng64]; omega) | (simp [rng64_eq]; omega))
abbrev SB4 (n m k zl : Nat) (q c z : List Int) : St := mkSt [(0, iS n), (5, lsS 0 m), (11, s1S 1 k), (17, s1S 2 zl)] [ivO q, lO c, lO z] 3 []
theorem tdl {n m k zl sl cl : Nat} {q c y z s ct : List Int} {e : Int} (hz : z.length = zl) (hs : s.length = sl) (hcl : cl = k + 1) (he : e = Int.ofNat k - 1) (hk : k ≤ 1000) (hzl : zl ≤ 1000) (hsl : sl ≤ 1000) (h : intsE z zl s sl = true) : Exec PP T none x4.nt 0 U4.b.b.a (SI4h n m k zl sl cl q c y z s ct e) .n (SB4 n m k zl q c z) := by
  refine exec_prun envin4 [(182, false), (189, false), (194, true)] false 60 [0, 1, 3] (by kernel_rfl) (by kernel_rfl) (by kernel_rfl) ?_
  rw [(show obOf (prun [(182, false), (189, false), (194, true)] gin4 false 60 U4.b.b.a (SI4h n m k zl sl cl q c y z s ct e)) = (rng64 (Int.ofNat k.succ) && ((Int.ofNat cl != Int.ofNat k.succ) == false && (rng64 (Int.ofNat k - 1) && ((e != Int.ofNat k - 1) == false && (decide ((0 + zl) * 1 ≤ z.length) && decide (zl ≤ 1000000000) && (decide ((0 + sl) * 1 ≤ s.length) && decide (sl ≤ 1000000000) && true) && true && intsE (List.take (zl * 1) z) zl (List.take (sl * 1) s) sl == true && true)))) && true) from by kernel_rfl)]
  subst hz hs hcl he
  simp only [take_all1 (Nat.mul_one _).symm, take_all, h]
  simp [bndL, rng64_eq]
  omega
def LV4 : XC := U4.b.b.b.a.b.i.i
def XV4 : XC := LV4.b.a.i
def LW4 : XC := XV4.b.a.b.i.i
def XW4 : XC := XV4.b.b.b
def LX4 : XC := XW4.b.b.b.b.i.i
abbrev zb4 (n m k zl : Nat) : List (Nat × Slot) := [(0, iS n), (5, lsS 0 m), (11, s1S 1 k), (17, s1S 2 zl)]
abbrev SV4 (n m k zl : Nat) (q c z : List Int) (v : Nat) : St := mkSt (zb4 n m k zl ++ [(25, iS v)]) [ivO q, lO c, lO z] 3 []
abbrev ST4 (n m k zl : Nat) (q c z : List Int) (v : Nat) (b : Bool) : St := mkSt (zb4 n m k zl ++ [(25, iS v), (26, ⟨true, B b⟩)]) [ivO q, lO c, lO z] 3 []
abbrev SW4 (n m k zl : Nat) (q c z : List Int) (v : Nat) (b : Bool) (w : Nat) : St := mkSt (zb4 n m k zl ++ [(25, iS v), (26, ⟨true, B b⟩), (27, iS w)]) [ivO q, lO c, lO z] 3 []
theorem tdm {n m k zl : Nat} {q c z : List Int}  : Exec PP T none x4.nt 0 U4.b.b.b.a.a (SB4 n m k zl q c z) .n (SV4 n m k zl q c z 0) := by
  refine exec_orun env0 false 60 [] [0, 1, 2] (fun _ => rfl) (by kernel_rfl) (by kernel_rfl) (by kernel_rfl) (by kernel_rfl)
theorem tdn {n m k zl v : Nat} {q c z : List Int} (hv : v < n) : Exec PP T none x4.nt 0 LV4.a (SV4 n m k zl q c z v) .n (SV4 n m k zl q c z v) := by
  refine exec_orun env0 false 60 [true] [0, 1, 2] (fun _ => rfl) (by kernel_rfl) (by kernel_rfl) (by kernel_rfl) ?_
  rw [(show obOf (orun g0 false 60 LV4.a (SV4 n m k zl q c z v) [true]) = (decide (Int.ofNat v < Int.ofNat n) && true) from by kernel_rfl)]
  all_goals (first | rfl | (simp; done) | (simp; omega) | (simp [rng64]; done) | (simp [rng64]; omega) | (simp [rng64_eq]; omega))
theorem tdnx {n m k zl : Nat} {q c z : List Int}  : Exec PP T none x4.nt 0 LV4.a (SV4 n m k zl q c z n) (.x 8) (mkSt [] [] 0 []) := by
  refine exec_orun env0 false 60 [false] [] (fun _ => rfl) (by kernel_rfl) (by kernel_rfl) (by kernel_rfl) ?_
  rw [(show obOf (orun g0 false 60 LV4.a (SV4 n m k zl q c z n) [false]) = (!decide (Int.ofNat n < Int.ofNat n) && true) from by kernel_rfl)]
  all_goals (first | rfl | (simp; done) | (simp; omega) | (simp [rng64]; done) | (simp [rng64]; omega) | (simp [rng64_eq]; omega))
theorem tdne {n m k zl v : Nat} {q c z : List Int} (hv : v < 1000) : Exec PP T none x4.nt 0 LV4.b.b (SV4 n m k zl q c z v) .n (SV4 n m k zl q c z (v + 1)) := by
  refine exec_orun env0 false 60 [] [0, 1, 2] (fun _ => rfl) (by kernel_rfl) (by kernel_rfl) (by kernel_rfl) ?_
  rw [(show obOf (orun g0 false 60 LV4.b.b (SV4 n m k zl q c z v) []) = (rng64 (Int.ofNat v.succ) && true) from by kernel_rfl)]
  all_goals (first | rfl | (simp; done) | (simp; omega) | (simp [rng64]; done) | (simp [rng64]; omega) | (simp [rng64_eq]; omega))
theorem tdo {n m k zl v : Nat} {q c z : List Int}  : Exec PP T none x4.nt 0 XV4.a (SV4 n m k zl q c z v) .n (ST4 n m k zl q c z v true) := by
  refine exec_orun env0 false 60 [] [0, 1, 2] (fun _ => rfl) (by kernel_rfl) (by kernel_rfl) (by kernel_rfl) (by kernel_rfl)
theorem tdp {n m k zl v : Nat} {q c z : List Int} {b : Bool}  : Exec PP T none x4.nt 0 XV4.b.a.a (ST4 n m k zl q c z v b) .n (SW4 n m k zl q c z v b 0) := by
  refine exec_orun env0 false 60 [] [0, 1, 2] (fun _ => rfl) (by kernel_rfl) (by kernel_rfl) (by kernel_rfl) (by kernel_rfl)
theorem tdq {n m k zl v w : Nat} {q c z : List Int} {b : Bool} (hw : w < n) : Exec PP T none x4.nt 0 LW4.a (SW4 n m k zl q c z v b w) .n (SW4 n m k zl q c z v b w) := by
  refine exec_orun env0 false 60 [true] [0, 1, 2] (fun _ => rfl) (by kernel_rfl) (by kernel_rfl) (by kernel_rfl) ?_
  rw [(show obOf (orun g0 false 60 LW4.a (SW4 n m k zl q c z v b w) [true]) = (decide (Int.ofNat w < Int.ofNat n) && true) from by kernel_rfl)]
  all_goals (first | rfl | (simp; done) | (simp; omega) | (simp [rng64]; done) | (simp [rng64]; omega) | (simp [rng64_eq]; omega))
theorem tdqx {n m k zl v : Nat} {q c z : List Int} {b : Bool}  : Exec PP T none x4.nt 0 LW4.a (SW4 n m k zl q c z v b n) (.x 10) (ST4 n m k zl q c z v b) := by
  refine exec_orun env0 false 60 [false] [0, 1, 2] (fun _ => rfl) (by kernel_rfl) (by kernel_rfl) (by kernel_rfl) ?_
  rw [(show obOf (orun g0 false 60 LW4.a (SW4 n m k zl q c z v b n) [false]) = (!decide (Int.ofNat n < Int.ofNat n) && true) from by kernel_rfl)]
  all_goals (first | rfl | (simp; done) | (simp; omega) | (simp [rng64]; done) | (simp [rng64]; omega) | (simp [rng64_eq]; omega))
theorem tdqe {n m k zl v w : Nat} {q c z : List Int} {b : Bool} (hw : w < 1000) : Exec PP T none x4.nt 0 LW4.b.b (SW4 n m k zl q c z v b w) .n (SW4 n m k zl q c z v b (w + 1)) := by
  refine exec_orun env0 false 60 [] [0, 1, 2] (fun _ => rfl) (by kernel_rfl) (by kernel_rfl) (by kernel_rfl) ?_
  rw [(show obOf (orun g0 false 60 LW4.b.b (SW4 n m k zl q c z v b w) []) = (rng64 (Int.ofNat w.succ) && true) from by kernel_rfl)]
  all_goals (first | rfl | (simp; done) | (simp; omega) | (simp [rng64]; done) | (simp [rng64]; omega) | (simp [rng64_eq]; omega))
theorem tdr1 {n m k zl v w : Nat} {q c z : List Int}  : Exec PP T none x4.nt 0 LW4.b.a.i (SW4 n m k zl q c z v false w) .n (SW4 n m k zl q c z v false w) := by
  refine exec_prun envre4 [(26, false)] false 60 [0, 1, 2] (by kernel_rfl) (by kernel_rfl) (by kernel_rfl) (by kernel_rfl)
theorem tdr2 {n m k zl v : Nat} {q c z : List Int}  : Exec PP T none x4.nt 0 LW4.b.a.i (SW4 n m k zl q c z v true v) .n (SW4 n m k zl q c z v true v) := by
  refine exec_prun envre4 [(211, true)] false 60 [0, 1, 2] (by kernel_rfl) (by kernel_rfl) (by kernel_rfl) ?_
  rw [(show obOf (prun [(211, true)] gre4 false 60 LW4.b.a.i (SW4 n m k zl q c z v true v)) = ((Int.ofNat v == Int.ofNat v) == true && true) from by kernel_rfl)]
  all_goals (first | rfl | (simp; done) | (simp; omega) | (simp [rng64]; done) | (simp [rng64]; omega) | (simp [rng64_eq]; omega))
theorem tdr3 {n m k zl v w : Nat} {q c z : List Int} (hq : q.length = m * 2) (hm : m ≤ 1000) (hv : v ≠ w) (h : relQ q m (Int.ofNat v) (Int.ofNat w) = true) : Exec PP T none x4.nt 0 LW4.b.a.i (SW4 n m k zl q c z v true w) .n (SW4 n m k zl q c z v true w) := by
  refine exec_prun envre4 [(211, false), (216, true)] false 60 [0, 1, 2] (by kernel_rfl) (by kernel_rfl) (by kernel_rfl) ?_
  rw [(show obOf (prun [(211, false), (216, true)] gre4 false 60 LW4.b.a.i (SW4 n m k zl q c z v true w)) = ((Int.ofNat v == Int.ofNat w) == false && (decide ((0 + m) * 2 ≤ q.length) && decide (m ≤ 1000000000) && true && true && relQ (List.take (m * 2) q) m (Int.ofNat v) (Int.ofNat w) == true && true)) from by kernel_rfl)]
  simp only [take_all2 hq, take2 hq, h]
  simp [bndL, hq, hv]
  omega
theorem tdr4 {n m k zl v w : Nat} {q c z : List Int} (hq : q.length = m * 2) (hm : m ≤ 1000) (hv : v ≠ w) (h : relQ q m (Int.ofNat v) (Int.ofNat w) = false) : Exec PP T none x4.nt 0 LW4.b.a.i (SW4 n m k zl q c z v true w) .n (SW4 n m k zl q c z v false w) := by
  refine exec_prun envre4 [(211, false), (216, false)] false 60 [0, 1, 2] (by kernel_rfl) (by kernel_rfl) (by kernel_rfl) ?_
  rw [(show obOf (prun [(211, false), (216, false)] gre4 false 60 LW4.b.a.i (SW4 n m k zl q c z v true w)) = ((Int.ofNat v == Int.ofNat w) == false && (decide ((0 + m) * 2 ≤ q.length) && decide (m ≤ 1000000000) && true && true && relQ (List.take (m * 2) q) m (Int.ofNat v) (Int.ofNat w) == false && true)) from by kernel_rfl)]
  simp only [take_all2 hq, take2 hq, h]
  simp [bndL, hq, hv]
  omega
theorem tds {n m k zl v : Nat} {q c z : List Int}  : Exec PP T none x4.nt 0 XV4.b.b.a (ST4 n m k zl q c z v true) .n (SV4 n m k zl q c z v) := by
  refine exec_prun env0 [(26, true)] false 60 [0, 1, 2] (by kernel_rfl) (by kernel_rfl) (by kernel_rfl) (by kernel_rfl)
theorem tdsx {n m k zl v : Nat} {q c z : List Int}  : Exec PP T none x4.nt 0 XV4.b.b.a (ST4 n m k zl q c z v false) (.x 9) (SV4 n m k zl q c z v) := by
  refine exec_prun env0 [(26, false)] false 60 [0, 1, 2] (by kernel_rfl) (by kernel_rfl) (by kernel_rfl) (by kernel_rfl)
abbrev sc4 (n m k zl v : Nat) : List (Nat × Slot) := zb4 n m k zl ++ [(25, iS v), (29, ⟨true, B true⟩), (30, iS 0)]
abbrev sd4 (n m k zl v hl : Nat) : List (Nat × Slot) := sc4 n m k zl v ++ [(31, s1S 3 hl), (32, iS 0)]
abbrev SL4 (n m k zl : Nat) (q c z o : List Int) (v hl : Nat) : St := mkSt (zb4 n m k zl ++ [(25, iS v), (31, s1S 3 hl)]) [ivO q, lO c, lO z, lO o] 4 []
abbrev SM4 (n m k zl : Nat) (q c z o : List Int) (v hl x : Nat) : St := mkSt (zb4 n m k zl ++ [(25, iS v), (31, s1S 3 hl), (33, iS x)]) [ivO q, lO c, lO z, lO o] 4 []
theorem tdt1 {n m k zl v : Nat} {q c z : List Int} (hz : z.length = zl) (hl : zl ≤ 1000) (h : inT [(1, [1])] (Int.ofNat n) z = true) : Exec PP T none x4.nt 0 XW4.a (SV4 n m k zl q c z v) .n (mkSt (sc4 n m k zl v) [ivO q, lO c, lO z] 3 []) := by
  refine exec_orun envca4 false 60 [] [0, 1, 2] (fun _ => rfl) (by kernel_rfl) (by kernel_rfl) (by kernel_rfl) ?_
  rw [(show obOf (orun gca4 false 60 XW4.a (SV4 n m k zl q c z v) []) = (decide ((0 + zl) * 1 ≤ z.length) && decide (zl ≤ 1000000000) && true && inT [(1, [1])] (Int.ofNat n) (List.take (zl * 1) z) && true) from by kernel_rfl)]
  subst hz
  simp only [take_all1 (Nat.mul_one _).symm, take_all, isOne, h]
  simp [bndL]
  omega
theorem tdt2 {n m k zl v : Nat} {q c z : List Int} (hz : z.length = zl) (hl : zl ≤ 1000) (h : inT tabX (Int.ofNat n) z = true) : Exec PP T none x4.nt 0 XW4.a (SV4 n m k zl q c z v) .n (mkSt (sc4 n m k zl v) [ivO q, lO c, lO z] 3 []) := by
  refine exec_orun envcb4 false 60 [] [0, 1, 2] (fun _ => rfl) (by kernel_rfl) (by kernel_rfl) (by kernel_rfl) ?_
  rw [(show obOf (orun gcb4 false 60 XW4.a (SV4 n m k zl q c z v) []) = (decide ((0 + zl) * 1 ≤ z.length) && decide (zl ≤ 1000000000) && true && inT tabX (Int.ofNat n) (List.take (zl * 1) z) && true && true && true) from by kernel_rfl)]
  subst hz
  simp only [take_all1 (Nat.mul_one _).symm, take_all, cCol2, h]
  simp [bndL]
  omega
theorem tdu {n m k zl v : Nat} {q c z : List Int} (hz : z.length = zl) (hl : zl ≤ 1000) (h : inT ((1, [1]) :: tabX) (Int.ofNat n) z = true) : Exec PP T none x4.nt 0 XW4.b.a (mkSt (sc4 n m k zl v) [ivO q, lO c, lO z] 3 []) .n (mkSt (sd4 n m k zl v (holV ((z.drop (0 * 1)).take (zl * 1))).length) [ivO q, lO c, lO z, lO (holV ((z.drop (0 * 1)).take (zl * 1)))] 4 []) := by
  refine exec_orun envho4 false 60 [] [0, 1, 2, 3] (fun _ => rfl) (by kernel_rfl) (by kernel_rfl) (by kernel_rfl) ?_
  rw [(show obOf (orun gho4 false 60 XW4.b.a (mkSt (sc4 n m k zl v) [ivO q, lO c, lO z] 3 []) []) = (decide ((0 + zl) * 1 ≤ z.length) && decide (zl ≤ 1000000000) && true && inT ((1, [1]) :: tabX) (Int.ofNat n) (List.take (zl * 1) z) && true && true && true) from by kernel_rfl)]
  subst hz
  simp only [take_all1 (Nat.mul_one _).symm, take_all, cHol, h]
  simp [bndL]
  omega
theorem tdv {n m k zl v hl : Nat} {q c z o : List Int} (h : hl = k) : Exec PP T none x4.nt 0 XW4.b.b.a (mkSt (sd4 n m k zl v hl) [ivO q, lO c, lO z, lO o] 4 []) .n (SL4 n m k zl q c z o v hl) := by
  refine exec_prun env0 [(249, false)] false 60 [0, 1, 2, 3] (by kernel_rfl) (by kernel_rfl) (by kernel_rfl) ?_
  rw [(show obOf (prun [(249, false)] g0 false 60 XW4.b.b.a (mkSt (sd4 n m k zl v hl) [ivO q, lO c, lO z, lO o] 4 [])) = ((Int.ofNat hl != Int.ofNat k) == false && true && true) from by kernel_rfl)]
  subst h
  simp
theorem tdw {n m k zl v hl : Nat} {q c z o : List Int}  : Exec PP T none x4.nt 0 XW4.b.b.b.a (SL4 n m k zl q c z o v hl) .n (SM4 n m k zl q c z o v hl 0) := by
  refine exec_orun env0 false 60 [] [0, 1, 2, 3] (fun _ => rfl) (by kernel_rfl) (by kernel_rfl) (by kernel_rfl) (by kernel_rfl)
theorem tdx {n m k zl v hl x : Nat} {q c z o : List Int} (ho : o.length = hl) (hh : hl ≤ 1000) (hx : x < hl) (h : at1 o x = 0) : Exec PP T none x4.nt 0 LX4 (SM4 n m k zl q c z o v hl x) .n (SM4 n m k zl q c z o v hl (x + 1)) := by
  refine exec_prun env0 [(254, true), (261, false)] false 60 [0, 1, 2, 3] (by kernel_rfl) (by kernel_rfl) (by kernel_rfl) ?_
  rw [(show obOf (prun [(254, true), (261, false)] g0 false 60 LX4 (SM4 n m k zl q c z o v hl x)) = (decide (Int.ofNat x < Int.ofNat hl) == true && true && true && (decide (0 ≤ Int.ofNat x) && decide (Int.ofNat x < Int.ofNat hl) && (decide (0 + (0 + x) * 1 < o.length) && ((o.getD (0 + (0 + x) * 1) 0 != 0) == false && true)) && true && (rng64 (Int.ofNat x.succ) && true))) from by kernel_rfl)]
  unfold at1 at h
  simp only [h]
  simp [rng64_eq, ho]
  omega
theorem tdxx {n m k zl v hl : Nat} {q c z o : List Int}  : Exec PP T none x4.nt 0 LX4.a (SM4 n m k zl q c z o v hl hl) (.x 12) (SV4 n m k zl q c z v) := by
  refine exec_prun env0 [(254, false)] false 60 [0, 1, 2] (by kernel_rfl) (by kernel_rfl) (by kernel_rfl) ?_
  rw [(show obOf (prun [(254, false)] g0 false 60 LX4.a (SM4 n m k zl q c z o v hl hl)) = (decide (Int.ofNat hl < Int.ofNat hl) == false && true && true) from by kernel_rfl)]
  all_goals (first | rfl | (simp; done) | (simp; omega) | (simp [rng64]; done) | (simp [rng64]; omega) | (simp [rng64_eq]; omega))
theorem tdz   : Exec PP T none x4.nt 0 U4.b.b.b.b (mkSt [] [] 0 []) .r (RB 4 true) := by
  refine exec_orun envth4 false 60 [] [] (fun _ => rfl) (by kernel_rfl) (by kernel_rfl) (by kernel_rfl) ?_
  rw [(show obOf (orun gth4 false 60 U4.b.b.b.b (mkSt [] [] 0 []) []) = (true) from by kernel_rfl)]
  all_goals (first | rfl | (simp; done) | (simp; omega) | (simp [rng64]; done) | (simp [rng64]; omega) | (simp [rng64_eq]; omega))
end Go.Proofs.Yteekkjfjpoaihaa.Eng
namespace Go.Proofs.Yteekkjfjpoaihaa.Eng
open Go Go.Proofs
def cN4 (n : Nat) (q : List Int) (m : Nat) : Nat := hgF (orderF (Int.ofNat n) q m) n (topF (orderF (Int.ofNat n) q m) n) + 1
def hiY (y : List Int) : Nat → Int
  | 0 => 0
  | i + 1 => max (hiY y i) (at1 y i)
def conB (q : List Int) (m v : Nat) : Nat → Bool
  | 0 => true
  | w + 1 => conB q m v w && (Nat.beq v w || relQ q m (Int.ofNat v) (Int.ofNat w))
def conOk (n : Nat) (q : List Int) (m : Nat) (z : List Int) (k v : Nat) : Bool := !(conB q m v n) || ((inT [(1, [1])] (Int.ofNat n) z || inT tabX (Int.ofNat n) z) && inT ((1, [1]) :: tabX) (Int.ofNat n) z && Nat.beq (holV z).length k)
def tailT (n : Nat) (q : List Int) (m k : Nat) (c z t : List Int) (tl : Nat) (s : List Int) : Bool :=
  cMd [.int (Int.ofNat n), .sl 1 c c.length] && cMd [.int (Int.ofNat n), .sl 1 (chV t tl n) (chV t tl n).length] && inT tabC (Int.ofNat n) z && Nat.beq (cntV z).length (k + 1) && intsE z z.length s s.length && Nat.ble z.length 1000 && Nat.ble s.length 1000 && Nat.ble tl 1000 && (List.range n).all (conOk n q m z k)
def tail4 (n : Nat) (q : List Int) (m : Nat) : Bool :=
  ordC (Int.ofNat n) q m && decide (orderE (Int.ofNat n) q m = 0) && Nat.beq (lqF (orderF (Int.ofNat n) q m) n n).length n && decide (hiY (lqF (orderF (Int.ofNat n) q m) n n) n = Int.ofNat (cN4 n q m) - 1) && Nat.ble (cN4 n q m) 1000 &&
  ((turY (Int.ofNat n) q m && tailT n q m (cN4 n q m) (chV q m n) (mdL (chV q m n)) (flat (turL (Int.ofNat n) q m)) (turL (Int.ofNat n) q m).length (mdL (chV (flat (turL (Int.ofNat n) q m)) (turL (Int.ofNat n) q m).length n))) ||
   (turN (Int.ofNat n) q m && tailT n q m (cN4 n q m) (chV q m n) (mdL (chV q m n)) [] 0 (mdL (chV [] 0 n))))
abbrev z4tn (n m k : Nat) : List (Nat × Slot) := [(15, lsS 3 0), (0, iS n), (5, lsS 0 m), (11, s1S 1 k), (12, iS 0), (13, s1S 2 n), (14, iS 0), (16, iS 0)]
theorem tddw {n m k : Nat} {q c y : List Int} : Weak T 0 (mkSt (z4tn n m k) [ivO q, lO c, lO y, ivO []] 4 []) (mkSt (z4t n m k 0) [ivO q, lO c, lO y, ivO []] 4 []) :=
  weak_mk (ids := [0, 1, 2, 3]) (by kernel_rfl) (fun p hp => by
    simp only [z4t, z4y, z4c, List.cons_append, List.nil_append, List.mem_cons, List.not_mem_nil, or_false] at hp
    rcases hp with rfl | rfl | rfl | rfl | rfl | rfl | rfl | rfl <;> rfl) (fun j h hj => by
    match j, hj with
    | 0, hj => cases hj; rfl
    | 1, hj => cases hj; rfl
    | 2, hj => cases hj; rfl
    | 3, hj => cases hj; rfl
    | j + 4, hj => simp at hj) rfl (fun j hj => by cases hj)
theorem tddN {n m k : Nat} {q c y : List Int} (hq : q.length = m * 2) (hm : m ≤ 1000) (h : turN (Int.ofNat n) q m = true) : Exec PP T none x4.nt 0 U2.b.b.b.a (mkSt (z4y n m k) [ivO q, lO c, lO y] 3 []) .n (mkSt (z4t n m k 0) [ivO q, lO c, lO y, ivO []] 4 []) :=
  ((tddq hq hm h).post (weak_nil 15 38 .i64 2 rfl rfl rfl)).post tddw
theorem coneL {n m k zl v : Nat} {q c z : List Int} (hq : q.length = m * 2) (hm : m ≤ 1000) (hn : n ≤ 5) : Exec PP T none x4.nt 0 XV4.b.a (ST4 n m k zl q c z v true) .n (ST4 n m k zl q c z v (conB q m v n)) := by
  refine exec_seq (x := XV4.b.a.a) (y := XV4.b.a.b) tdp (exec_block (id := 10) (x := .loop LW4) (e := .x 10) ?_)
  refine exec_loop_up (fun w => SW4 n m k zl q c z v (conB q m v w) w) n (fun w hw => ?_) (exec_seq_x (x := LW4.a) (y := LW4.b) tdqx (by simp)) (by simp) 0 (by omega)
  refine exec_seq (x := LW4.a) (y := LW4.b) (tdq hw) (exec_seq (x := LW4.b.a) (y := LW4.b.b) (S1 := SW4 n m k zl q c z v (conB q m v (w + 1)) w) (exec_block (id := 11) (x := LW4.b.a.i) (e := .n) ?_) (tdqe (by omega)))
  show Exec _ _ _ _ _ _ _ _ (SW4 n m k zl q c z v (conB q m v w && (Nat.beq v w || relQ q m (Int.ofNat v) (Int.ofNat w))) w)
  cases conB q m v w with
  | false => exact tdr1
  | true =>
    by_cases hv : v = w
    · subst hv
      rw [show Nat.beq v v = true from Nat.beq_refl v]
      exact tdr2
    · rw [show Nat.beq v w = false from Bool.eq_false_iff.2 fun h2 => hv (Nat.eq_of_beq_eq_true h2), Bool.false_or, Bool.true_and]
      cases hr : relQ q m (Int.ofNat v) (Int.ofNat w) with
      | false => exact tdr4 hq hm hv hr
      | true => exact tdr3 hq hm hv hr
theorem coneW {n m k zl v : Nat} {q c z : List Int} (hq : q.length = m * 2) (hm : m ≤ 1000) (hn : n ≤ 5) (hz : z.length = zl) (hzl : zl ≤ 1000) (hk : k ≤ 1000) (hv : v < n) (h : conOk n q m z k v = true) : Exec PP T none x4.nt 0 LV4 (SV4 n m k zl q c z v) .n (SV4 n m k zl q c z (v + 1)) := by
  refine exec_seq (x := LV4.a) (y := LV4.b) (tdn hv) (exec_seq (x := LV4.b.a) (y := LV4.b.b) (S1 := SV4 n m k zl q c z v) ?_ (tdne (by omega)))
  have hc := coneL (k := k) (zl := zl) (v := v) (c := c) (z := z) hq hm hn
  unfold conOk at h
  cases hb : conB q m v n with
  | false =>
    rw [hb] at hc
    exact exec_block (id := 9) (x := XV4) (e := .x 9) (exec_seq (x := XV4.a) (y := XV4.b) tdo (exec_seq (x := XV4.b.a) (y := XV4.b.b) hc (exec_seq_x (x := XV4.b.b.a) (y := XW4) tdsx (by simp))))
  | true =>
    rw [hb] at hc h
    simp only [Bool.not_true, Bool.false_or, Bool.and_eq_true] at h
    obtain ⟨⟨h1, h2⟩, h3⟩ := h
    have h3 := Nat.eq_of_beq_eq_true h3
    have ht : Exec PP T none x4.nt 0 XW4.a (SV4 n m k zl q c z v) .n (mkSt (sc4 n m k zl v) [ivO q, lO c, lO z] 3 []) := by
      rcases Bool.or_eq_true_iff.1 h1 with h1 | h1
      · exact tdt1 hz hzl h1
      · exact tdt2 hz hzl h1
    have hu := tdu (m := m) (k := k) (v := v) (q := q) (c := c) hz hzl h2
    rw [take_all1 (by omega)] at hu
    have hl : Exec PP T none x4.nt 0 XW4.b.b.b (SL4 n m k zl q c z (holV z) v (holV z).length) .n (SV4 n m k zl q c z v) := by
      refine exec_seq (x := XW4.b.b.b.a) (y := XW4.b.b.b.b) tdw (exec_block (id := 12) (x := .loop LX4) (e := .x 12) ?_)
      refine exec_loop_up (fun x => SM4 n m k zl q c z (holV z) v (holV z).length x) (holV z).length (fun x hx => tdx rfl (by omega) hx ?_) (exec_seq_x (x := LX4.a) (y := LX4.b) tdxx (by simp)) (by simp) 0 (by omega)
      unfold at1 holV
      generalize mxP z = e
      simp only [List.getD_eq_getElem?_getD, List.getElem?_replicate]
      split <;> rfl
    exact exec_block (id := 9) (x := XV4) (e := .n) (exec_seq (x := XV4.a) (y := XV4.b) tdo (exec_seq (x := XV4.b.a) (y := XV4.b.b) hc (exec_seq (x := XV4.b.b.a) (y := XW4) tds (exec_seq (x := XW4.a) (y := XW4.b) ht (exec_seq (x := XW4.b.a) (y := XW4.b.b) hu (exec_seq (x := XW4.b.b.a) (y := XW4.b.b.b) (tdv h3) hl))))))
theorem tailTW {n m k tl : Nat} {q t c y : List Int} (hn : n ≤ 5) (hq : q.length = m * 2) (hm : m ≤ 1000) (ht : t.length = tl * 2) (hk : k ≤ 1000) (hy : y.length = n) (hh : hiY y n = Int.ofNat k - 1) (ho : orderE (Int.ofNat n) q m = 0)
    (h : tailT n q m k (chV q m n) (mdL (chV q m n)) t tl (mdL (chV t tl n)) = true) : Exec PP T none x4.nt 0 U3 (mkSt (z4t n m k tl) [ivO q, lO c, lO y, ivO t] 4 []) .r (RB 4 true) := by
  unfold tailT at h
  simp only [Bool.and_eq_true] at h
  obtain ⟨⟨⟨⟨⟨⟨⟨⟨h1, h2⟩, h3⟩, h4⟩, h5⟩, h6⟩, h7⟩, h8⟩, h9⟩ := h
  have h4 := Nat.eq_of_beq_eq_true h4
  have h6 := Nat.le_of_ble_eq_true h6
  have h7 := Nat.le_of_ble_eq_true h7
  have h8 := Nat.le_of_ble_eq_true h8
  have he := tde (k := k) (tl := tl) (c := c) (y := y) (t := t) hq hm hn h1
  rw [take_all2 hq, take_all1 (Nat.mul_one _).symm] at he
  have hf := tdf (m := m) (k := k) (zl := (mdL (chV q m n)).length) (q := q) (c := c) (y := y) (z := mdL (chV q m n)) ht h8 hn h2
  rw [take_all2 ht, take_all1 (Nat.mul_one _).symm] at hf
  generalize mdL (chV q m n) = z at *
  generalize mdL (chV t tl n) = s at *
  have hg := tdg (k := k) (tl := tl) (zl := z.length) (sl := s.length) (c := c) (y := y) (t := t) (z := z) (s := s) hq hm ho
  have hc := tdh (m := m) (k := k) (sl := s.length) (q := q) (c := c) (y := y) (s := s) rfl h3 h6
  rw [take_all1 (Nat.mul_one _).symm] at hc
  have hhi : Exec PP T none x4.nt 0 U4.b.a (SI4h n m k z.length s.length (cntV z).length q c y z s (cntV z) 0) .n (SI4h n m k z.length s.length (cntV z).length q c y z s (cntV z) (hiY y n)) := by
    refine exec_seq (x := U4.b.a.a) (y := U4.b.a.b) tdj (exec_block (id := 6) (x := .loop LH4) (e := .x 6) ?_)
    exact exec_loop_up (fun i => SH4 n m k z.length s.length (cntV z).length q c y z s (cntV z) (hiY y i) i) n (fun i hi => tdk hy (by omega) hi) (exec_seq_x (x := LH4.a) (y := LH4.b) tdkx (by simp)) (by simp) 0 (by omega)
  have hl := tdl (n := n) (m := m) (q := q) (c := c) (y := y) (ct := cntV z) rfl rfl h4 hh hk h6 h7 h5
  have hv : Exec PP T none x4.nt 0 U4.b.b.b.a (SB4 n m k z.length q c z) .n (mkSt [] [] 0 []) := by
    refine exec_seq (x := U4.b.b.b.a.a) (y := U4.b.b.b.a.b) tdm (exec_block (id := 8) (x := .loop LV4) (e := .x 8) ?_)
    exact exec_loop_up (fun v => SV4 n m k z.length q c z v) n (fun v hv => coneW hq hm hn rfl h6 hk hv (List.all_eq_true.1 h9 v (List.mem_range.2 hv))) (exec_seq_x (x := LV4.a) (y := LV4.b) tdnx (by simp)) (by simp) 0 (by omega)
  exact exec_seq (x := U3.a) (y := U3.b) he (exec_seq (x := U3.b.a) (y := U3.b.b) hf (exec_seq (x := U3.b.b.a) (y := U3.b.b.b) hg (exec_seq (x := U3.b.b.b.a) (y := U4) hc (exec_seq (x := U4.a) (y := U4.b) tdi (exec_seq (x := U4.b.a) (y := U4.b.b) hhi (exec_seq (x := U4.b.b.a) (y := U4.b.b.b) hl (exec_seq (x := U4.b.b.b.a) (y := U4.b.b.b.b) hv tdz)))))))
theorem tailW {n m : Nat} {q : List Int} (hn : n ≤ 5) (hq : q.length = m * 2) (hm : m ≤ 1000) (h : tail4 n q m = true) : Exec PP T none x4.nt 0 U2.b (Q4 n m q) .r (RB 4 true) := by
  unfold tail4 at h
  simp only [Bool.and_eq_true, decide_eq_true_eq] at h
  obtain ⟨⟨⟨⟨⟨h1, h2⟩, h3⟩, h4⟩, h5⟩, h6⟩ := h
  have h3 := Nat.eq_of_beq_eq_true h3
  have h5 := Nat.le_of_ble_eq_true h5
  have hb := tdb hq hm h1
  rw [take_all2 hq] at hb
  have hc := tdc (k := cN4 n q m) (c := chainF (orderF (Int.ofNat n) q m) n) hq hm h1
  rw [take_all2 hq] at hc
  refine exec_seq (x := U2.b.a) (y := U2.b.b) hb (exec_seq (x := U2.b.b.a) (y := U2.b.b.b) hc ?_)
  rcases Bool.or_eq_true_iff.1 h6 with h6 | h6
  · obtain ⟨g1, g2⟩ := Bool.and_eq_true_iff.1 h6
    have hd := tddY (k := cN4 n q m) (c := chainF (orderF (Int.ofNat n) q m) n) (y := lqF (orderF (Int.ofNat n) q m) n n) hq hm g1
    rw [take_all2 hq] at hd
    exact exec_seq (x := U2.b.b.b.a) (y := U3) hd (tailTW hn hq hm (flat_len _) h5 h3 h4 h2 g2)
  · obtain ⟨g1, g2⟩ := Bool.and_eq_true_iff.1 h6
    exact exec_seq (x := U2.b.b.b.a) (y := U3) (tddN hq hm g1) (tailTW hn hq hm rfl h5 h3 h4 h2 g2)
/-- the run from the edges on -/
theorem restW {n m f m' : Nat} {q q' : List Int} (hn : n ≤ 5) (hq : q.length = m * 2) (hm : m ≤ 1000) (hc : oL f q m = some (q', m')) (h : tail4 n (srtV q' m') (srtN q' m') = true) : Exec PP T none x4.nt 0 x4.body.b.b.b (Q4 n m q) .r (RB 4 true) := by
  obtain ⟨g1, g2, g3⟩ := closeW (n := n) hq hm hc
  have ha := tda (n := n) g1 g2
  rw [take_all2 g1] at ha
  obtain ⟨k1, k2⟩ := srt_len q' m'
  exact exec_seq (x := U0) (y := U2) g3 (exec_seq (x := U2.a) (y := U2.b) ha (tailW hn k1 (by show (srt q' m').2 ≤ 1000; omega) h))
end Go.Proofs.Yteekkjfjpoaihaa.Eng
namespace Go.Proofs.Yteekkjfjpoaihaa.Eng
open Go Go.Proofs
def tlOk (n t : Nat) : Bool := !(trM t) || tail4 n (lstM t) (cntM t)
theorem tlOk1 : allP 0 (tlOk 1) 0 = true := by kernel_rfl
theorem tlOk2 : allP 1 (tlOk 2) 0 = true := by kernel_rfl
theorem tlOk3 : allP 3 (tlOk 3) 0 = true := by kernel_rfl
end Go.Proofs.Yteekkjfjpoaihaa.Eng
namespace Go.Proofs.Yteekkjfjpoaihaa.Eng
open Go Go.Proofs
theorem tlOk4 : allP 6 (tlOk 4) 0 = true := by kernel_rfl
theorem tlOk5_0 : allP 6 (tlOk 5) 0 = true := by kernel_rfl
theorem tlOk5_1 : allP 6 (tlOk 5) 1 = true := by kernel_rfl
theorem tlOk5_2 : allP 6 (tlOk 5) 2 = true := by kernel_rfl
theorem tlOk5_3 : allP 6 (tlOk 5) 3 = true := by kernel_rfl
end Go.Proofs.Yteekkjfjpoaihaa.Eng
namespace Go.Proofs.Yteekkjfjpoaihaa.Eng
open Go Go.Proofs
theorem tlOk5_4 : allP 6 (tlOk 5) 4 = true := by kernel_rfl
theorem tlOk5_5 : allP 6 (tlOk 5) 5 = true := by kernel_rfl
theorem tlOk5_6 : allP 6 (tlOk 5) 6 = true := by kernel_rfl
theorem tlOk5_7 : allP 6 (tlOk 5) 7 = true := by kernel_rfl
end Go.Proofs.Yteekkjfjpoaihaa.Eng
namespace Go.Proofs.Yteekkjfjpoaihaa.Eng
open Go Go.Proofs
theorem tlOk5_8 : allP 6 (tlOk 5) 8 = true := by kernel_rfl
theorem tlOk5_9 : allP 6 (tlOk 5) 9 = true := by kernel_rfl
theorem tlOk5_10 : allP 6 (tlOk 5) 10 = true := by kernel_rfl
theorem tlOk5_11 : allP 6 (tlOk 5) 11 = true := by kernel_rfl
end Go.Proofs.Yteekkjfjpoaihaa.Eng
namespace Go.Proofs.Yteekkjfjpoaihaa.Eng
open Go Go.Proofs
theorem tlOk5_12 : allP 6 (tlOk 5) 12 = true := by kernel_rfl
theorem tlOk5_13 : allP 6 (tlOk 5) 13 = true := by kernel_rfl
theorem tlOk5_14 : allP 6 (tlOk 5) 14 = true := by kernel_rfl
theorem tlOk5_15 : allP 6 (tlOk 5) 15 = true := by kernel_rfl
end Go.Proofs.Yteekkjfjpoaihaa.Eng
namespace Go.Proofs.Yteekkjfjpoaihaa.Eng
open Go Go.Proofs
/-- parts of a range, put together -/
theorem allP_join {f : Nat → Bool} : ∀ {k s : Nat}, allP k f (2 * s) = true → allP k f (2 * s + 1) = true → allP (k + 1) f s = true := fun h1 h2 => by
  simp only [allP, h1, h2, Bool.and_self]
theorem insOk_all : allP 10 insOk 0 = true :=
  allP_join (allP_join (allP_join insOk_0 insOk_1) (allP_join insOk_2 insOk_3)) (allP_join (allP_join insOk_4 insOk_5) (allP_join insOk_6 insOk_7))
theorem clOk_all : allP 10 clOk 0 = true :=
  allP_join (allP_join (allP_join (allP_join clOk_0 clOk_1) (allP_join clOk_2 clOk_3)) (allP_join (allP_join clOk_4 clOk_5) (allP_join clOk_6 clOk_7))) (allP_join (allP_join (allP_join clOk_8 clOk_9) (allP_join clOk_10 clOk_11)) (allP_join (allP_join clOk_12 clOk_13) (allP_join clOk_14 clOk_15)))
theorem tlOk5 : allP 10 (tlOk 5) 0 = true :=
  allP_join (allP_join (allP_join (allP_join tlOk5_0 tlOk5_1) (allP_join tlOk5_2 tlOk5_3)) (allP_join (allP_join tlOk5_4 tlOk5_5) (allP_join tlOk5_6 tlOk5_7))) (allP_join (allP_join (allP_join tlOk5_8 tlOk5_9) (allP_join tlOk5_10 tlOk5_11)) (allP_join (allP_join tlOk5_12 tlOk5_13) (allP_join tlOk5_14 tlOk5_15)))
/-- how many pairs there are -/
def kM (n : Nat) : Nat := n * (n - 1) / 2
theorem tl_all {n t : Nat} (h1 : 1 ≤ n) (h5 : n ≤ 5) (ht : t < 2 ^ kM n) (htr : trM t = true) : tail4 n (lstM t) (cntM t) = true := by
  have h : tlOk n t = true := by
    match n, h1, h5, ht with
    | 1, _, _, ht => exact allP_lt tlOk1 ht
    | 2, _, _, ht => exact allP_lt tlOk2 ht
    | 3, _, _, ht => exact allP_lt tlOk3 ht
    | 4, _, _, ht => exact allP_lt tlOk4 ht
    | 5, _, _, ht => exact allP_lt tlOk5 ht
  unfold tlOk at h
  rw [htr] at h
  simpa using h
theorem kM_le {n : Nat} (h1 : 1 ≤ n) (h5 : n ≤ 5) : 2 ^ kM n ≤ 1024 := by
  match n, h1, h5 with
  | 1, _, _ => decide
  | 2, _, _ => decide
  | 3, _, _ => decide
  | 4, _, _ => decide
  | 5, _, _ => decide
/-- a closure of a set of pairs of n nodes -/
theorem cl_all {n s : Nat} (h1 : 1 ≤ n) (h5 : n ≤ 5) (hs : s < 2 ^ kM n) : ∃ q m, oL 12 (lstM s) (cntM s) = some (q, m) ∧ tail4 n (srtV q m) (srtN q m) = true ∧ cntM s ≤ 10 := by
  have h := allP_lt clOk_all (t := s) (by have := kM_le h1 h5; omega)
  unfold clOk at h
  cases hc : oL 12 (lstM s) (cntM s) with
  | none => rw [hc] at h; cases h
  | some r =>
    obtain ⟨q, m⟩ := r
    rw [hc] at h
    simp only [Bool.and_eq_true, beq_iff_eq, lesM, Bool.or_eq_true, Bool.not_eq_true'] at h
    obtain ⟨⟨⟨g1, g2⟩, ⟨⟨⟨⟨l1, l2⟩, l3⟩, l4⟩, l5⟩⟩, g3⟩ := h
    refine ⟨q, m, rfl, ?_, Nat.le_of_ble_eq_true g3⟩
    have e1 : srtV q m = lstM (mskM q m) := by unfold srtV; rw [g1]
    have e2 : srtN q m = cntM (mskM q m) := by unfold srtN; rw [g1]
    rw [e1, e2]
    have nb : ∀ {k : Nat}, (Nat.blt s k = false ∨ Nat.blt (mskM q m) k = true) → s < k → mskM q m < k := fun h hk => by
      rcases h with h | h
      · rw [blt_iff.2 hk] at h; cases h
      · exact blt_iff.1 h
    refine tl_all h1 h5 ?_ g2
    match n, h1, h5, hs with
    | 1, _, _, hs => exact nb l1 hs
    | 2, _, _, hs => exact nb l2 hs
    | 3, _, _, hs => exact nb l3 hs
    | 4, _, _, hs => exact nb l4 hs
    | 5, _, _, hs => exact blt_iff.1 l5
/-- a pair's bit lies among those of n nodes -/
theorem bit_lt {n : Nat} (h5 : n ≤ 5) : ∀ a b : Nat, a < b → b < n → ∃ p ∈ prsM, p.1 = a ∧ p.2.1 = b ∧ p.2.2 < kM n := by
  have key : ∀ n, n < 6 → ∀ a, a < 5 → ∀ b, b < 5 → a < b → b < n → (prsM.any fun p => decide (p.1 = a) && decide (p.2.1 = b) && decide (p.2.2 < kM n)) = true := by decide
  intro a b hab hb
  obtain ⟨p, hp, h⟩ := List.any_eq_true.1 (key n (by omega) a (by omega) b (by omega) hab hb)
  simp only [Bool.and_eq_true, decide_eq_true_eq] at h
  exact ⟨p, hp, h.1.1, h.1.2, h.2⟩
theorem ins_all {n s : Nat} {a b : Int} (h1 : 1 ≤ n) (h5 : n ≤ 5) (hs : s < 2 ^ kM n) (ha : 0 ≤ a) (hab : a ≤ b) (hb : b < Int.ofNat n) : ∃ s', s' < 2 ^ kM n ∧ insP (lstM s, cntM s) a b = (lstM s', cntM s') := by
  by_cases he : a = b
  · refine ⟨s, hs, ?_⟩
    unfold insP
    rw [show (a == b) = true from by rw [he]; exact beq_self_eq_true b]
    rfl
  · obtain ⟨x, rfl⟩ : ∃ x : Nat, a = Int.ofNat x := ⟨a.toNat, by simp; omega⟩
    obtain ⟨y, rfl⟩ : ∃ y : Nat, b = Int.ofNat y := ⟨b.toNat, by simp; omega⟩
    simp only [Int.ofNat_eq_natCast] at ha hab hb he
    obtain ⟨p, hp, e1, e2, e3⟩ := bit_lt h5 x y (by omega) (by omega)
    have h := allP_lt insOk_all (t := s) (by have := kM_le h1 h5; omega)
    unfold insOk at h
    have := List.all_eq_true.1 h p hp
    rw [e1, e2] at this
    refine ⟨Nat.lor s (2 ^ p.2.2), ?_, eq_of_beq this⟩
    exact Nat.or_lt_two_pow hs (Nat.pow_lt_pow_right (by decide) e3)
/-- the pairs of a list of numbers below n, put in order, are a set of pairs of n nodes -/
theorem srt_all {n : Nat} {q : List Int} (h1 : 1 ≤ n) (h5 : n ≤ 5) (h : ∀ i, (0 ≤ ra q i ∧ ra q i < Int.ofNat n) ∧ 0 ≤ rb q i ∧ rb q i < Int.ofNat n) : ∀ m, ∃ s, s < 2 ^ kM n ∧ srt q m = (lstM s, cntM s)
  | 0 => ⟨0, Nat.pos_of_ne_zero (by simp), rfl⟩
  | m + 1 => by
    obtain ⟨s, h2, h3⟩ := srt_all h1 h5 h m
    obtain ⟨⟨i1, i2⟩, i3, i4⟩ := h m
    show ∃ s, _ ∧ insP (srt q m) _ _ = _
    rw [h3]
    exact ins_all h1 h5 h2 (by omega) (by omega) (by omega)
theorem egL_rng {n : Nat} {q : List Int} (h1 : 1 ≤ n) (h5 : n ≤ 5) : ∀ m, ∀ x ∈ egL n q m, 0 ≤ x ∧ x < Int.ofNat n
  | 0, x, hx => by cases hx
  | m + 1, x, hx => by
    simp only [egL, List.mem_append, List.mem_cons, List.not_mem_nil, or_false] at hx
    rcases hx with hx | rfl | rfl
    · exact egL_rng h1 h5 m x hx
    · exact umod_rng _ h1 (by omega)
    · exact umod_rng _ h1 (by omega)
theorem getD_rng {n : Nat} {l : List Int} (h1 : 1 ≤ n) (h : ∀ x ∈ l, 0 ≤ x ∧ x < Int.ofNat n) (i : Nat) : 0 ≤ l.getD i 0 ∧ l.getD i 0 < Int.ofNat n := by
  rw [List.getD_eq_getElem?_getD]
  cases he : l[i]? with
  | none => simp; omega
  | some x => exact h x (List.mem_of_getElem? he)
theorem edg_all {n m : Nat} {q : List Int} (h1 : 1 ≤ n) (h5 : n ≤ 5) : ∃ s, s < 2 ^ kM n ∧ egV n q m = lstM s ∧ egN n q m = cntM s := by
  obtain ⟨s, h2, h3⟩ := srt_all (q := egL n q (min m 40)) h1 h5 (fun i => ⟨getD_rng h1 (egL_rng h1 h5 _) _, getD_rng h1 (egL_rng h1 h5 _) _⟩) (min m 40)
  obtain ⟨_, _, _, _, h4⟩ := cl_all h1 h5 h2
  have hl := (srt_len (egL n q (min m 40)) (min m 40)).1
  rw [h3] at hl
  have e1 : srtN (egL n q (min m 40)) (min m 40) = cntM s := by unfold srtN; rw [h3]
  have e2 : srtV (egL n q (min m 40)) (min m 40) = lstM s := by unfold srtV; rw [h3]
  have e3 : egN n q m = cntM s := by unfold egN; rw [e1]; omega
  refine ⟨s, h2, ?_, e3⟩
  unfold egV
  rw [e3, e2]
  exact take2 hl
/-- the whole run -/
theorem body4 {x : Int} {q : List Int} {m : Nat} (hq : q.length = m * 2) : Exec PP T none x4.nt 0 x4.body (startSt (A40 x m) (H1 q)) .r (RB 4 true) := by
  obtain ⟨n, hn, h1, h5⟩ : ∃ n : Nat, 1 + umod x (4 + 1) = Int.ofNat n ∧ 1 ≤ n ∧ n ≤ 5 := by
    have h1 : 0 ≤ umod x (4 + 1) ∧ umod x (4 + 1) < 5 := umod_rng x (k := 5) (by decide) (by decide)
    generalize umod x (4 + 1) = e at *
    exact ⟨(1 + e).toNat, by simp; omega, by omega, by omega⟩
  have hb := tcb (n := x) (q := q) (m := m)
  rw [hn] at hb
  have hc := tcc (n := n) hq ⟨h1, h5⟩
  rw [take_all2 hq] at hc
  obtain ⟨s, h2, h3, h4⟩ := edg_all (n := n) (m := m) (q := q) h1 h5
  obtain ⟨q', m', h6, h7, h8⟩ := cl_all h1 h5 h2
  have hl : (lstM s).length = cntM s * 2 := by
    unfold lstM cntM
    generalize selM s = l
    induction l with
    | nil => rfl
    | cons p l ih => simp only [List.flatMap_cons, List.length_append, List.length_cons, List.length_nil, ih]; omega
  rw [h3, h4] at hc
  exact exec_seq (x := x4.body.a) (y := x4.body.b) tca (exec_seq (x := x4.body.b.a) (y := x4.body.b.b) hb (exec_seq (x := x4.body.b.b.a) (y := x4.body.b.b.b) hc (restW h5 hl (by omega) h6 h7)))
end Go.Proofs.Yteekkjfjpoaihaa.Eng
namespace Go.Proofs.Yteekkjfjpoaihaa.Eng
open Go Go.Proofs Go.ChangeShapes Go.WideShapes Go.ChangeAt Go.RowKit
theorem cells38 : PP.cellsOf 38 = 2 := by kernel_rfl
theorem cells3 : PP.cellsOf 3 = 1 := by kernel_rfl
theorem cells_two {W : World} {b off : Nat} {cs : List Value} (h : W.cells? 0 ⟨b, off, none⟩ 2 = some cs) : ∃ c d, cs = [c, d] ∧ W.cell? ⟨b, off, none⟩ = some c ∧ W.cell? ⟨b, off + 1, none⟩ = some d := by
  have e0 : (⟨b, off, none⟩ : Addr).add 0 = ⟨b, off, none⟩ := rfl
  have e1 : (⟨b, off, none⟩ : Addr).add 1 = ⟨b, off + 1, none⟩ := rfl
  simp only [World.cells?, Nat.zero_le, if_true, show List.range 2 = [0, 1] from rfl, List.mapM_cons, List.mapM_nil, e0, e1, Option.bind_eq_bind] at h
  cases h0 : W.cell? ⟨b, off, none⟩ with
  | none => simp [h0] at h
  | some c =>
    cases h1 : W.cell? ⟨b, off + 1, none⟩ with
    | none => simp [h0, h1] at h
    | some d =>
      simp [h0, h1] at h
      exact ⟨c, d, h.symm, rfl, rfl⟩
section
variable {H : Type} {enc : TypeId × Value → H} {W : World} {base : Nat}
set_option maxRecDepth 100000 in
/-- two ints in a row, out of a reading of [2]int -/
theorem two_ints {n : Nat} {c d : Value} {x : DataW H × List MemPlace} (h : DataW.trod enc PP W 0 (fun _ => true) true n 38 [c, d] = some x) : ∃ u v : Int, c = .int .i64 u ∧ d = .int .i64 v := by
  obtain ⟨xs, m, rfl, rfl, hl, hx, hi⟩ := DataW.trod_array Try.underlying38 h
  have h0 := hi 0 (by omega)
  have h1 := hi 1 (by omega)
  rw [cells3] at h0 h1
  match xs, hx with
  | [y0, y1], _ =>
    simp only [List.getElem?_cons_zero, List.getElem?_cons_succ] at h0 h1
    obtain ⟨u, e0, _⟩ := DataW.trod_int Try.underlying3 h0
    obtain ⟨v, e1, _⟩ := DataW.trod_int Try.underlying3 h1
    simp at e0 e1
    exact ⟨u, v, e0, e1⟩
set_option maxRecDepth 100000 in
theorem open_pairs {fuel : Nat} {a : Option Addr} {len cap : Nat} {x : DataW H × List MemPlace} (hv : Value.okWide PP W .any base 22 (.slice a len cap)) (h : DataW.trod enc PP W 0 (fun _ => true) true fuel 22 [.slice a len cap] = some x) :
    ∃ (mb : MB) (q : List Int), (∀ m', OR (compC T) m' mb (.xvec .i64 2 q) W) ∧ (∀ b, mb.b = some b → b < W.heap.size) ∧ (∀ (m' : MM) id, m' id = some mb → SR m' (.sl id 0 2 len) (.slice a len cap)) ∧ q.length = len * 2 := by
  rcases DataW.trod_slice Try.underlying22 h with ⟨hcs, _⟩ | ⟨a', len', cap', elems, rest, n, _, hcs, _, _, hl, hm, hlen, hel, _, _⟩
  · simp at hcs
    obtain ⟨rfl, rfl, rfl⟩ := hcs
    exact ⟨⟨none, 0, 0⟩, [], fun m' => .inl ⟨rfl, rfl, rfl⟩, fun b hb => (by cases hb), fun m' id hm => ⟨_, hm, Nat.le_refl _, .inl ⟨rfl, rfl, rfl, rfl, rfl⟩⟩, rfl⟩
  · simp at hcs
    obtain ⟨rfl, rfl, rfl⟩ := hcs
    simp only [Value.okWide, Try.underlying22, Cell.okWide, Cell.ok] at hv
    obtain ⟨_, _, _, hspot, row, cells, hsh, _⟩ := hv
    obtain ⟨b, off, spot⟩ := a'
    simp only at hspot hsh
    subst hspot
    have hlt : b < W.heap.size := by
      unfold World.shape? at hsh
      split at hsh
      · rename_i hb
        exact (Array.getElem?_eq_some_iff.1 hb).1
      · cases hsh
    have hcell : ∀ j, j < len * 2 → ∃ u : Int, W.cell? ⟨b, off + j, none⟩ = some (.int .i64 u) := by
      intro j hj
      have he := hel (j / 2) (by omega)
      rw [cells38] at he
      have hi : j / 2 < elems.length := by omega
      rw [List.getElem?_eq_getElem hi, Option.bind_eq_some_iff] at he
      obtain ⟨cs, hc, ht⟩ := he
      have hadd : (⟨b, off, none⟩ : Addr).add (j / 2 * 2) = ⟨b, off + j / 2 * 2, none⟩ := by simp [Addr.add]
      rw [hadd] at hc
      obtain ⟨c, d, rfl, h0, h1⟩ := cells_two hc
      obtain ⟨u, v, rfl, rfl⟩ := two_ints ht
      by_cases hp : j % 2 = 0
      · exact ⟨u, by rw [show off + j = off + j / 2 * 2 by omega]; exact h0⟩
      · exact ⟨v, by rw [show off + j = off + j / 2 * 2 + 1 by omega]; exact h1⟩
    let g : Nat → Int := fun j => match W.cell? ⟨b, off + j, none⟩ with | some (.int _ u) => u | _ => 0
    refine ⟨⟨some b, off, cap⟩, (List.range (len * 2)).map g, fun m' => .inr ⟨b, rfl, fun j hj => ?_⟩, fun b' hb' => (by cases hb'; exact hlt), fun m' id hm => ⟨_, hm, by simpa using hl, .inr ⟨b, off, rfl, rfl, .inr (by simp)⟩⟩, by simp⟩
    simp at hj
    obtain ⟨u, hu⟩ := hcell j (by omega)
    show W.cell? ⟨b, off + j, none⟩ = _
    rw [hu]
    simp [hj, g, hu]
end
set_option maxRecDepth 100000 in
/-- a law whose body answers yes, over what came in -/
theorem calls_law {f : FuncId} {x : XFn} (hx : FunOK PP T f x) {m0 : MM} {hs : List HO} {args0 : List AV} {vals : List Value} {w : World} {t : Nat} (hview : RoView (compC T) m0 hs w) (hargs : All2 (AR m0) args0 vals) (hlen : Nat.ble args0.length x.nt = true)
    (hrun : Exec PP T none x.nt 0 x.body (startSt args0 hs) .r (RB t true)) (hres : x.res = [.t t]) : Calls PP f vals.toArray w fun e w' => e = .returned (.bool true) ∧ Below w.heap.size w w' := by
  obtain ⟨_, fn, hf, hxf⟩ := hx
  refine (callsIn_exec (kp := 0) (tv := B true) tokP hf hxf (Nat.le_of_ble_eq_true hlen) (fun t s => startSt_slot) rfl hrun (.inr rfl) rfl ?_ (hview.hrel args0) hargs fun v w' m1 _ hv hH1 => ?_ : CallsIn (FR none) 0 PP f vals.toArray w fun e w' => e = .returned (.bool true) ∧ Below w.heap.size w w').calls fun k => ?_
  · rw [hres]
    simp only [resV, resVs, resV1, evalX]
    have : (RB t true).sl.get t = some ⟨true, B true⟩ := by
      show alGet [(t, _)] t = _
      rw [alGet_cons, beqT rfl]
      rfl
    simp [this]
  · have hv : v = .bool true := hv
    subst hv
    exact ⟨rfl, hH1.os, hH1.tape, hH1.output, hH1.size, fun b hb => hH1.same0 b hb (fun h => h)⟩
  · exact fun _ h => (by cases h)
end Go.Proofs.Yteekkjfjpoaihaa.Eng
namespace Go.Proofs.Yteekkjfjpoaihaa
open Go.ChangeShapes Go.WideShapes Go.ChangeAt Go.RowKit
open Eng (open_pairs calls_law body4 mm1 ro1 H1 A40)
theorem topOwn : ownKnob Try.prog.godebug = none := by kernel_rfl
theorem topLaid : laidOutB Try.prog = true := by kernel_rfl
set_option maxRecDepth 100000 in
theorem top_lifted (os : Os) (started : os.Started) (H : Type) (enc : TypeId × Value → H) :
    ReturnsInHanded {} Try.checked os 4 .any (Rows.topChainsSpec.pre6 enc Try.prog Try.f4 Rows.topChainsRow.domain false) (Rows.topChainsSpec.post enc Try.prog Try.f4 false true false false) := by
  refine returnsInHanded_of_change (C := Try.checked) topOwn started (by kernel_rfl) Try.func4
    (ChangeSpec.witness6 (enc := enc) (C := Try.checked) false ⟨#[], #[.int .i64 0, .slice none 0 0], []⟩ 8 (by kernel_rfl) (by kernel_rfl) (by kernel_rfl) (by kernel_rfl)) ?_
  intro W base args ds gs before hval0 hW hcnd _
  have hval : ∀ (j : Nat) t v, Try.f4.params[j]? = some t → args[j]? = some v → Value.okWide Try.prog W .any base t v := hval0
  have hW' := hW
  obtain ⟨p, q, hA0, hV, rfl, hfz, hnd⟩ := hW
  have hA : DataW.TrodAll enc Try.prog W 0 (fun _ => true) true Try.f4.params.toList args.toList ds p := hA0
  rw [Try.params4] at hA hval
  obtain ⟨v0, v1, d0, d1, p0, p1, rfl, rfl, rfl, h0, h1⟩ := trodAll_two hA
  obtain ⟨rfl, rfl⟩ := trodVars_none hV
  have lt : ∀ {t v d p}, DataW.Trod enc Try.prog W 0 (fun _ => true) true t v d p → ∀ x ∈ p, x.block < W.heap.size := fun h x hx => by
    obtain ⟨m, hm⟩ := h
    exact DataW.trod_lt m _ _ _ hm x hx
  have k0 := h0
  have k1 := h1
  obtain ⟨n, rfl, rfl, rfl, _⟩ := open_int Try.underlying3 (hval 0 3 v0 rfl rfl) h0
  have ok1 := hval 1 22 v1 rfl rfl
  obtain ⟨a, len, cap, rfl⟩ := okWide_slice Try.underlying22 ok1
  obtain ⟨fuel, hf⟩ := h1
  simp only [Value.cells] at hf
  obtain ⟨mb, ql, r1, r2, r3, r4⟩ := open_pairs ok1 hf
  clear hA0 hval0
  have run : Calls Try.prog 4 #[.int .i64 n, .slice a len cap] W fun e w' => e = .returned (.bool true) ∧ Below W.heap.size W w' :=
    calls_law (vals := [.int .i64 n, .slice a len cap]) Eng.o4 (m0 := mm1 mb) (hs := H1 ql) (args0 := A40 n len) (t := 4) (ro1 r1 r2) ⟨rfl, r3 (mm1 mb) 0 rfl, trivial⟩ (by kernel_rfl) (body4 r4) (by kernel_rfl)
  refine run.mono fun e W' ⟨he, bel⟩ => ?_
  subst he
  exact ⟨_, rfl, _, _, _, [], _, [], hW', trodAll_mk1 (shut_bool Try.underlying4 _), (trodAll_cons_mk (Below.trod topLaid (by kernel_rfl) (of_decide_eq_true (by kernel_rfl)) k0 bel (lt k0)) (trodAll_cons_mk (Below.trod topLaid (by kernel_rfl) (of_decide_eq_true (by kernel_rfl)) k1 bel (lt k1)) trodAll_mk0)), rfl, bel.frame _, fun h => by cases h⟩
/-- the statement -/
theorem topChains_holds : Rows.TopChainsSaid :=
  OpenClaim.holds_of_wide 4 Try.f4 rfl rfl rfl rfl rfl rfl rfl ⟨rfl, rfl, rfl, rfl, rfl⟩ rfl rfl rfl rfl rfl (by kernel_rfl) Try.func4 (by kernel_rfl)
    (of_decide_eq_true (by kernel_rfl)) (by unfold Func.isWrapper; first | (rw [if_pos (by decide +kernel)]; kernel_rfl) | (rw [if_neg (by decide +kernel)]; exact ⟨rfl, rfl⟩))
    (fun os started H enc _ => top_lifted os started H enc)
end Go.Proofs.Yteekkjfjpoaihaa

/- OrdersOrders: whatever the int, the slice of pairs and the second int that are handed in, in whatever memory: the call answers true, and each argument reads behind it as it read before. No condition on the input. -/
import Derived.ProofKit
import Derived.OpenShut
import Derived.ChangeOld
import Derived.Below
import Derived.Test.YteekkjfjpoaihaaOo13
import Derived.Test.YteekkjfjpoaihaaOo22
set_option linter.all false
namespace Go.Proofs.Yteekkjfjpoaihaa.Eng
open Go Go.Proofs
noncomputable def Ln5 : List (Nat × Spec) := [(31, spRTurned), (14, pureS gSame), (32, spChn), (33, spInts)]
theorem Ln5_ok : SpecsL Ln5 := specsL_cons ok31 (genS_fp) o31 (specsL_cons ok14 (pureS_fp gSame_fp) o14 (specsL_cons ok32 (genS_fp) o32 (specsL_cons ok33 (genS_fp) o33 (fun p hp => absurd hp (by simp)))))
noncomputable abbrev gn5 : Cal → Option Spec := specsΓ Ln5
theorem envn5 : EnvOK PP T gn5 := envL Ln5_ok
noncomputable def Lo5 : List (Nat × Spec) := [(35, spRGraph), (34, spROthers)]
theorem Lo5_ok : SpecsL Lo5 := specsL_cons ok35 (genS_fp) o35 (specsL_cons ok34 (genS_fp) o34 (fun p hp => absurd hp (by simp)))
noncomputable abbrev go5 : Cal → Option Spec := specsΓ Lo5
theorem envo5 : EnvOK PP T go5 := envL Lo5_ok
noncomputable def Lp5 : List (Nat × Spec) := [(36, spRClash)]
theorem Lp5_ok : SpecsL Lp5 := specsL_cons ok36 (genS_fp) o36 (fun p hp => absurd hp (by simp))
noncomputable abbrev gp5 : Cal → Option Spec := specsΓ Lp5
theorem envp5 : EnvOK PP T gp5 := envL Lp5_ok
def turRL (n : Nat) (o : List Int) (l : Nat) : List (Int × Int) := listL (gg31 o l) n n
def graRL (n : Nat) (o : List Int) (l : Nat) : List (Int × Int) := listL (gg35 o l) n n
def othRL (n : Nat) (o : List Int) (l : Nat) : List (Int × Int) := listL (gg34 o l) n n
theorem n5Y {n l tl k : Nat} {o t c y w w' v : List Int} {e : Int} (ho : o.length = l * 2) (hl : l ≤ 1000) (hn : n ≤ 7) (ht : t.length = tl * 2) (htl : tl ≤ 1000) (hc : c.length = k * 1) (hk : k ≤ 1000) (hy : y.length = n * 1) (hv : v.length = n * 1) (h1 : sameP t tl (flat (turRL n o l)) (turRL n o l).length = true) (h2 : Int.ofNat k = e) (h3 : chainB (Int.ofNat n) o l c k = true) (h4 : intsE y n v n = true) : Exec PP T none x5.nt 0 Z5.b.b.b.a (E5Y n l tl k o t c y w w' v e) .n (K5Y n l tl k o t c y w w' v) := by
  refine exec_orun envn5 false 60 [true, false] [0, 1, 2, 3, 4, 5, 6, 7] (fun _ => rfl) (by kernel_rfl) (by kernel_rfl) (by kernel_rfl) ?_
  rw [(show obOf (orun gn5 false 60 Z5.b.b.b.a (E5Y n l tl k o t c y w w' v e) [true, false]) = ((fun b0_ : Bool => (fun b1_ : Bool => (fun b2_ : Bool => (fun b3_ : Bool => (fun b4_ : Bool => (fun b5_ : Bool => decide ((0 + l) * 2 ≤ o.length) && decide (l ≤ 1000000000) && true && (decide (0 ≤ Int.ofNat n) && decide (Int.ofNat n ≤ 7)) && true && true && (decide ((0 + tl) * 2 ≤ t.length) && (decide ((0 + (listL (gg31 (List.take (l * 2) (List.drop (0 * 2) o)) l) n n).length) * 2 ≤ (flat (listL (gg31 (List.take (l * 2) (List.drop (0 * 2) o)) l) n n)).length) && decide (tl ≤ 1000000000)) && ((!b5_ == false || true) && ((!b5_ == false || b5_ == false && true && true) && ((bif !sameP (List.take (tl * 2) t) tl (List.take ((listL (gg31 (List.take (l * 2) (List.drop (0 * 2) o)) l) n n).length * 2) (List.drop 0 (flat (listL (gg31 (List.take (l * 2) (List.drop (0 * 2) o)) l) n n)))) (listL (gg31 (List.take (l * 2) (List.drop (0 * 2) o)) l) n n).length then true else b5_ == false) && true && ((!b2_ == false || true) && ((!b2_ == false || b2_ == false && true && true) && ((!b2_ == false || true) && ((!b2_ == false || b2_ == false && (b2_ == false && true) && true) && ((bif bif !sameP (List.take (tl * 2) t) tl (List.take ((listL (gg31 (List.take (l * 2) (List.drop (0 * 2) o)) l) n n).length * 2) (List.drop 0 (flat (listL (gg31 (List.take (l * 2) (List.drop (0 * 2) o)) l) n n)))) (listL (gg31 (List.take (l * 2) (List.drop (0 * 2) o)) l) n n).length then true else false then true else b2_ == false) && true && ((!b1_ == false || true) && ((!b1_ == false || true) && ((!b1_ == false || true) && ((!b1_ == false || b1_ == false && (b1_ == false && (b1_ == false && true)) && (decide ((0 + l) * 2 ≤ o.length) && decide (l ≤ 1000000000) && (decide ((0 + k) * 1 ≤ c.length) && decide (k ≤ 1000000000) && true) && true)) && ((!b1_ == false || b1_ == false && true && true) && ((bif bif bif !sameP (List.take (tl * 2) t) tl (List.take ((listL (gg31 (List.take (l * 2) (List.drop (0 * 2) o)) l) n n).length * 2) (List.drop 0 (flat (listL (gg31 (List.take (l * 2) (List.drop (0 * 2) o)) l) n n)))) (listL (gg31 (List.take (l * 2) (List.drop (0 * 2) o)) l) n n).length then true else false then true else Int.ofNat k != e then true else b1_ == false) && true && ((!b4_ == false || true) && ((!b4_ == false || b4_ == false && true && true) && ((bif bif bif bif !sameP (List.take (tl * 2) t) tl (List.take ((listL (gg31 (List.take (l * 2) (List.drop (0 * 2) o)) l) n n).length * 2) (List.drop 0 (flat (listL (gg31 (List.take (l * 2) (List.drop (0 * 2) o)) l) n n)))) (listL (gg31 (List.take (l * 2) (List.drop (0 * 2) o)) l) n n).length then true else false then true else Int.ofNat k != e then true else !chainB (Int.ofNat n) (List.take (l * 2) o) l (List.take (k * 1) c) k then true else b4_ == false) && true && ((!b0_ == false || true) && ((!b0_ == false || true) && ((!b0_ == false || b0_ == false && (b0_ == false && true) && (decide ((0 + n) * 1 ≤ y.length) && decide (n ≤ 1000000000) && (decide ((0 + n) * 1 ≤ v.length) && decide (n ≤ 1000000000) && true) && true)) && ((!b0_ == false || b0_ == false && true && true) && ((bif bif bif bif bif !sameP (List.take (tl * 2) t) tl (List.take ((listL (gg31 (List.take (l * 2) (List.drop (0 * 2) o)) l) n n).length * 2) (List.drop 0 (flat (listL (gg31 (List.take (l * 2) (List.drop (0 * 2) o)) l) n n)))) (listL (gg31 (List.take (l * 2) (List.drop (0 * 2) o)) l) n n).length then true else false then true else Int.ofNat k != e then true else !chainB (Int.ofNat n) (List.take (l * 2) o) l (List.take (k * 1) c) k then true else false then true else b0_ == false) && true && ((!b3_ == false || true) && ((!b3_ == false || b3_ == false && true && true) && ((bif bif bif bif bif bif !sameP (List.take (tl * 2) t) tl (List.take ((listL (gg31 (List.take (l * 2) (List.drop (0 * 2) o)) l) n n).length * 2) (List.drop 0 (flat (listL (gg31 (List.take (l * 2) (List.drop (0 * 2) o)) l) n n)))) (listL (gg31 (List.take (l * 2) (List.drop (0 * 2) o)) l) n n).length then true else false then true else Int.ofNat k != e then true else !chainB (Int.ofNat n) (List.take (l * 2) o) l (List.take (k * 1) c) k then true else false then true else !intsE (List.take (n * 1) y) n (List.take (n * 1) v) n then true else b3_ == false) && true && true)))))))))))))))))))))))))) && ((!bif bif bif bif bif bif !sameP (List.take (tl * 2) t) tl (List.take ((listL (gg31 (List.take (l * 2) (List.drop (0 * 2) o)) l) n n).length * 2) (List.drop 0 (flat (listL (gg31 (List.take (l * 2) (List.drop (0 * 2) o)) l) n n)))) (listL (gg31 (List.take (l * 2) (List.drop (0 * 2) o)) l) n n).length then true else false then true else Int.ofNat k != e then true else !chainB (Int.ofNat n) (List.take (l * 2) o) l (List.take (k * 1) c) k then true else false then true else !intsE (List.take (n * 1) y) n (List.take (n * 1) v) n then true else false) && true)) (!sameP (List.take (tl * 2) t) tl (List.take ((listL (gg31 (List.take (l * 2) (List.drop (0 * 2) o)) l) n n).length * 2) (List.drop 0 (flat (listL (gg31 (List.take (l * 2) (List.drop (0 * 2) o)) l) n n)))) (listL (gg31 (List.take (l * 2) (List.drop (0 * 2) o)) l) n n).length)) (bif bif bif !sameP (List.take (tl * 2) t) tl (List.take ((listL (gg31 (List.take (l * 2) (List.drop (0 * 2) o)) l) n n).length * 2) (List.drop 0 (flat (listL (gg31 (List.take (l * 2) (List.drop (0 * 2) o)) l) n n)))) (listL (gg31 (List.take (l * 2) (List.drop (0 * 2) o)) l) n n).length then true else false then true else Int.ofNat k != e then true else !chainB (Int.ofNat n) (List.take (l * 2) o) l (List.take (k * 1) c) k)) (bif bif bif bif bif !sameP (List.take (tl * 2) t) tl (List.take ((listL (gg31 (List.take (l * 2) (List.drop (0 * 2) o)) l) n n).length * 2) (List.drop 0 (flat (listL (gg31 (List.take (l * 2) (List.drop (0 * 2) o)) l) n n)))) (listL (gg31 (List.take (l * 2) (List.drop (0 * 2) o)) l) n n).length then true else false then true else Int.ofNat k != e then true else !chainB (Int.ofNat n) (List.take (l * 2) o) l (List.take (k * 1) c) k then true else false then true else !intsE (List.take (n * 1) y) n (List.take (n * 1) v) n)) (bif !sameP (List.take (tl * 2) t) tl (List.take ((listL (gg31 (List.take (l * 2) (List.drop (0 * 2) o)) l) n n).length * 2) (List.drop 0 (flat (listL (gg31 (List.take (l * 2) (List.drop (0 * 2) o)) l) n n)))) (listL (gg31 (List.take (l * 2) (List.drop (0 * 2) o)) l) n n).length then true else false)) (bif bif !sameP (List.take (tl * 2) t) tl (List.take ((listL (gg31 (List.take (l * 2) (List.drop (0 * 2) o)) l) n n).length * 2) (List.drop 0 (flat (listL (gg31 (List.take (l * 2) (List.drop (0 * 2) o)) l) n n)))) (listL (gg31 (List.take (l * 2) (List.drop (0 * 2) o)) l) n n).length then true else false then true else Int.ofNat k != e)) (bif bif bif bif !sameP (List.take (tl * 2) t) tl (List.take ((listL (gg31 (List.take (l * 2) (List.drop (0 * 2) o)) l) n n).length * 2) (List.drop 0 (flat (listL (gg31 (List.take (l * 2) (List.drop (0 * 2) o)) l) n n)))) (listL (gg31 (List.take (l * 2) (List.drop (0 * 2) o)) l) n n).length then true else false then true else Int.ofNat k != e then true else !chainB (Int.ofNat n) (List.take (l * 2) o) l (List.take (k * 1) c) k then true else false)) from by kernel_rfl)]
  dsimp only
  have hf := flat_len (listL (gg31 o l) n n)
  have hfl := listL_len (gg31 o l) n n
  have hnn : n * n ≤ 7 * 7 := Nat.mul_le_mul hn hn
  unfold turRL at h1
  simp only [take_all2 ho, take_all2 ht, take_all2 hf, take_all1 hc, take_all1 hy, take_all1 hv, take2 ho, take2 ht, take2 hf, take1 hc, take1 hy, take1 hv]
  rw [h1, h3, h4, h2]
  simp [ho, ht, hf, hc, hy, hv, hl, bndL, cRTurned, bne]
  omega
theorem n5N {n l tl k : Nat} {o t c y v : List Int} {e : Int} (ho : o.length = l * 2) (hl : l ≤ 1000) (hn : n ≤ 7) (ht : t.length = tl * 2) (htl : tl ≤ 1000) (hc : c.length = k * 1) (hk : k ≤ 1000) (hy : y.length = n * 1) (hv : v.length = n * 1) (h1 : sameP t tl (flat (turRL n o l)) (turRL n o l).length = true) (h2 : Int.ofNat k = e) (h3 : chainB (Int.ofNat n) o l c k = true) (h4 : intsE y n v n = true) : Exec PP T none x5.nt 0 Z5.b.b.b.a (E5N n l tl k o t c y v e) .n (K5N n l tl k o t c y v) := by
  refine exec_orun envn5 false 60 [true, false] [0, 1, 2, 3, 4, 5] (fun _ => rfl) (by kernel_rfl) (by kernel_rfl) (by kernel_rfl) ?_
  rw [(show obOf (orun gn5 false 60 Z5.b.b.b.a (E5N n l tl k o t c y v e) [true, false]) = ((fun b0_ : Bool => (fun b1_ : Bool => (fun b2_ : Bool => (fun b3_ : Bool => (fun b4_ : Bool => (fun b5_ : Bool => decide ((0 + l) * 2 ≤ o.length) && decide (l ≤ 1000000000) && true && (decide (0 ≤ Int.ofNat n) && decide (Int.ofNat n ≤ 7)) && true && true && (decide ((0 + tl) * 2 ≤ t.length) && (decide ((0 + (listL (gg31 (List.take (l * 2) (List.drop (0 * 2) o)) l) n n).length) * 2 ≤ (flat (listL (gg31 (List.take (l * 2) (List.drop (0 * 2) o)) l) n n)).length) && decide (tl ≤ 1000000000)) && ((!b5_ == false || true) && ((!b5_ == false || b5_ == false && true && true) && ((bif !sameP (List.take (tl * 2) t) tl (List.take ((listL (gg31 (List.take (l * 2) (List.drop (0 * 2) o)) l) n n).length * 2) (List.drop 0 (flat (listL (gg31 (List.take (l * 2) (List.drop (0 * 2) o)) l) n n)))) (listL (gg31 (List.take (l * 2) (List.drop (0 * 2) o)) l) n n).length then true else b5_ == false) && true && ((!b2_ == false || true) && ((!b2_ == false || b2_ == false && true && true) && ((!b2_ == false || true) && ((!b2_ == false || b2_ == false && (b2_ == false && true) && true) && ((bif bif !sameP (List.take (tl * 2) t) tl (List.take ((listL (gg31 (List.take (l * 2) (List.drop (0 * 2) o)) l) n n).length * 2) (List.drop 0 (flat (listL (gg31 (List.take (l * 2) (List.drop (0 * 2) o)) l) n n)))) (listL (gg31 (List.take (l * 2) (List.drop (0 * 2) o)) l) n n).length then true else false then true else b2_ == false) && true && ((!b1_ == false || true) && ((!b1_ == false || true) && ((!b1_ == false || true) && ((!b1_ == false || b1_ == false && (b1_ == false && (b1_ == false && true)) && (decide ((0 + l) * 2 ≤ o.length) && decide (l ≤ 1000000000) && (decide ((0 + k) * 1 ≤ c.length) && decide (k ≤ 1000000000) && true) && true)) && ((!b1_ == false || b1_ == false && true && true) && ((bif bif bif !sameP (List.take (tl * 2) t) tl (List.take ((listL (gg31 (List.take (l * 2) (List.drop (0 * 2) o)) l) n n).length * 2) (List.drop 0 (flat (listL (gg31 (List.take (l * 2) (List.drop (0 * 2) o)) l) n n)))) (listL (gg31 (List.take (l * 2) (List.drop (0 * 2) o)) l) n n).length then true else false then true else Int.ofNat k != e then true else b1_ == false) && true && ((!b4_ == false || true) && ((!b4_ == false || b4_ == false && true && true) && ((bif bif bif bif !sameP (List.take (tl * 2) t) tl (List.take ((listL (gg31 (List.take (l * 2) (List.drop (0 * 2) o)) l) n n).length * 2) (List.drop 0 (flat (listL (gg31 (List.take (l * 2) (List.drop (0 * 2) o)) l) n n)))) (listL (gg31 (List.take (l * 2) (List.drop (0 * 2) o)) l) n n).length then true else false then true else Int.ofNat k != e then true else !chainB (Int.ofNat n) (List.take (l * 2) o) l (List.take (k * 1) c) k then true else b4_ == false) && true && ((!b0_ == false || true) && ((!b0_ == false || true) && ((!b0_ == false || b0_ == false && (b0_ == false && true) && (decide ((0 + n) * 1 ≤ y.length) && decide (n ≤ 1000000000) && (decide ((0 + n) * 1 ≤ v.length) && decide (n ≤ 1000000000) && true) && true)) && ((!b0_ == false || b0_ == false && true && true) && ((bif bif bif bif bif !sameP (List.take (tl * 2) t) tl (List.take ((listL (gg31 (List.take (l * 2) (List.drop (0 * 2) o)) l) n n).length * 2) (List.drop 0 (flat (listL (gg31 (List.take (l * 2) (List.drop (0 * 2) o)) l) n n)))) (listL (gg31 (List.take (l * 2) (List.drop (0 * 2) o)) l) n n).length then true else false then true else Int.ofNat k != e then true else !chainB (Int.ofNat n) (List.take (l * 2) o) l (List.take (k * 1) c) k then true else false then true else b0_ == false) && true && ((!b3_ == false || true) && ((!b3_ == false || b3_ == false && true && true) && ((bif bif bif bif bif bif !sameP (List.take (tl * 2) t) tl (List.take ((listL (gg31 (List.take (l * 2) (List.drop (0 * 2) o)) l) n n).length * 2) (List.drop 0 (flat (listL (gg31 (List.take (l * 2) (List.drop (0 * 2) o)) l) n n)))) (listL (gg31 (List.take (l * 2) (List.drop (0 * 2) o)) l) n n).length then true else false then true else Int.ofNat k != e then true else !chainB (Int.ofNat n) (List.take (l * 2) o) l (List.take (k * 1) c) k then true else false then true else !intsE (List.take (n * 1) y) n (List.take (n * 1) v) n then true else b3_ == false) && true && true)))))))))))))))))))))))))) && ((!bif bif bif bif bif bif !sameP (List.take (tl * 2) t) tl (List.take ((listL (gg31 (List.take (l * 2) (List.drop (0 * 2) o)) l) n n).length * 2) (List.drop 0 (flat (listL (gg31 (List.take (l * 2) (List.drop (0 * 2) o)) l) n n)))) (listL (gg31 (List.take (l * 2) (List.drop (0 * 2) o)) l) n n).length then true else false then true else Int.ofNat k != e then true else !chainB (Int.ofNat n) (List.take (l * 2) o) l (List.take (k * 1) c) k then true else false then true else !intsE (List.take (n * 1) y) n (List.take (n * 1) v) n then true else false) && true)) (!sameP (List.take (tl * 2) t) tl (List.take ((listL (gg31 (List.take (l * 2) (List.drop (0 * 2) o)) l) n n).length * 2) (List.drop 0 (flat (listL (gg31 (List.take (l * 2) (List.drop (0 * 2) o)) l) n n)))) (listL (gg31 (List.take (l * 2) (List.drop (0 * 2) o)) l) n n).length)) (bif bif bif !sameP (List.take (tl * 2) t) tl (List.take ((listL (gg31 (List.take (l * 2) (List.drop (0 * 2) o)) l) n n).length * 2) (List.drop 0 (flat (listL (gg31 (List.take (l * 2) (List.drop (0 * 2) o)) l) n n)))) (listL (gg31 (List.take (l * 2) (List.drop (0 * 2) o)) l) n n).length then true else false then true else Int.ofNat k != e then true else !chainB (Int.ofNat n) (List.take (l * 2) o) l (List.take (k * 1) c) k)) (bif bif bif bif bif !sameP (List.take (tl * 2) t) tl (List.take ((listL (gg31 (List.take (l * 2) (List.drop (0 * 2) o)) l) n n).length * 2) (List.drop 0 (flat (listL (gg31 (List.take (l * 2) (List.drop (0 * 2) o)) l) n n)))) (listL (gg31 (List.take (l * 2) (List.drop (0 * 2) o)) l) n n).length then true else false then true else Int.ofNat k != e then true else !chainB (Int.ofNat n) (List.take (l * 2) o) l (List.take (k * 1) c) k then true else false then true else !intsE (List.take (n * 1) y) n (List.take (n * 1) v) n)) (bif !sameP (List.take (tl * 2) t) tl (List.take ((listL (gg31 (List.take (l * 2) (List.drop (0 * 2) o)) l) n n).length * 2) (List.drop 0 (flat (listL (gg31 (List.take (l * 2) (List.drop (0 * 2) o)) l) n n)))) (listL (gg31 (List.take (l * 2) (List.drop (0 * 2) o)) l) n n).length then true else false)) (bif bif !sameP (List.take (tl * 2) t) tl (List.take ((listL (gg31 (List.take (l * 2) (List.drop (0 * 2) o)) l) n n).length * 2) (List.drop 0 (flat (listL (gg31 (List.take (l * 2) (List.drop (0 * 2) o)) l) n n)))) (listL (gg31 (List.take (l * 2) (List.drop (0 * 2) o)) l) n n).length then true else false then true else Int.ofNat k != e)) (bif bif bif bif !sameP (List.take (tl * 2) t) tl (List.take ((listL (gg31 (List.take (l * 2) (List.drop (0 * 2) o)) l) n n).length * 2) (List.drop 0 (flat (listL (gg31 (List.take (l * 2) (List.drop (0 * 2) o)) l) n n)))) (listL (gg31 (List.take (l * 2) (List.drop (0 * 2) o)) l) n n).length then true else false then true else Int.ofNat k != e then true else !chainB (Int.ofNat n) (List.take (l * 2) o) l (List.take (k * 1) c) k then true else false)) from by kernel_rfl)]
  dsimp only
  have hf := flat_len (listL (gg31 o l) n n)
  have hfl := listL_len (gg31 o l) n n
  have hnn : n * n ≤ 7 * 7 := Nat.mul_le_mul hn hn
  unfold turRL at h1
  simp only [take_all2 ho, take_all2 ht, take_all2 hf, take_all1 hc, take_all1 hy, take_all1 hv, take2 ho, take2 ht, take2 hf, take1 hc, take1 hy, take1 hv]
  rw [h1, h3, h4, h2]
  simp [ho, ht, hf, hc, hy, hv, hl, bndL, cRTurned, bne]
  omega
noncomputable def Lq5 : List (Nat × Spec) := [(37, spRLines), (38, spRCommon), (14, pureS gSame), (11, pureS gAwake)]
theorem Lq5_ok : SpecsL Lq5 := specsL_cons ok37 (genS_fp) o37 (specsL_cons ok38 (genS_fp) o38 (specsL_cons ok14 (pureS_fp gSame_fp) o14 (specsL_cons ok11 (pureS_fp gAwake_fp) o11 (fun p hp => absurd hp (by simp)))))
noncomputable abbrev gq5 : Cal → Option Spec := specsΓ Lq5
theorem envq5 : EnvOK PP T gq5 := envL Lq5_ok
def comRL (n : Nat) (w w' : List Int) : List (Int × Int) := listL (gg38 w w' n n) n n
abbrev OY (n l : Nat) (o w w' x : List Int) (xl : Nat) : St := mkSt [(7, iS n), (9, lsS 0 l), (20, g1S 3), (21, ⟨true, B true⟩), (26, lsS 4 xl)] [IW o, IVV w, IVV w', ⟨false, .row 48 [.sl 1 0 1 n, .sl 2 0 1 n] 0 ff⟩, IW x] 5 []
abbrev ON (n l : Nat) (o x : List Int) (xl : Nat) : St := mkSt [(7, iS n), (9, lsS 0 l), (20, g1S 1), (21, ⟨true, B false⟩), (26, lsS 2 xl)] [IW o, bx48, IW x] 3 []
abbrev QY (n l : Nat) (o w w' : List Int) : St := mkSt [(7, iS n), (9, lsS 0 l), (20, g1S 3), (21, ⟨true, B true⟩)] [IW o, IVV w, IVV w', ⟨false, .row 48 [.sl 1 0 1 n, .sl 2 0 1 n] 0 ff⟩] 4 []
abbrev QN (n l : Nat) (o : List Int) : St := mkSt [(7, iS n), (9, lsS 0 l), (20, g1S 1), (21, ⟨true, B false⟩)] [IW o, bx48] 2 []
theorem o5Y {n l tl k : Nat} {o t c y w w' v : List Int} (ho : o.length = l * 2) (hl : l ≤ 1000) (hn : n ≤ 7) : Exec PP T none x5.nt 0 Z5.b.b.b.b.a (K5Y n l tl k o t c y w w' v) .n (OY n l o w w' (flat (othRL n ((flat (graRL n ((o.drop (0 * 2)).take (l * 2)) l)).drop (0 * 2) |>.take ((graRL n ((o.drop (0 * 2)).take (l * 2)) l).length * 2)) (graRL n ((o.drop (0 * 2)).take (l * 2)) l).length)) (othRL n ((flat (graRL n ((o.drop (0 * 2)).take (l * 2)) l)).drop (0 * 2) |>.take ((graRL n ((o.drop (0 * 2)).take (l * 2)) l).length * 2)) (graRL n ((o.drop (0 * 2)).take (l * 2)) l).length).length) := by
  refine exec_orun envo5 false 60 [] [0, 4, 5, 6, 16] (fun _ => rfl) (by kernel_rfl) (by kernel_rfl) (by kernel_rfl) ?_
  rw [(show obOf (orun go5 false 60 Z5.b.b.b.b.a (K5Y n l tl k o t c y w w' v) []) = (decide ((0 + l) * 2 ≤ o.length) && decide (l ≤ 1000000000) && true && (decide (0 ≤ Int.ofNat n) && decide (Int.ofNat n ≤ 7)) && true && true && (decide ((0 + (listL (gg35 (List.take (l * 2) (List.drop (0 * 2) o)) l) n n).length) * 2 ≤ (flat (listL (gg35 (List.take (l * 2) (List.drop (0 * 2) o)) l) n n)).length) && decide ((listL (gg35 (List.take (l * 2) (List.drop (0 * 2) o)) l) n n).length ≤ 1000000000) && true && (decide (0 ≤ Int.ofNat n) && decide (Int.ofNat n ≤ 7)) && true && true && true)) from by kernel_rfl)]
  have hf := flat_len (listL (gg35 o l) n n)
  have hfl := listL_len (gg35 o l) n n
  have hnn : n * n ≤ 7 * 7 := Nat.mul_le_mul hn hn
  simp only [take_all2 ho, take_all2 hf, take2 ho, take2 hf]
  simp [ho, hf, hl, bndL, cRGraph, cROthers]
  omega
theorem o5N {n l tl k : Nat} {o t c y v : List Int} (ho : o.length = l * 2) (hl : l ≤ 1000) (hn : n ≤ 7) : Exec PP T none x5.nt 0 Z5.b.b.b.b.a (K5N n l tl k o t c y v) .n (ON n l o (flat (othRL n ((flat (graRL n ((o.drop (0 * 2)).take (l * 2)) l)).drop (0 * 2) |>.take ((graRL n ((o.drop (0 * 2)).take (l * 2)) l).length * 2)) (graRL n ((o.drop (0 * 2)).take (l * 2)) l).length)) (othRL n ((flat (graRL n ((o.drop (0 * 2)).take (l * 2)) l)).drop (0 * 2) |>.take ((graRL n ((o.drop (0 * 2)).take (l * 2)) l).length * 2)) (graRL n ((o.drop (0 * 2)).take (l * 2)) l).length).length) := by
  refine exec_orun envo5 false 60 [] [0, 4, 14] (fun _ => rfl) (by kernel_rfl) (by kernel_rfl) (by kernel_rfl) ?_
  rw [(show obOf (orun go5 false 60 Z5.b.b.b.b.a (K5N n l tl k o t c y v) []) = (decide ((0 + l) * 2 ≤ o.length) && decide (l ≤ 1000000000) && true && (decide (0 ≤ Int.ofNat n) && decide (Int.ofNat n ≤ 7)) && true && true && (decide ((0 + (listL (gg35 (List.take (l * 2) (List.drop (0 * 2) o)) l) n n).length) * 2 ≤ (flat (listL (gg35 (List.take (l * 2) (List.drop (0 * 2) o)) l) n n)).length) && decide ((listL (gg35 (List.take (l * 2) (List.drop (0 * 2) o)) l) n n).length ≤ 1000000000) && true && (decide (0 ≤ Int.ofNat n) && decide (Int.ofNat n ≤ 7)) && true && true && true)) from by kernel_rfl)]
  have hf := flat_len (listL (gg35 o l) n n)
  have hfl := listL_len (gg35 o l) n n
  have hnn : n * n ≤ 7 * 7 := Nat.mul_le_mul hn hn
  simp only [take_all2 ho, take_all2 hf, take2 ho, take2 hf]
  simp [ho, hf, hl, bndL, cRGraph, cROthers]
  omega
theorem p5Y {n l : Nat} {o w w' x : List Int} {xl : Nat} (hx : x.length = xl * 2) (hxl : xl ≤ 1000) (hn : n ≤ 7) (h : clashR x xl n = 0) : Exec PP T none x5.nt 0 Z5.b.b.b.b.b.a (OY n l o w w' x xl) .n (QY n l o w w') := by
  refine exec_orun envp5 false 60 [false] [0, 1, 2, 3] (fun _ => rfl) (by kernel_rfl) (by kernel_rfl) (by kernel_rfl) ?_
  rw [(show obOf (orun gp5 false 60 Z5.b.b.b.b.b.a (OY n l o w w' x xl) [false]) = (decide ((0 + xl) * 2 ≤ x.length) && decide (xl ≤ 1000000000) && true && (decide (0 ≤ Int.ofNat n) && decide (Int.ofNat n ≤ 7)) && true && (!true != (true == (clashR (List.take (xl * 2) x) xl n == 0)) && true)) from by kernel_rfl)]
  simp only [take_all2 hx, take2 hx]
  rw [h]
  simp [hx, bndL, cRClash]
  omega
theorem p5N {n l : Nat} {o x : List Int} {xl : Nat} (hx : x.length = xl * 2) (hxl : xl ≤ 1000) (hn : n ≤ 7) (h : ¬ clashR x xl n = 0) : Exec PP T none x5.nt 0 Z5.b.b.b.b.b.a (ON n l o x xl) .n (QN n l o) := by
  refine exec_orun envp5 false 60 [false] [0, 1] (fun _ => rfl) (by kernel_rfl) (by kernel_rfl) (by kernel_rfl) ?_
  rw [(show obOf (orun gp5 false 60 Z5.b.b.b.b.b.a (ON n l o x xl) [false]) = (decide ((0 + xl) * 2 ≤ x.length) && decide (xl ≤ 1000000000) && true && (decide (0 ≤ Int.ofNat n) && decide (Int.ofNat n ≤ 7)) && true && (!true != (false == (clashR (List.take (xl * 2) x) xl n == 0)) && true)) from by kernel_rfl)]
  simp only [take_all2 hx, take2 hx]
  rw [show (clashR x xl n == 0) = false by simpa using h]
  simp [hx, bndL, cRClash]
  omega
def tsQ (n l : Nat) (o w w' : List Int) : Bool := sameP ((flat (comRL n ((w.drop (0 * 1)).take (n * 1)) ((w'.drop (0 * 1)).take (n * 1)))).drop (0 * 2) |>.take ((comRL n ((w.drop (0 * 1)).take (n * 1)) ((w'.drop (0 * 1)).take (n * 1))).length * 2)) (comRL n ((w.drop (0 * 1)).take (n * 1)) ((w'.drop (0 * 1)).take (n * 1))).length ((o.drop (0 * 2)).take (l * 2)) l
theorem q5Y {n l : Nat} {o w w' : List Int} (ho : o.length = l * 2) (hl : l ≤ 1000) (h1 : 1 ≤ n) (hn : n ≤ 7) (hw : w.length = n * 1) (hw' : w'.length = n * 1) (hp : permB (Int.ofNat n) w n = true) (hp' : permB (Int.ofNat n) w' n = true) (h : sameP (flat (comRL n w w')) (comRL n w w').length o l = true) : Exec PP T none x5.nt 0 Z5.b.b.b.b.b.b.a (QY n l o w w') .n (mkSt [(6, ⟨true, B (bif (bif tsQ n l o w w' then true else false) then true else false)⟩)] [] 0 []) := by
  refine exec_orun envq5 false 60 [true] [] (fun _ => rfl) (by kernel_rfl) (by kernel_rfl) (by kernel_rfl) ?_
  rw [(show obOf (orun gq5 false 60 Z5.b.b.b.b.b.b.a (QY n l o w w') [true]) = ((fun b0_ : Bool => (fun b1_ : Bool => (fun b2_ : Bool => decide ((0 + n) * 1 ≤ w.length) && decide (n ≤ 1000000000) && (decide ((0 + n) * 1 ≤ w'.length) && decide (n ≤ 1000000000)) && true && (decide (1 ≤ Int.ofNat n) && decide (Int.ofNat n ≤ 7) && (permB (Int.ofNat n) (List.take (n * 1) w) n && permB (Int.ofNat n) (List.take (n * 1) w') n)) && (decide ((0 + n) * 1 ≤ w.length) && decide (n ≤ 1000000000) && (decide ((0 + n) * 1 ≤ w'.length) && decide (n ≤ 1000000000)) && true && (decide (0 ≤ Int.ofNat n) && decide (Int.ofNat n ≤ 7)) && true && true && (decide ((0 + (listL (gg38 (List.take (n * 1) (List.drop (0 * 1) w)) (List.take (n * 1) (List.drop (0 * 1) w')) n n) n n).length) * 2 ≤ (flat (listL (gg38 (List.take (n * 1) (List.drop (0 * 1) w)) (List.take (n * 1) (List.drop (0 * 1) w')) n n) n n)).length) && (decide ((0 + l) * 2 ≤ o.length) && decide ((listL (gg38 (List.take (n * 1) (List.drop (0 * 1) w)) (List.take (n * 1) (List.drop (0 * 1) w')) n n) n n).length ≤ 1000000000)) && ((!sameP (List.take ((listL (gg38 (List.take (n * 1) (List.drop (0 * 1) w)) (List.take (n * 1) (List.drop (0 * 1) w')) n n) n n).length * 2) (List.drop 0 (flat (listL (gg38 (List.take (n * 1) (List.drop (0 * 1) w)) (List.take (n * 1) (List.drop (0 * 1) w')) n n) n n)))) (listL (gg38 (List.take (n * 1) (List.drop (0 * 1) w)) (List.take (n * 1) (List.drop (0 * 1) w')) n n) n n).length (List.take (l * 2) o) l == false || true) && (b1_ && (b1_ && ((!b2_ || true) && (b0_ && (b0_ && ((!b2_ || true) && (b0_ && (b0_ && ((!b2_ || sameP (List.take ((listL (gg38 (List.take (n * 1) (List.drop (0 * 1) w)) (List.take (n * 1) (List.drop (0 * 1) w')) n n) n n).length * 2) (List.drop 0 (flat (listL (gg38 (List.take (n * 1) (List.drop (0 * 1) w)) (List.take (n * 1) (List.drop (0 * 1) w')) n n) n n)))) (listL (gg38 (List.take (n * 1) (List.drop (0 * 1) w)) (List.take (n * 1) (List.drop (0 * 1) w')) n n) n n).length (List.take (l * 2) o) l == false && false && (sameP (List.take ((listL (gg38 (List.take (n * 1) (List.drop (0 * 1) w)) (List.take (n * 1) (List.drop (0 * 1) w')) n n) n n).length * 2) (List.drop 0 (flat (listL (gg38 (List.take (n * 1) (List.drop (0 * 1) w)) (List.take (n * 1) (List.drop (0 * 1) w')) n n) n n)))) (listL (gg38 (List.take (n * 1) (List.drop (0 * 1) w)) (List.take (n * 1) (List.drop (0 * 1) w')) n n) n n).length (List.take (l * 2) o) l == false && false && true) && rng64 (Int.ofNat (n + n))) && (b0_ && (b1_ && ((bif sameP (List.take ((listL (gg38 (List.take (n * 1) (List.drop (0 * 1) w)) (List.take (n * 1) (List.drop (0 * 1) w')) n n) n n).length * 2) (List.drop 0 (flat (listL (gg38 (List.take (n * 1) (List.drop (0 * 1) w)) (List.take (n * 1) (List.drop (0 * 1) w')) n n) n n)))) (listL (gg38 (List.take (n * 1) (List.drop (0 * 1) w)) (List.take (n * 1) (List.drop (0 * 1) w')) n n) n n).length (List.take (l * 2) o) l then true else sameP (List.take ((listL (gg38 (List.take (n * 1) (List.drop (0 * 1) w)) (List.take (n * 1) (List.drop (0 * 1) w')) n n) n n).length * 2) (List.drop 0 (flat (listL (gg38 (List.take (n * 1) (List.drop (0 * 1) w)) (List.take (n * 1) (List.drop (0 * 1) w')) n n) n n)))) (listL (gg38 (List.take (n * 1) (List.drop (0 * 1) w)) (List.take (n * 1) (List.drop (0 * 1) w')) n n) n n).length (List.take (l * 2) o) l == false) && true && ((!(bif sameP (List.take ((listL (gg38 (List.take (n * 1) (List.drop (0 * 1) w)) (List.take (n * 1) (List.drop (0 * 1) w')) n n) n n).length * 2) (List.drop 0 (flat (listL (gg38 (List.take (n * 1) (List.drop (0 * 1) w)) (List.take (n * 1) (List.drop (0 * 1) w')) n n) n n)))) (listL (gg38 (List.take (n * 1) (List.drop (0 * 1) w)) (List.take (n * 1) (List.drop (0 * 1) w')) n n) n n).length (List.take (l * 2) o) l then true else false) == true || true) && ((bif bif sameP (List.take ((listL (gg38 (List.take (n * 1) (List.drop (0 * 1) w)) (List.take (n * 1) (List.drop (0 * 1) w')) n n) n n).length * 2) (List.drop 0 (flat (listL (gg38 (List.take (n * 1) (List.drop (0 * 1) w)) (List.take (n * 1) (List.drop (0 * 1) w')) n n) n n)))) (listL (gg38 (List.take (n * 1) (List.drop (0 * 1) w)) (List.take (n * 1) (List.drop (0 * 1) w')) n n) n n).length (List.take (l * 2) o) l then true else false then (bif sameP (List.take ((listL (gg38 (List.take (n * 1) (List.drop (0 * 1) w)) (List.take (n * 1) (List.drop (0 * 1) w')) n n) n n).length * 2) (List.drop 0 (flat (listL (gg38 (List.take (n * 1) (List.drop (0 * 1) w)) (List.take (n * 1) (List.drop (0 * 1) w')) n n) n n)))) (listL (gg38 (List.take (n * 1) (List.drop (0 * 1) w)) (List.take (n * 1) (List.drop (0 * 1) w')) n n) n n).length (List.take (l * 2) o) l then true else false) == true else true) && true && true)))))))))))))))))) (sameP (List.take ((listL (gg38 (List.take (n * 1) (List.drop (0 * 1) w)) (List.take (n * 1) (List.drop (0 * 1) w')) n n) n n).length * 2) (List.drop 0 (flat (listL (gg38 (List.take (n * 1) (List.drop (0 * 1) w)) (List.take (n * 1) (List.drop (0 * 1) w')) n n) n n)))) (listL (gg38 (List.take (n * 1) (List.drop (0 * 1) w)) (List.take (n * 1) (List.drop (0 * 1) w')) n n) n n).length (List.take (l * 2) o) l == false && false)) (!sameP (List.take ((listL (gg38 (List.take (n * 1) (List.drop (0 * 1) w)) (List.take (n * 1) (List.drop (0 * 1) w')) n n) n n).length * 2) (List.drop 0 (flat (listL (gg38 (List.take (n * 1) (List.drop (0 * 1) w)) (List.take (n * 1) (List.drop (0 * 1) w')) n n) n n)))) (listL (gg38 (List.take (n * 1) (List.drop (0 * 1) w)) (List.take (n * 1) (List.drop (0 * 1) w')) n n) n n).length (List.take (l * 2) o) l == false || sameP (List.take ((listL (gg38 (List.take (n * 1) (List.drop (0 * 1) w)) (List.take (n * 1) (List.drop (0 * 1) w')) n n) n n).length * 2) (List.drop 0 (flat (listL (gg38 (List.take (n * 1) (List.drop (0 * 1) w)) (List.take (n * 1) (List.drop (0 * 1) w')) n n) n n)))) (listL (gg38 (List.take (n * 1) (List.drop (0 * 1) w)) (List.take (n * 1) (List.drop (0 * 1) w')) n n) n n).length (List.take (l * 2) o) l == false && true && true)) (!(sameP (List.take ((listL (gg38 (List.take (n * 1) (List.drop (0 * 1) w)) (List.take (n * 1) (List.drop (0 * 1) w')) n n) n n).length * 2) (List.drop 0 (flat (listL (gg38 (List.take (n * 1) (List.drop (0 * 1) w)) (List.take (n * 1) (List.drop (0 * 1) w')) n n) n n)))) (listL (gg38 (List.take (n * 1) (List.drop (0 * 1) w)) (List.take (n * 1) (List.drop (0 * 1) w')) n n) n n).length (List.take (l * 2) o) l == false && false) || sameP (List.take ((listL (gg38 (List.take (n * 1) (List.drop (0 * 1) w)) (List.take (n * 1) (List.drop (0 * 1) w')) n n) n n).length * 2) (List.drop 0 (flat (listL (gg38 (List.take (n * 1) (List.drop (0 * 1) w)) (List.take (n * 1) (List.drop (0 * 1) w')) n n) n n)))) (listL (gg38 (List.take (n * 1) (List.drop (0 * 1) w)) (List.take (n * 1) (List.drop (0 * 1) w')) n n) n n).length (List.take (l * 2) o) l == false && false && true && true)) from by kernel_rfl)]
  dsimp only
  have hf := flat_len (listL (gg38 w w' n n) n n)
  have hfl := listL_len (gg38 w w' n n) n n
  have hnn : n * n ≤ 7 * 7 := Nat.mul_le_mul hn hn
  unfold comRL at h
  simp only [List.drop_zero, take_all2 ho, take_all1 hw, take_all1 hw', take2 ho, take1 hw, take1 hw', take_all2 hf, take2 hf]
  rw [h, hp, hp']
  simp [ho, hf, hl, hw, hw', bndL, cRCommon]
  omega
theorem q5N {n l : Nat} {o : List Int}  : Exec PP T none x5.nt 0 Z5.b.b.b.b.b.b.a (QN n l o) .n (RB 6 true) := by
  refine exec_orun envq5 false 60 [false] [] (fun _ => rfl) (by kernel_rfl) (by kernel_rfl) (by kernel_rfl) (by kernel_rfl)
theorem r5 {b : Bool}  : Exec PP T none x5.nt 0 Z5.b.b.b.b.b.b.b (RB 6 b) .r (RB 6 b) := by
  refine exec_orun env0 false 60 [] [] (fun _ => rfl) (by kernel_rfl) (by kernel_rfl) (by kernel_rfl) (by kernel_rfl)
end Go.Proofs.Yteekkjfjpoaihaa.Eng
namespace Go.Proofs.Yteekkjfjpoaihaa.Eng
open Go Go.Proofs
open Go.Proofs.Yteekkjfjpoaihaa.Ori
theorem filter_cut {p : Nat → Bool} {n : Nat} (h : ∀ y, n ≤ y → p y = false) : ∀ d, (List.range (n + d)).filter p = (List.range n).filter p
  | 0 => rfl
  | d + 1 => by
    rw [show n + (d + 1) = n + d + 1 by omega, List.range_succ, List.filter_append, filter_cut h d]
    simp [h (n + d) (by omega)]
theorem pairsN_cutC {g : Nat → Nat → Bool} {n : Nat} (h : ∀ x y, n ≤ y → g x y = false) (d : Nat) : ∀ a, pairsN g (n + d) a = pairsN g n a
  | 0 => rfl
  | a + 1 => by rw [pairsN_succ, pairsN_succ, pairsN_cutC h d a, filter_cut (h a) d]
theorem pairsN_cutR {g : Nat → Nat → Bool} {n m : Nat} (h : ∀ x y, n ≤ x → y < m → g x y = false) : ∀ d, pairsN g m (n + d) = pairsN g m n
  | 0 => rfl
  | d + 1 => by
    rw [show n + (d + 1) = n + d + 1 by omega, pairsN_succ, pairsN_cutR h d, List.filter_eq_nil_iff.2 fun y hy => by rw [h (n + d) y (by omega) (List.mem_range.1 hy)]; simp]
    simp
theorem told_cut {s : Nat → Bool} {g : Nat → Nat → Bool} {n : Nat} (hn : n ≤ 7) (hs : ∀ {x y}, Rl s x y → x < n ∧ y < n) (hg : ∀ x y, x < n → y < n → (g x y = true ↔ Rl s x y)) : listL g n n = toldL s := by
  unfold toldL
  rw [listL_pairs, listL_pairs]
  congr 1
  have h1 : pairsN g n n = pairsN (fun x y => decide (x < n) && decide (y < n) && at7 s x y) n n := pairsN_congr fun x y hx hy => by
    rw [decide_eq_true hx, decide_eq_true hy, Bool.true_and, Bool.true_and, Bool.eq_iff_iff, hg x y hx hy]
    exact ⟨fun h => h.2.2, fun h => ⟨by omega, by omega, h⟩⟩
  have h2 : pairsN (fun a b => at7 s a b) 7 7 = pairsN (fun x y => decide (x < n) && decide (y < n) && at7 s x y) 7 7 := pairsN_congr fun x y hx hy => by
    rw [Bool.eq_iff_iff, Bool.and_eq_true, Bool.and_eq_true, decide_eq_true_eq, decide_eq_true_eq]
    exact ⟨fun h => ⟨hs ⟨hx, hy, h⟩, h⟩, fun h => h.2⟩
  rw [h1, h2]
  have e : 7 = n + (7 - n) := by omega
  have h3 : pairsN (fun x y => decide (x < n) && decide (y < n) && at7 s x y) 7 7 = pairsN (fun x y => decide (x < n) && decide (y < n) && at7 s x y) n 7 := by
    rw [show pairsN (fun x y => decide (x < n) && decide (y < n) && at7 s x y) 7 7 = pairsN (fun x y => decide (x < n) && decide (y < n) && at7 s x y) (n + (7 - n)) 7 by rw [← e]]
    exact pairsN_cutC (fun x y hy => by rw [decide_eq_false (show ¬ y < n by omega)]; simp) _ _
  have h4 : pairsN (fun x y => decide (x < n) && decide (y < n) && at7 s x y) n 7 = pairsN (fun x y => decide (x < n) && decide (y < n) && at7 s x y) n n := by
    rw [show pairsN (fun x y => decide (x < n) && decide (y < n) && at7 s x y) n 7 = pairsN (fun x y => decide (x < n) && decide (y < n) && at7 s x y) n (n + (7 - n)) by rw [← e]]
    exact pairsN_cutR (fun x y hx _ => by rw [decide_eq_false (show ¬ x < n by omega)]; simp) _
  rw [h3, h4]
/-- an order on n nodes -/
structure Ord (n : Nat) (r : Nat → Bool) : Prop where
  lo : 1 ≤ n
  hi : n ≤ 7
  rng : ∀ {x y}, Rl r x y → x < n ∧ y < n ∧ x ≠ y
  tr : transB r = true
/-- its list, as the program reads it back -/
def fO (n : Nat) (r : Nat → Bool) : Nat → Bool := orderF (Int.ofNat n) (flat (toldL r)) (toldL r).length
section
variable {n : Nat} {r : Nat → Bool}
theorem Ord.err (h : Ord n r) : orderE (Int.ofNat n) (flat (toldL r)) (toldL r).length = 0 := (told_order (f := ff) h.lo h.hi h.rng h.tr).1
theorem Ord.rl (h : Ord n r) : Rl (fO n r) = Rl r := (told_order (f := ff) h.lo h.hi h.rng h.tr).2
theorem Ord.tr' (h : Ord n r) : transB (fO n r) = true := by rw [transB_congr h.rl]; exact h.tr
theorem Ord.ordC (h : Ord n r) : ordC (Int.ofNat n) (flat (toldL r)) (toldL r).length = true := by
  unfold Eng.ordC
  rw [h.err, show transB (orderF (Int.ofNat n) (flat (toldL r)) (toldL r).length) = true from h.tr', decide_eq_true (show 1 ≤ Int.ofNat n by have := h.lo; simp; omega), decide_eq_true (show Int.ofNat n ≤ 7 by have := h.hi; simp; omega)]
  rfl
theorem Ord.isOrd (h : Ord n r) : isOrd (Int.ofNat n) (flat (toldL r)) (toldL r).length = true := by
  have h1 := orderE_isOrd (n := Int.ofNat n) (q := flat (toldL r)) (m := (toldL r).length) (by have := h.lo; have := h.hi; simp; omega)
  rw [h.err] at h1
  cases hh : Eng.isOrd (Int.ofNat n) (flat (toldL r)) (toldL r).length with
  | true => rfl
  | false => rw [hh] at h1; cases h1
theorem hasT {x y : Nat} : hasP (flat (toldL r)) (toldL r).length (x : Int) (y : Int) = true ↔ Rl r x y := by
  rw [toldN_eq, toldN_len, hasP_flat]
  exact mem_toldN
theorem told_short2 (r : Nat → Bool) : (toldL r).length ≤ 49 := by
  have := listL_len (fun a b => at7 r a b) 7 7
  unfold toldL
  omega
theorem Ord.turned (h : Ord n r) : turRL n (flat (toldL r)) (toldL r).length = toldL (turnR r) := by
  unfold turRL
  refine told_cut h.hi (fun {x y} hxy => ?_) fun x y hx hy => ?_
  · rw [Rl_turn] at hxy
    obtain ⟨h1, h2, _⟩ := h.rng hxy
    exact ⟨h2, h1⟩
  · rw [Rl_turn]
    show hasP _ _ (y : Int) (x : Int) = true ↔ Rl r y x
    exact hasT
theorem Ord.turL (h : Ord n r) : turL (Int.ofNat n) (flat (toldL r)) (toldL r).length = toldL (turnR r) := toldL_congr (by rw [Rl_turn, Rl_turn]; exact congrArg revX h.rl)
theorem Ord.chain (h : Ord n r) : chainB (Int.ofNat n) (flat (toldL r)) (toldL r).length (chainF (fO n r) n) (hgF (fO n r) n (topF (fO n r) n) + 1) = true := by
  unfold chainB
  obtain ⟨g1, g2, g3⟩ := fstN_spec (chB (Int.ofNat n) (flat (toldL r)) (toldL r).length (chainF (fO n r) n)) (hgF (fO n r) n (topF (fO n r) n) + 1)
  have hat : ∀ i, i < hgF (fO n r) n (topF (fO n r) n) + 1 → at1 (chainF (fO n r) n) i = Int.ofNat (chF (fO n r) n (hgF (fO n r) n (topF (fO n r) n) - i)) := fun i hi => by
    rw [at1_eq]
    unfold chainF outsF
    rw [List.getD_eq_getElem?_getD, List.getElem?_reverse (by simpa using hi)]
    simp
    simp [show hgF (fO n r) n (topF (fO n r) n) - i < hgF (fO n r) n (topF (fO n r) n) + 1 by omega]
  have hno : ¬ fstN (chB (Int.ofNat n) (flat (toldL r)) (toldL r).length (chainF (fO n r) n)) (hgF (fO n r) n (topF (fO n r) n) + 1) < hgF (fO n r) n (topF (fO n r) n) + 1 := fun hlt => by
    have hb := g3 hlt
    generalize fstN (chB (Int.ofNat n) (flat (toldL r)) (toldL r).length (chainF (fO n r) n)) (hgF (fO n r) n (topF (fO n r) n) + 1) = i at hlt hb
    have hc := (chF_spec h.tr' h.lo h.hi (hgF (fO n r) n (topF (fO n r) n) - i) (by omega)).1
    unfold chB at hb
    rw [hat i hlt, decide_eq_false (by simp), decide_eq_false (by simp; omega), Bool.false_or, Bool.false_or, Bool.and_eq_true, decide_eq_true_eq] at hb
    obtain ⟨hi, hb⟩ := hb
    rw [hat (i - 1) (by omega)] at hb
    have hs := chF_step h.tr' h.lo h.hi (j := hgF (fO n r) n (topF (fO n r) n) - i) (by omega)
    rw [show hgF (fO n r) n (topF (fO n r) n) - i + 1 = hgF (fO n r) n (topF (fO n r) n) - (i - 1) by omega] at hs
    have hc2 := (chF_spec h.tr' h.lo h.hi (hgF (fO n r) n (topF (fO n r) n) - (i - 1)) (by omega)).1
    have h7 := h.hi
    have hR : Rl (fO n r) (chF (fO n r) n (hgF (fO n r) n (topF (fO n r) n) - (i - 1))) (chF (fO n r) n (hgF (fO n r) n (topF (fO n r) n) - i)) := ⟨by omega, by omega, hs⟩
    rw [h.rl] at hR
    have := hasT.2 hR
    have hb' : hasP (flat (toldL r)) (toldL r).length ((chF (fO n r) n (hgF (fO n r) n (topF (fO n r) n) - (i - 1)) : Nat) : Int) ((chF (fO n r) n (hgF (fO n r) n (topF (fO n r) n) - i) : Nat) : Int) = false := by simpa using hb
    rw [this] at hb'
    cases hb'
  have : Nat.blt (fstN (chB (Int.ofNat n) (flat (toldL r)) (toldL r).length (chainF (fO n r) n)) (hgF (fO n r) n (topF (fO n r) n) + 1)) (hgF (fO n r) n (topF (fO n r) n) + 1) = false := by
    cases hh : Nat.blt (fstN (chB (Int.ofNat n) (flat (toldL r)) (toldL r).length (chainF (fO n r) n)) (hgF (fO n r) n (topF (fO n r) n) + 1)) (hgF (fO n r) n (topF (fO n r) n) + 1) with
    | false => rfl
    | true => exact absurd (Nat.le_of_ble_eq_true hh) hno
  rw [this]
  simp
theorem hgt_prc {f : Nat → Bool} (ht : transB f = true) (hn : n ≤ 7) : ∀ k i, i < n → hgt f n k i ≤ prc f n i
  | 0, i, _ => Nat.zero_le _
  | k + 1, i, hi => hB_le n fun c hc hci => by
    have h1 := hgt_prc ht hn k c hc
    have h2 := prc_lt ht hn hc hi hci
    omega
theorem hgF_n {f : Nat → Bool} (ht : transB f = true) (hn : n ≤ 7) {i : Nat} (hi : i < n) : hgF f n i ≤ n := Nat.le_trans (hgt_prc ht hn 8 i hi) (prc_le f n i)
theorem hgF_edge {f : Nat → Bool} (ht : transB f = true) (hn : n ≤ 7) {a b : Nat} (ha : a < n) (hb : b < n) (h : at7 f a b = true) : hgF f n a + 1 ≤ hgF f n b := by
  rw [hgF_rec ht hn hb]
  exact hB_ge n a ha h
theorem at1_set {q : List Int} {i j : Nat} {v : Int} (hi : i < q.length) : at1 (q.set (0 + (0 + i) * 1) v) j = if j = i then v else at1 q j := by
  rw [at1_eq, at1_eq, show 0 + (0 + i) * 1 = i by omega, List.getD_eq_getElem?_getD, List.getElem?_set, List.getD_eq_getElem?_getD]
  by_cases h : j = i
  · subst h; simp [hi]
  · rw [if_neg (fun e => h e.symm), if_neg h]
/-- the pairs of an order's list -/
theorem Ord.pairs (h : Ord n r) {i : Nat} (hi : i < (toldL r).length) : ∃ a b, ra (flat (toldL r)) i = Int.ofNat a ∧ rb (flat (toldL r)) i = Int.ofNat b ∧ a < n ∧ b < n ∧ at7 (fO n r) a b = true := by
  rw [toldN_len] at hi
  obtain ⟨e1, e2⟩ := rab_flatN hi
  have hm : (toldN r).getD i (0, 0) ∈ toldN r := by simp [hi]
  have hR := mem_toldN.1 (show (((toldN r).getD i (0, 0)).1, ((toldN r).getD i (0, 0)).2) ∈ toldN r from hm)
  obtain ⟨k1, k2, _⟩ := h.rng hR
  have hF := hR
  rw [← h.rl] at hF
  exact ⟨_, _, by rw [toldN_eq]; exact e1, by rw [toldN_eq]; exact e2, k1, k2, hF.2.2⟩
theorem Ord.pair_of (h : Ord n r) {a b : Nat} (ha : a < n) (hb : b < n) (hab : at7 (fO n r) a b = true) : ∃ i, i < (toldL r).length ∧ ra (flat (toldL r)) i = Int.ofNat a ∧ rb (flat (toldL r)) i = Int.ofNat b := by
  have h7 := h.hi
  have hR : Rl (fO n r) a b := ⟨by omega, by omega, hab⟩
  rw [h.rl] at hR
  have hm := mem_toldN.2 hR
  obtain ⟨i, hi, e⟩ := List.getElem_of_mem hm
  obtain ⟨e1, e2⟩ := rab_flatN hi
  have e3 : (toldN r).getD i (0, 0) = (a, b) := by simp [hi, e]
  rw [e3] at e1 e2
  exact ⟨i, by rw [toldN_len]; exact hi, by rw [toldN_eq]; exact e1, by rw [toldN_eq]; exact e2⟩
/-- between what is sure after r rounds and the heights -/
structure Bel (n : Nat) (f : Nat → Bool) (r : Nat) (o : List Int) : Prop where
  len : o.length = n
  up : ∀ i, i < n → at1 o i ≤ Int.ofNat (hgF f n i)
  lo : ∀ i, i < n → hgF f n i ≤ r → Int.ofNat (hgF f n i) ≤ at1 o i
  ge : ∀ i, i < n → 0 ≤ at1 o i
/-- what is more after the first i arrows of a round -/
structure BelM (n : Nat) (f : Nat → Bool) (q : List Int) (r i : Nat) (o : List Int) : Prop where
  b : Bel n f r o
  new : ∀ j, j < i → ∀ a b, ra q j = Int.ofNat a → rb q j = Int.ofNat b → a < n → b < n → hgF f n a ≤ r → Int.ofNat (hgF f n a + 1) ≤ at1 o b
theorem BelM.step (h : Ord n r) {k i : Nat} (hi : i < (toldL r).length) {o : List Int} (hb : BelM n (fO n r) (flat (toldL r)) k i o) : BelM n (fO n r) (flat (toldL r)) k (i + 1) (layS (flat (toldL r)) o i) := by
  obtain ⟨a, b, e1, e2, ha, hbn, hab⟩ := h.pairs hi
  have hed := hgF_edge h.tr' h.hi ha hbn hab
  have hset : ∀ j, at1 (layS (flat (toldL r)) o i) j = if j = b then max (at1 o b) (at1 o a + 1) else at1 o j := fun j => by
    unfold layS
    rw [e1, e2]
    exact at1_set (i := b) (by rw [hb.b.len]; exact hbn)
  have hmono : ∀ j, at1 o j ≤ at1 (layS (flat (toldL r)) o i) j := fun j => by
    rw [hset]
    by_cases e : j = b
    · subst e; rw [if_pos rfl]; omega
    · rw [if_neg e]; omega
  refine ⟨⟨by simp [layS, hb.b.len], fun j hj => ?_, fun j hj hk => ?_, fun j hj => ?_⟩, fun j hj x y e3 e4 hx hy hk => ?_⟩
  · rw [hset]
    by_cases e : j = b
    · subst e
      rw [if_pos rfl]
      have k1 := hb.b.up j hj
      have k2 := hb.b.up a ha
      simp only [Int.ofNat_eq_natCast] at *
      omega
    · rw [if_neg e]; exact hb.b.up j hj
  · have k1 := hb.b.lo j hj hk
    have k2 := hmono j
    omega
  · have k1 := hb.b.ge j hj
    have k2 := hmono j
    omega
  · by_cases e : j = i
    · subst e
      rw [e1] at e3
      rw [e2] at e4
      have e5 : a = x := Int.ofNat.inj e3
      have e6 : b = y := Int.ofNat.inj e4
      subst e5
      subst e6
      rw [hset, if_pos rfl]
      have k1 := hb.b.lo a ha hk
      simp only [Int.ofNat_eq_natCast] at *
      omega
    · have k1 := hb.new j (by omega) x y e3 e4 hx hy hk
      have k2 := hmono y
      omega
theorem BelM.row (h : Ord n r) {k : Nat} {o : List Int} (hb : Bel n (fO n r) k o) : ∀ i, i ≤ (toldL r).length → BelM n (fO n r) (flat (toldL r)) k i (layR (flat (toldL r)) o i)
  | 0, _ => ⟨hb, fun j hj => absurd hj (by omega)⟩
  | i + 1, hi => BelM.step h (by omega) (BelM.row h hb i (by omega))
theorem Bel.next (h : Ord n r) {k : Nat} {o : List Int} (hb : Bel n (fO n r) k o) : Bel n (fO n r) (k + 1) (layR (flat (toldL r)) o (toldL r).length) := by
  have hm := BelM.row h hb (toldL r).length (Nat.le_refl _)
  refine ⟨hm.b.len, hm.b.up, fun i hi hk => ?_, hm.b.ge⟩
  by_cases h0 : hgF (fO n r) n i ≤ k
  · exact hm.b.lo i hi h0
  · obtain ⟨c, h1, h2, h3⟩ := hB_pos (f := fO n r) (g := hgF (fO n r) n) (i := i) n (by rw [← hgF_rec h.tr' h.hi hi]; omega)
    rw [← hgF_rec h.tr' h.hi hi] at h3
    obtain ⟨j, g1, g2, g3⟩ := h.pair_of h1 hi h2
    have := hm.new j g1 c i g2 g3 h1 hi (by omega)
    rw [h3]
    exact this
theorem at1_rep (n i : Nat) : at1 (List.replicate n 0) i = 0 := by
  rw [at1_eq, List.getD_eq_getElem?_getD, List.getElem?_replicate]
  split <;> rfl
theorem Bel.all (h : Ord n r) : ∀ k, Bel n (fO n r) k (layA (flat (toldL r)) (toldL r).length n k)
  | 0 => ⟨by simp [layA], fun i _ => by show at1 (List.replicate n 0) i ≤ _; rw [at1_rep]; simp, fun i _ hk => by show _ ≤ at1 (List.replicate n 0) i; rw [at1_rep, show hgF (fO n r) n i = 0 by omega]; simp, fun i _ => by show 0 ≤ at1 (List.replicate n 0) i; rw [at1_rep]; simp⟩
  | k + 1 => (Bel.all h k).next h
/-- the reference's layers -/
theorem Ord.layers (h : Ord n r) : (layA (flat (toldL r)) (toldL r).length n n).length = n ∧ ∀ i, i < n → at1 (layA (flat (toldL r)) (toldL r).length n n) i = Int.ofNat (hgF (fO n r) n i) := by
  have hb := Bel.all h n
  refine ⟨hb.len, fun i hi => ?_⟩
  have h1 := hb.up i hi
  have h2 := hb.lo i hi (hgF_n h.tr' h.hi hi)
  omega
theorem Ord.ints (h : Ord n r) : intsE (lqF (fO n r) n n) n (layA (flat (toldL r)) (toldL r).length n n) n = true := by
  unfold intsE
  rw [decide_eq_true rfl, Bool.true_and]
  obtain ⟨g1, g2, g3⟩ := fstN_spec (neqAt (lqF (fO n r) n n) (layA (flat (toldL r)) (toldL r).length n n)) n
  cases hh : Nat.blt (fstN (neqAt (lqF (fO n r) n n) (layA (flat (toldL r)) (toldL r).length n n)) n) n with
  | false => rfl
  | true =>
    have hlt := Nat.le_of_ble_eq_true hh
    have hb := g3 hlt
    generalize fstN (neqAt (lqF (fO n r) n n) (layA (flat (toldL r)) (toldL r).length n n)) n = i at hlt hb
    unfold neqAt at hb
    rw [lqF_hg hlt, h.layers.2 _ hlt] at hb
    simp at hb
theorem Ord.long (h : Ord n r) : mxL (layA (flat (toldL r)) (toldL r).length n n) n = Int.ofNat (hgF (fO n r) n (topF (fO n r) n) + 1) := by
  obtain ⟨t1, _, t3⟩ := topF_spec (f := fO n r) h.lo
  have key : ∀ i, i ≤ n → (∀ j, j < i → Int.ofNat (hgF (fO n r) n j + 1) ≤ mxL (layA (flat (toldL r)) (toldL r).length n n) i) ∧ mxL (layA (flat (toldL r)) (toldL r).length n n) i ≤ Int.ofNat (hgF (fO n r) n (topF (fO n r) n) + 1) := by
    intro i
    induction i with
    | zero => exact fun _ => ⟨fun j hj => absurd hj (by omega), by show (0 : Int) ≤ _; simp; omega⟩
    | succ i ih =>
      intro hi
      obtain ⟨k1, k2⟩ := ih (by omega)
      have e := h.layers.2 i (by omega)
      have t := t3 i (by omega)
      have em : mxL (layA (flat (toldL r)) (toldL r).length n n) (i + 1) = max (mxL (layA (flat (toldL r)) (toldL r).length n n) i) (Int.ofNat (hgF (fO n r) n i) + 1) := by
        show max _ (at1 _ i + 1) = _
        rw [e]
      rw [em]
      refine ⟨fun j hj => ?_, ?_⟩
      · by_cases hji : j < i
        · have := k1 j hji
          omega
        · rw [show j = i by omega]
          simp only [Int.ofNat_eq_natCast]
          omega
      · simp only [Int.ofNat_eq_natCast] at *
        omega
  obtain ⟨k1, k2⟩ := key n (Nat.le_refl _)
  have := k1 _ t1
  omega
theorem Ord.pairsIn (h : Ord n r) : pairsIn (Int.ofNat n) (flat (toldL r)) (toldL r).length = true := by
  unfold Eng.pairsIn
  rw [List.all_eq_true]
  intro i hi
  obtain ⟨a, b, e1, e2, ha, hb, _⟩ := h.pairs (List.mem_range.1 hi)
  rw [e1, e2]
  simp
  omega
end
end Go.Proofs.Yteekkjfjpoaihaa.Eng
namespace Go.Proofs.Yteekkjfjpoaihaa.Eng
open Go Go.Proofs
open Go.Proofs.Yteekkjfjpoaihaa.Ori
theorem gD {l : List (Nat × Nat)} {i : Nat} (hi : i < l.length) : l.getD i (0, 0) = l[i] := by simp [hi]
theorem gD_mem {l : List (Nat × Nat)} {i : Nat} (hi : i < l.length) : l.getD i (0, 0) ∈ l := by rw [gD hi]; exact List.getElem_mem _
theorem knwN_iff {L : SL} {p : Nat × Nat} : knwN L p = true ↔ p ∈ keysL L := by
  unfold knwN keysL
  rw [List.any_eq_true, List.mem_map]
  constructor
  · rintro ⟨z, h1, h2⟩
    exact ⟨z, h1, (beq_iff_eq.1 h2).symm⟩
  · rintro ⟨z, h1, h2⟩
    exact ⟨z, h1, by rw [h2]; simp⟩
theorem keys_pre {L L' : SL} (h : L <+: L') : keysL L <+: keysL L' := by
  unfold keysL
  exact h.map _
section
variable {q : List Int} {m : Nat} {A : List (Nat × Nat)} {E : Nat → Nat → Prop} {x : Nat × Nat}
def SndC (E : Nat → Nat → Prop) (x : Nat × Nat) (L : SL) : Prop := ∀ p ∈ keysL L, Cls E x p
def CloC (E : Nat → Nat → Prop) (A : List (Nat × Nat)) (L : SL) (i : Nat) : Prop := ∀ j, j < i → ∀ y ∈ A, Gam E ((keysL L).getD j (0, 0)) y → y ∈ keysL L
theorem getD_pre {l l' : List (Nat × Nat)} (h : l <+: l') {i : Nat} (hi : i < l.length) : l'.getD i (0, 0) = l.getD i (0, 0) := pre_getD h hi
theorem keysL_len (L : SL) : (keysL L).length = L.length := by simp [keysL]
theorem snd_step (hA : ∀ p ∈ A, E p.1 p.2) (hf : ∀ z y, fcN q m z y = true ↔ Gam E z y) {L : SL} {i k : Nat} (h : SndC E x L) (hi : i < L.length) (hk : k < A.length) : SndC E x (cstep q m A L i k) := by
  unfold cstep
  cases hc : (!(knwN L (A.getD k (0, 0))) && fcN q m ((keysL L).getD i (0, 0)) (A.getD k (0, 0))) with
  | false => exact h
  | true =>
    rw [cond_true]
    simp only [Bool.and_eq_true] at hc
    intro p hp
    rw [show keysL (L ++ [(A.getD k (0, 0), stpN L ((keysL L).getD i (0, 0)) + 1)]) = keysL L ++ [A.getD k (0, 0)] by simp [keysL]] at hp
    rcases List.mem_append.1 hp with hp | hp
    · exact h p hp
    · rw [List.mem_singleton] at hp
      subst hp
      refine .step (h ((keysL L).getD i (0, 0)) ?_) ((hf _ _).1 hc.2) (hA _ (by simp [hk]))
      simp [show i < (keysL L).length by rw [keysL_len]; exact hi]
theorem snd_row (hA : ∀ p ∈ A, E p.1 p.2) (hf : ∀ z y, fcN q m z y = true ↔ Gam E z y) {L : SL} {i : Nat} (h : SndC E x L) (hi : i < L.length) : ∀ k, k ≤ A.length → SndC E x (crow q m A L i k)
  | 0, _ => h
  | k + 1, hk => snd_step hA hf (snd_row hA hf h hi k (by omega)) (Nat.lt_of_lt_of_le hi (crow_pre L i k).length_le) (by omega)
theorem row_has (hf : ∀ z y, fcN q m z y = true ↔ Gam E z y) {L : SL} {i : Nat} (hi : i < L.length) : ∀ k, k ≤ A.length → ∀ j, j < k → Gam E ((keysL L).getD i (0, 0)) (A.getD j (0, 0)) → A.getD j (0, 0) ∈ keysL (crow q m A L i k)
  | 0, _, j, hj, _ => absurd hj (by omega)
  | k + 1, hk, j, hj, hg => by
    have hp := keys_pre (cstep_pre (q := q) (m := m) (A := A) (crow q m A L i k) i k)
    by_cases e : j = k
    · subst e
      have hkp := getD_pre (keys_pre (crow_pre (q := q) (m := m) (A := A) L i j)) (i := i) (by rw [keysL_len]; exact hi)
      show _ ∈ keysL (cstep q m A (crow q m A L i j) i j)
      unfold cstep
      rw [hkp, (hf _ _).2 hg, Bool.and_true]
      cases hk2 : knwN (crow q m A L i j) (A.getD j (0, 0)) with
      | true => exact knwN_iff.1 hk2
      | false => simp [keysL]
    · exact hp.subset (row_has hf hi k (by omega) j (by omega) hg)
theorem clo_row (hf : ∀ z y, fcN q m z y = true ↔ Gam E z y) {L : SL} {i : Nat} (h : CloC E A L i) (hi : i < L.length) : CloC E A (crow q m A L i A.length) (i + 1) := by
  intro j hj y hy hg
  have hp := keys_pre (crow_pre (q := q) (m := m) (A := A) L i A.length)
  rw [getD_pre hp (by rw [keysL_len]; omega)] at hg
  by_cases e : j = i
  · subst e
    obtain ⟨k, hk, rfl⟩ := List.getElem_of_mem hy
    have := row_has hf hi A.length (Nat.le_refl _) k hk (by simpa [hk] using hg)
    simpa [hk] using this
  · exact hp.subset (h j (by omega) y hy hg)
theorem cgo_law (hA : ∀ p ∈ A, E p.1 p.2) (hr : ∀ p ∈ A, p.1 < 7 ∧ p.2 < 7) (hf : ∀ z y, fcN q m z y = true ↔ Gam E z y) : ∀ (f i : Nat) (L : SL), CI L → i ≤ L.length → 50 ≤ f + i → SndC E x L → CloC E A L i → SndC E x (cgo q m A f i L) ∧ CloC E A (cgo q m A f i L) (cgo q m A f i L).length
  | 0, i, L, hC, hi, h50, _, _ => absurd hC.short (by omega)
  | f + 1, i, L, hC, hi, h50, hs, hc => by
    unfold cgo
    split
    · rename_i hlt
      exact cgo_law hA hr hf f (i + 1) _ (hC.row hr A.length (Nat.le_refl _)) (by
        have := (crow_pre (q := q) (m := m) (A := A) L i A.length).length_le
        omega) (by omega) (snd_row hA hf hs hlt A.length (Nat.le_refl _)) (clo_row hf hc hlt)
    · rename_i hge
      have : i = L.length := by omega
      subst this
      exact ⟨hs, hc⟩
theorem cls_law (hA : ∀ p, p ∈ A ↔ E p.1 p.2) (hr : ∀ p ∈ A, p.1 < 7 ∧ p.2 < 7) (hf : ∀ z y, fcN q m z y = true ↔ Gam E z y) (hx : x ∈ A) {p : Nat × Nat} : p ∈ keysL (cgo q m A 50 0 [(x, 0)]) ↔ Cls E x p := by
  obtain ⟨h1, h2⟩ := cgo_law (x := x) (fun p hp => (hA p).1 hp) hr hf 50 0 [(x, 0)] (CI.start (hr x hx).1 (hr x hx).2) (by simp) (by omega) (fun p hp => by
    simp [keysL] at hp
    subst hp
    exact .refl) (fun j hj => absurd hj (by omega))
  refine ⟨h1 p, fun h => ?_⟩
  induction h with
  | refl => exact (keys_pre (cgo_pre 50 0 [(x, 0)])).subset (by simp [keysL])
  | step hy g he ih =>
    rename_i y z
    obtain ⟨j, hj, e⟩ := List.getElem_of_mem ih
    rw [keysL_len] at hj
    exact h2 j hj z ((hA z).2 he) (by
      rw [show (keysL (cgo q m A 50 0 [(x, 0)])).getD j (0, 0) = y by simp [show j < (keysL (cgo q m A 50 0 [(x, 0)])).length by rw [keysL_len]; exact hj, e]]
      exact g)
end
theorem clRow_spec {y : Nat × Nat} {C : List (Nat × Nat)} {F : List Int} {e : Int} (hF : ∀ v ∈ F, 0 ≤ v) (he : 0 ≤ e) : ∀ i, 0 ≤ clRow y C F e i ∧ (clRow y C F e i = 0 ↔ e = 0 ∧ ∀ j, j < i → C.getD j (0, 0) ≠ (y.2, y.1))
  | 0 => ⟨he, ⟨fun h => ⟨h, fun j hj => absurd hj (by omega)⟩, fun h => h.1⟩⟩
  | i + 1 => by
    obtain ⟨h1, h2⟩ := clRow_spec (y := y) (C := C) hF he i
    have hv : 0 ≤ F.getD i 0 := by
      rw [List.getD_eq_getElem?_getD]
      cases hi : F[i]? with
      | none => simp
      | some v => exact hF v (List.mem_of_getElem? hi)
    unfold clRow
    by_cases hc : C.getD i (0, 0) = (y.2, y.1)
    · rw [show (C.getD i (0, 0) == (y.2, y.1)) = true from beq_iff_eq.2 hc, Bool.true_and]
      have hn : ¬ ∀ j, j < i + 1 → C.getD j (0, 0) ≠ (y.2, y.1) := fun h => h i (by omega) hc
      cases hz : (clRow y C F e i == 0 || decide (F.getD i 0 + 1 < clRow y C F e i)) with
      | true =>
        rw [cond_true]
        exact ⟨by omega, ⟨fun h => by omega, fun h => absurd h.2 hn⟩⟩
      | false =>
        rw [cond_false]
        simp at hz
        exact ⟨h1, ⟨fun h => absurd h hz.1, fun h => absurd h.2 hn⟩⟩
    · rw [show (C.getD i (0, 0) == (y.2, y.1)) = false from beq_eq_false_iff_ne.2 hc, Bool.false_and, cond_false]
      refine ⟨h1, h2.trans ⟨fun h => ⟨h.1, fun j hj => ?_⟩, fun h => ⟨h.1, fun j hj => h.2 j (by omega)⟩⟩⟩
      by_cases e : j = i
      · subst e; exact hc
      · exact h.2 j (by omega)
theorem clAll_spec {q : List Int} {m n : Nat} (hn : n ≤ 7) : ∀ k, k ≤ (arrR q m n).length → 0 ≤ clAll q m n k ∧ (clAll q m n k = 0 ↔ ∀ i, i < k → sw ((arrR q m n).getD i (0, 0)) ∉ outR q m n ((arrR q m n).getD i (0, 0)))
  | 0, _ => ⟨Int.le_refl _, ⟨fun _ i hi => absurd hi (by omega), fun _ => rfl⟩⟩
  | k + 1, hk => by
    obtain ⟨h1, h2⟩ := clAll_spec (q := q) (m := m) hn k (by omega)
    have hr := arrR_rng (q := q) (m := m) hn ((arrR q m n).getD k (0, 0)) (by simp [show k < (arrR q m n).length by omega])
    obtain ⟨g1, g2⟩ := clRow_spec (y := (arrR q m n).getD k (0, 0)) (C := outR q m n ((arrR q m n).getD k (0, 0))) (F := farR q m n ((arrR q m n).getD k (0, 0))) (fun v hv => (farR_bnd hn hr.1 hr.2 v hv).1) h1 (outR q m n ((arrR q m n).getD k (0, 0))).length
    refine ⟨g1, g2.trans ?_⟩
    have hmem : (∀ j, j < (outR q m n ((arrR q m n).getD k (0, 0))).length → (outR q m n ((arrR q m n).getD k (0, 0))).getD j (0, 0) ≠ (((arrR q m n).getD k (0, 0)).2, ((arrR q m n).getD k (0, 0)).1)) ↔ sw ((arrR q m n).getD k (0, 0)) ∉ outR q m n ((arrR q m n).getD k (0, 0)) := by
      constructor
      · intro h hm
        obtain ⟨j, hj, e⟩ := List.getElem_of_mem hm
        exact h j hj ((gD hj).trans e)
      · intro h j hj e
        refine h ?_
        show (((arrR q m n).getD k (0, 0)).2, ((arrR q m n).getD k (0, 0)).1) ∈ _
        rw [← e]
        exact gD_mem hj
    rw [h2, hmem]
    constructor
    · rintro ⟨a, b⟩ i hi
      by_cases e : i = k
      · subst e; exact b
      · exact a i (by omega)
    · intro h
      exact ⟨fun i hi => h i (by omega), h k (by omega)⟩
theorem join_flat {P : List (Nat × Nat)} {a b : Nat} : joinF (flatN P) P.length (Int.ofNat a) (Int.ofNat b) = true ↔ (min a b, max a b) ∈ P := by
  unfold joinF
  have e1 : min (Int.ofNat a) (Int.ofNat b) = ((min a b : Nat) : Int) := by simp; omega
  have e2 : max (Int.ofNat a) (Int.ofNat b) = ((max a b : Nat) : Int) := by simp; omega
  rw [e1, e2]
  exact hasP_flat
/-- two nodes without an arrow -/
def Un (n : Nat) (r : Nat → Bool) (a b : Nat) : Prop := a < n ∧ b < n ∧ a ≠ b ∧ ¬ Rl r a b ∧ ¬ Rl r b a
section
variable {n : Nat} {r : Nat → Bool}
def graN (n : Nat) (r : Nat → Bool) : List (Nat × Nat) := pairsN (gg35 (flat (toldL r)) (toldL r).length) n n
theorem gra_eq : graRL n (flat (toldL r)) (toldL r).length = (graN n r).map ofN := listL_pairs _ _ _
theorem mem_graN {a b : Nat} : (a, b) ∈ graN n r ↔ a < n ∧ b < n ∧ a < b ∧ (Rl r a b ∨ Rl r b a) := by
  unfold graN
  rw [mem_pairsN]
  unfold gg35
  simp only [Bool.and_eq_true, Bool.or_eq_true, decide_eq_true_eq]
  rw [show (hasP (flat (toldL r)) (toldL r).length (Int.ofNat a) (Int.ofNat b) = true) = (Rl r a b) from propext hasT, show (hasP (flat (toldL r)) (toldL r).length (Int.ofNat b) (Int.ofNat a) = true) = (Rl r b a) from propext hasT]
def othN (n : Nat) (r : Nat → Bool) : List (Nat × Nat) := pairsN (gg34 (flat (graRL n (flat (toldL r)) (toldL r).length)) (graRL n (flat (toldL r)) (toldL r).length).length) n n
theorem oth_eq : othRL n (flat (graRL n (flat (toldL r)) (toldL r).length)) (graRL n (flat (toldL r)) (toldL r).length).length = (othN n r).map ofN := listL_pairs _ _ _
theorem mem_othN {a b : Nat} : (a, b) ∈ othN n r ↔ a < b ∧ Un n r a b := by
  unfold othN
  rw [mem_pairsN]
  unfold gg34
  rw [gra_eq, flat_ofN, List.length_map, Bool.and_eq_true, decide_eq_true_eq, Bool.not_eq_true', ← Bool.not_eq_true]
  show a < n ∧ b < n ∧ a < b ∧ ¬ joinF (flatN (graN n r)) (graN n r).length (Int.ofNat a) (Int.ofNat b) = true ↔ _
  rw [join_flat]
  unfold Un
  constructor
  · rintro ⟨h1, h2, h3, h4⟩
    rw [Nat.min_eq_left (by omega), Nat.max_eq_right (by omega), mem_graN] at h4
    exact ⟨h3, h1, h2, by omega, fun h => h4 ⟨h1, h2, h3, .inl h⟩, fun h => h4 ⟨h1, h2, h3, .inr h⟩⟩
  · rintro ⟨h3, h1, h2, _, h4, h5⟩
    refine ⟨h1, h2, h3, ?_⟩
    rw [Nat.min_eq_left (by omega), Nat.max_eq_right (by omega), mem_graN]
    rintro ⟨_, _, _, h | h⟩
    · exact h4 h
    · exact h5 h
theorem Un.symm {a b : Nat} (h : Un n r a b) : Un n r b a := ⟨h.2.1, h.1, fun e => h.2.2.1 e.symm, h.2.2.2.2, h.2.2.2.1⟩
theorem un_graph : Graph (Un n r) := ⟨fun h => h.symm, fun a h => h.2.2.1 rfl⟩
theorem join_oth {a b : Nat} : joinF (flatN (othN n r)) (othN n r).length (Int.ofNat a) (Int.ofNat b) = true ↔ Un n r a b := by
  rw [join_flat, mem_othN]
  rcases Nat.lt_trichotomy a b with h | h | h
  · rw [Nat.min_eq_left (by omega), Nat.max_eq_right (by omega)]
    exact ⟨fun k => k.2, fun k => ⟨h, k⟩⟩
  · subst h
    exact ⟨fun k => absurd k.1 (by simp), fun k => absurd rfl k.2.2.1⟩
  · rw [Nat.min_eq_right (by omega), Nat.max_eq_left (by omega)]
    exact ⟨fun k => k.2.symm, fun k => ⟨h, k.symm⟩⟩
theorem mem_arrR {p : Nat × Nat} : p ∈ arrR (flatN (othN n r)) (othN n r).length n ↔ Un n r p.1 p.2 := by
  unfold arrR
  rw [mem_pairsN]
  unfold gg84
  rw [Bool.and_eq_true, join_oth]
  constructor
  · rintro ⟨_, _, _, h⟩; exact h
  · intro h
    refine ⟨h.1, h.2.1, ?_, h⟩
    have := h.2.2.1
    simp
    omega
theorem fc_gam (z y : Nat × Nat) : fcN (flatN (othN n r)) (othN n r).length z y = true ↔ Gam (Un n r) z y := by
  unfold fcN forF Gam
  have hj : ∀ a b, (!(joinF (flatN (othN n r)) (othN n r).length (Int.ofNat a) (Int.ofNat b))) = true ↔ ¬ Un n r a b := fun a b => by
    rw [Bool.not_eq_true', ← Bool.not_eq_true, join_oth]
  have hb : ∀ a b : Nat, (Int.ofNat a == Int.ofNat b) = decide (a = b) := fun a b => by
    rw [Bool.eq_iff_iff]
    simp
    omega
  rw [hb, hb]
  by_cases h1 : z.1 = y.1
  · by_cases h2 : z.2 = y.2
    · rw [decide_eq_true h1, decide_eq_true h2]
      simp only [Bool.and_self, cond_true, true_iff]
      exact .inl ⟨h1, fun h => h.2.2.1 h2⟩
    · rw [decide_eq_true h1, decide_eq_false h2]
      simp only [Bool.and_false, cond_false, cond_true]
      rw [hj]
      exact ⟨fun h => .inl ⟨h1, h⟩, fun h => h.elim (fun k => k.2) fun k => absurd k.1 h2⟩
  · rw [decide_eq_false h1]
    simp only [Bool.false_and, cond_false]
    rw [Bool.and_eq_true, hj, decide_eq_true_eq]
    exact ⟨fun h => .inr h, fun h => h.elim (fun k => absurd k.1 h1) id⟩
theorem mem_outR (hn : n ≤ 7) {x p : Nat × Nat} (hx : Un n r x.1 x.2) : p ∈ outR (flatN (othN n r)) (othN n r).length n x ↔ Un n r p.1 p.2 ∧ Cls (Un n r) x p := by
  unfold outR outC
  rw [List.take_length, List.mem_filter, mem_arrR, knwN_iff]
  unfold clsL
  rw [cls_law (E := Un n r) (fun p => mem_arrR) (arrR_rng hn) fc_gam (mem_arrR.2 hx)]
/-- the reference finds none just where there is none -/
theorem clash_iff (hn : n ≤ 7) : clashR (flatN (othN n r)) (othN n r).length n = 0 ↔ NoClash (Un n r) := by
  unfold clashR
  rw [(clAll_spec hn _ (Nat.le_refl _)).2]
  constructor
  · intro h x hx hc
    obtain ⟨i, hi, e⟩ := List.getElem_of_mem (mem_arrR.2 hx)
    have := h i hi
    rw [show (arrR (flatN (othN n r)) (othN n r).length n).getD i (0, 0) = x by simp [hi, e]] at this
    exact this ((mem_outR hn hx).2 ⟨hx.symm, hc⟩)
  · intro h i hi hm
    have hx := mem_arrR.1 (gD_mem hi)
    exact h _ hx ((mem_outR hn hx).1 hm).2
theorem at7_rOth {f : Nat → Bool} (hn : n ≤ 7) {x y : Nat} (hx : x < 7) (hy : y < 7) : at7 (rOth f n) x y = (decide (x < n) && decide (y < n) && (decide (x ≠ y) && !(at7 f x y || at7 f y x))) := by
  unfold rOth
  rw [at7_oth hn hx hy, at7_join hx hy, at7_turnR hx hy]
theorem ed_rOth (h : Ord n r) : Ed n (rOth (fO n r) n) = Un n r := ext2 fun x y => by
  have h7 := h.hi
  have hR : ∀ {a b : Nat}, a < 7 → b < 7 → (at7 (fO n r) a b = true ↔ Rl r a b) := fun {a b} ha hb => by
    rw [← h.rl]
    exact ⟨fun k => ⟨ha, hb, k⟩, fun k => k.2.2⟩
  unfold Ed Un
  constructor
  · rintro ⟨hx, hy, k⟩
    rw [at7_rOth h.hi (by omega) (by omega)] at k
    simp only [Bool.and_eq_true, decide_eq_true_eq, Bool.not_eq_true', Bool.or_eq_false_iff] at k
    refine ⟨hx, hy, k.2.1, ?_, ?_⟩
    · intro e
      have e2 := (hR (a := x) (b := y) (by omega) (by omega)).2 e
      rw [k.2.2.1] at e2
      cases e2
    · intro e
      have e2 := (hR (a := y) (b := x) (by omega) (by omega)).2 e
      rw [k.2.2.2] at e2
      cases e2
  · rintro ⟨hx, hy, hne, k1, k2⟩
    refine ⟨hx, hy, ?_⟩
    rw [at7_rOth h.hi (by omega) (by omega)]
    simp only [Bool.and_eq_true, decide_eq_true_eq, Bool.not_eq_true', Bool.or_eq_false_iff]
    exact ⟨⟨hx, hy⟩, hne, by rw [← Bool.not_eq_true, hR (by omega) (by omega)]; exact k1, by rw [← Bool.not_eq_true, hR (by omega) (by omega)]; exact k2⟩
theorem gok_rOth (h : Ord n r) : GOK n (rOth (fO n r) n) := by
  have he := ed_rOth h
  refine ⟨fun {x y} hx hy k => ?_, fun {x} hx => ?_⟩
  · have : Un n r x y := by rw [← he]; exact ⟨hx, hy, k⟩
    have := this.symm
    rw [← he] at this
    exact this.2.2
  · cases hk : at7 (rOth (fO n r) n) x x with
    | false => rfl
    | true =>
      have : Un n r x x := by rw [← he]; exact ⟨hx, hx, hk⟩
      exact absurd rfl this.2.2.1
theorem Ord.clash (h : Ord n r) : oriOk n (rOth (fO n r) n) = true ↔ clashR (flatN (othN n r)) (othN n r).length n = 0 := by
  rw [clash_iff h.hi, ori_iff h.hi (gok_rOth h), ed_rOth h]
theorem Ord.other (h : Ord n r) (hk : oriOk n (rOth (fO n r) n) = true) : TO (Un n r) (Rl (oriR n (rOth (fO n r) n))) := by
  have := ori_to h.hi (gok_rOth h) hk
  rw [ed_rOth h] at this
  exact this
end
end Go.Proofs.Yteekkjfjpoaihaa.Eng
namespace Go.Proofs.Yteekkjfjpoaihaa.Eng
open Go Go.Proofs
open Go.Proofs.Yteekkjfjpoaihaa.Ori
/-- a line's order of n nodes -/
structure Lin (n : Nat) (X : Nat → Nat → Prop) : Prop where
  rng : ∀ {a b}, X a b → a < n ∧ b < n
  asym : ∀ {a b}, X a b → ¬ X b a
  trans : ∀ {a b c}, X a b → X b c → X a c
  all : ∀ {a b}, a < n → b < n → a ≠ b → X a b ∨ X b a
section
variable {n : Nat} {r : Nat → Bool}
theorem lin_join (h : Ord n r) {G : Nat → Nat → Prop} (hG : TO (Un n r) G) : Lin n fun a b => Rl r a b ∨ G a b := by
  obtain ⟨hasy, htr⟩ := transB_Rl.1 h.tr
  refine ⟨fun {a b} k => ?_, fun {a b} k k' => ?_, fun {a b c} k k' => ?_, fun {a b} ha hb hne => ?_⟩
  · rcases k with k | k
    · obtain ⟨h1, h2, _⟩ := h.rng k; exact ⟨h1, h2⟩
    · have := hG.sub k; exact ⟨this.1, this.2.1⟩
  · rcases k with k | k <;> rcases k' with k' | k'
    · exact hasy k k'
    · exact (hG.sub k').2.2.2.2 k
    · exact (hG.sub k).2.2.2.2 k'
    · exact hG.asym k k'
  · rcases k with k | k <;> rcases k' with k' | k'
    · exact .inl (htr k k')
    · have hbc := hG.sub k'
      have hab := h.rng k
      by_cases hac : a = c
      · subst hac; exact absurd k hbc.2.2.2.2
      · by_cases k1 : Rl r a c
        · exact .inl k1
        · by_cases k2 : Rl r c a
          · exact absurd (htr k2 k) hbc.2.2.2.2
          · rcases hG.all ⟨hab.1, hbc.2.1, hac, k1, k2⟩ with k3 | k3
            · exact .inr k3
            · exact absurd k (hG.sub (hG.trans k' k3)).2.2.2.2
    · have hab := hG.sub k
      have hbc := h.rng k'
      by_cases hac : a = c
      · subst hac; exact absurd k' hab.2.2.2.2
      · by_cases k1 : Rl r a c
        · exact .inl k1
        · by_cases k2 : Rl r c a
          · exact absurd (htr k' k2) hab.2.2.2.2
          · rcases hG.all ⟨hab.1, hbc.2.1, hac, k1, k2⟩ with k3 | k3
            · exact .inr k3
            · exact absurd k' (hG.sub (hG.trans k3 k)).2.2.2.2
    · exact .inr (hG.trans k k')
  · by_cases k1 : Rl r a b
    · exact .inl (.inl k1)
    · by_cases k2 : Rl r b a
      · exact .inr (.inl k2)
      · rcases hG.all ⟨ha, hb, hne, k1, k2⟩ with k3 | k3
        · exact .inl (.inr k3)
        · exact .inr (.inr k3)
theorem to_rev {E G : Nat → Nat → Prop} (hE : Graph E) (h : TO E G) : TO E fun a b => G b a := ⟨fun k => hE.sym (h.sub k), fun k => (h.all k).symm, fun k k' => h.asym k k', fun k k' => h.trans k' k⟩
end
theorem cntB_all (n : Nat) : cntB (fun _ => true) n = n := by
  induction n with
  | zero => rfl
  | succ n ih => unfold cntB; rw [ih]; rfl
section
variable {n : Nat} {X : Nat → Nat → Prop} {f : Nat → Bool}
theorem lin_prc (hn : n ≤ 7) (hL : Lin n X) (hf : ∀ {x y}, x < 7 → y < 7 → (at7 f x y = true ↔ X x y)) {i j : Nat} (h : X i j) : prc f n i < prc f n j := by
  obtain ⟨hi, hj⟩ := hL.rng h
  refine cntB_lt (fun x hx hp => (hf (by omega) (by omega)).2 (hL.trans ((hf (by omega) (by omega)).1 hp) h)) ⟨i, hi, ?_, (hf (by omega) (by omega)).2 h⟩
  cases hh : at7 f i i with
  | false => rfl
  | true => exact absurd ((hf (by omega) (by omega)).1 hh) (hL.asym ((hf (by omega) (by omega)).1 hh))
theorem lin_prc_n (hn : n ≤ 7) (hL : Lin n X) (hf : ∀ {x y}, x < 7 → y < 7 → (at7 f x y = true ↔ X x y)) {i : Nat} (hi : i < n) : prc f n i < n := by
  have : prc f n i < cntB (fun _ => true) n := cntB_lt (fun x hx hp => rfl) ⟨i, hi, by
    cases hh : at7 f i i with
    | false => rfl
    | true => exact absurd ((hf (by omega) (by omega)).1 hh) (hL.asym ((hf (by omega) (by omega)).1 hh)), rfl⟩
  rw [cntB_all] at this
  exact this
theorem lin_inj (hn : n ≤ 7) (hL : Lin n X) (hf : ∀ {x y}, x < 7 → y < 7 → (at7 f x y = true ↔ X x y)) {i j : Nat} (hi : i < n) (hj : j < n) (h : prc f n i = prc f n j) : i = j := by
  by_cases e : i = j
  · exact e
  · rcases hL.all hi hj e with k | k
    · have := lin_prc hn hL hf k; omega
    · have := lin_prc hn hL hf k; omega
theorem lin_surj (hn : n ≤ 7) (hL : Lin n X) (hf : ∀ {x y}, x < 7 → y < 7 → (at7 f x y = true ↔ X x y)) {p : Nat} (hp : p < n) : ∃ i, i < n ∧ prc f n i = p := by
  by_cases h : p ∈ (List.range n).map (prc f n)
  · obtain ⟨i, h1, h2⟩ := List.mem_map.1 h
    exact ⟨i, List.mem_range.1 h1, h2⟩
  · have hnd : ((List.range n).map (prc f n)).Nodup := by
      rw [List.nodup_iff_pairwise_ne] at *
      refine List.pairwise_map.2 ?_
      refine (List.pairwise_lt_range (n := n)).imp_of_mem fun {a b} ha hb hab e => ?_
      have := lin_inj hn hL hf (List.mem_range.1 ha) (List.mem_range.1 hb) e
      omega
    have := nodup_short n (p :: (List.range n).map (prc f n)) (List.nodup_cons.2 ⟨h, hnd⟩) (fun x hx => by
      rcases List.mem_cons.1 hx with rfl | hx
      · exact hp
      · obtain ⟨i, h1, rfl⟩ := List.mem_map.1 hx
        exact lin_prc_n hn hL hf (List.mem_range.1 h1))
    simp at this
    omega
theorem lin_at (hn : n ≤ 7) (hL : Lin n X) (hf : ∀ {x y}, x < 7 → y < 7 → (at7 f x y = true ↔ X x y)) : ∀ k, k ≤ n → ∀ i, i < k → at1 (lnF f n k) (prc f n i) = Int.ofNat i
  | 0, _, i, hi => absurd hi (by omega)
  | k + 1, hk, i, hi => by
    show at1 ((lnF f n k).set (0 + (0 + prc f n k) * 1) (Int.ofNat k)) (prc f n i) = _
    rw [at1_set (by rw [lnF_len]; exact lin_prc_n hn hL hf (by omega))]
    by_cases e : i = k
    · subst e; rw [if_pos rfl]
    · rw [if_neg fun h => e (lin_inj hn hL hf (by omega) (by omega) h)]
      exact lin_at hn hL hf k (by omega) i (by omega)
theorem lin_ok (hn : n ≤ 7) (hL : Lin n X) (hf : ∀ {x y}, x < 7 → y < 7 → (at7 f x y = true ↔ X x y)) : lnOk f n = true := by
  unfold lnOk
  rw [List.all_eq_true]
  intro i hi
  exact decide_eq_true (lin_prc_n hn hL hf (List.mem_range.1 hi))
theorem lin_perm (hn : n ≤ 7) (hL : Lin n X) (hf : ∀ {x y}, x < 7 → y < 7 → (at7 f x y = true ↔ X x y)) : permB (Int.ofNat n) (lnF f n n) n = true := by
  unfold permB
  rw [decide_eq_true rfl, Bool.true_and, List.all_eq_true]
  intro p hp
  have hp := List.mem_range.1 hp
  obtain ⟨i, h1, h2⟩ := lin_surj hn hL hf hp
  have e := lin_at hn hL hf n (Nat.le_refl _) i h1
  rw [h2] at e
  rw [e, Bool.and_eq_true, Bool.and_eq_true, decide_eq_true_eq, decide_eq_true_eq, List.all_eq_true]
  refine ⟨⟨by simp, by simp; omega⟩, fun j hj => ?_⟩
  have hj := List.mem_range.1 hj
  obtain ⟨i', h3, h4⟩ := lin_surj hn hL hf (show j < n by omega)
  have e' := lin_at hn hL hf n (Nat.le_refl _) i' h3
  rw [h4] at e'
  rw [e']
  refine decide_eq_true fun e2 => ?_
  have : i' = i := Int.ofNat.inj e2
  subst this
  omega
theorem lin_bef (hn : n ≤ 7) (hL : Lin n X) (hf : ∀ {x y}, x < 7 → y < 7 → (at7 f x y = true ↔ X x y)) {a b : Nat} (ha : a < n) (hb : b < n) (hab : a ≠ b) : befF (lnF f n n) n (Int.ofNat a) (Int.ofNat b) = true ↔ X a b := by
  have ea := lin_at hn hL hf n (Nat.le_refl _) a ha
  have eb := lin_at hn hL hf n (Nat.le_refl _) b hb
  have pa := lin_prc_n hn hL hf ha
  have pb := lin_prc_n hn hL hf hb
  obtain ⟨g1, g2, g3⟩ := fstN_spec (befP (lnF f n n) (Int.ofNat a) (Int.ofNat b)) n
  have hA : befP (lnF f n n) (Int.ofNat a) (Int.ofNat b) (prc f n a) = true := by unfold befP; rw [ea]; simp
  have hB : befP (lnF f n n) (Int.ofNat a) (Int.ofNat b) (prc f n b) = true := by unfold befP; rw [eb]; simp
  have hne : (Int.ofNat b == Int.ofNat a) = false := by simp; omega
  have hlt : fstN (befP (lnF f n n) (Int.ofNat a) (Int.ofNat b)) n < n := by
    rcases Nat.lt_or_ge (fstN (befP (lnF f n n) (Int.ofNat a) (Int.ofNat b)) n) n with k | k
    · exact k
    · have := g2 (prc f n a) (by omega)
      rw [hA] at this; cases this
  have hle1 : fstN (befP (lnF f n n) (Int.ofNat a) (Int.ofNat b)) n ≤ prc f n a := by
    rcases Nat.lt_or_ge (prc f n a) (fstN (befP (lnF f n n) (Int.ofNat a) (Int.ofNat b)) n) with k | k
    · have := g2 _ k; rw [hA] at this; cases this
    · exact k
  have hle2 : fstN (befP (lnF f n n) (Int.ofNat a) (Int.ofNat b)) n ≤ prc f n b := by
    rcases Nat.lt_or_ge (prc f n b) (fstN (befP (lnF f n n) (Int.ofNat a) (Int.ofNat b)) n) with k | k
    · have := g2 _ k; rw [hB] at this; cases this
    · exact k
  have hp := g3 hlt
  unfold befF
  rw [blt_lt hlt, Bool.true_and]
  generalize fstN (befP (lnF f n n) (Int.ofNat a) (Int.ofNat b)) n = p at hlt hle1 hle2 hp
  obtain ⟨i, h1, h2⟩ := lin_surj hn hL hf hlt
  have ei := lin_at hn hL hf n (Nat.le_refl _) i h1
  rw [h2] at ei
  unfold befP at hp
  rw [ei] at hp ⊢
  have hi : i = a ∨ i = b := by
    simp at hp
    omega
  rcases hi with rfl | rfl
  · refine ⟨fun _ => ?_, fun _ => by simp⟩
    rcases hL.all ha hb hab with k | k
    · exact k
    · have := lin_prc hn hL hf k; omega
  · rw [hne]
    refine ⟨fun k => (by cases k), fun k => ?_⟩
    have := lin_prc hn hL hf k
    omega
end
section
variable {n : Nat} {r : Nat → Bool}
/-- the two lines of an order -/
theorem Ord.lines (h : Ord n r) (hk : oriOk n (rOth (fO n r) n) = true) : (lnOk (rS1 (fO n r) n) n = true ∧ lnOk (rS2 (fO n r) n) n = true) ∧ (permB (Int.ofNat n) (lnF (rS1 (fO n r) n) n n) n = true ∧ permB (Int.ofNat n) (lnF (rS2 (fO n r) n) n n) n = true) ∧
    comRL n (lnF (rS1 (fO n r) n) n n) (lnF (rS2 (fO n r) n) n n) = toldL r := by
  have hT := h.other hk
  have L1 := lin_join h hT
  have L2 := lin_join h (to_rev un_graph hT)
  have hR : ∀ {a b : Nat}, a < 7 → b < 7 → (at7 (fO n r) a b = true ↔ Rl r a b) := fun {a b} ha hb => by
    rw [← h.rl]
    exact ⟨fun k => ⟨ha, hb, k⟩, fun k => k.2.2⟩
  have f1 : ∀ {x y : Nat}, x < 7 → y < 7 → (at7 (rS1 (fO n r) n) x y = true ↔ (Rl r x y ∨ Rl (oriR n (rOth (fO n r) n)) x y)) := fun {x y} hx hy => by
    unfold rS1
    rw [at7_join hx hy, Bool.or_eq_true, hR hx hy]
    exact or_congr Iff.rfl ⟨fun k => ⟨hx, hy, k⟩, fun k => k.2.2⟩
  have f2 : ∀ {x y : Nat}, x < 7 → y < 7 → (at7 (rS2 (fO n r) n) x y = true ↔ (Rl r x y ∨ Rl (oriR n (rOth (fO n r) n)) y x)) := fun {x y} hx hy => by
    unfold rS2
    rw [at7_join hx hy, Bool.or_eq_true, hR hx hy, at7_turnR hx hy]
    exact or_congr Iff.rfl ⟨fun k => ⟨hy, hx, k⟩, fun k => k.2.2⟩
  refine ⟨⟨lin_ok h.hi L1 f1, lin_ok h.hi L2 f2⟩, ⟨lin_perm h.hi L1 f1, lin_perm h.hi L2 f2⟩, ?_⟩
  unfold comRL
  refine told_cut h.hi (fun {x y} k => ⟨(h.rng k).1, (h.rng k).2.1⟩) fun x y hx hy => ?_
  unfold gg38
  by_cases e : x = y
  · subst e
    have : ¬ Rl r x x := fun k => (h.rng k).2.2 rfl
    simp [this]
  · have e2 : (Int.ofNat x != Int.ofNat y) = true := by simp; omega
    rw [e2, Bool.true_and, Bool.and_eq_true, lin_bef h.hi L1 f1 hx hy e, lin_bef h.hi L2 f2 hx hy e]
    constructor
    · rintro ⟨k1 | k1, k2 | k2⟩
      · exact k1
      · exact k1
      · exact k2
      · exact absurd k2 (hT.asym k1)
    · intro k
      exact ⟨.inl k, .inl k⟩
end
end Go.Proofs.Yteekkjfjpoaihaa.Eng
namespace Go.Proofs.Yteekkjfjpoaihaa.Eng
open Go Go.Proofs
open Go.Proofs.Yteekkjfjpoaihaa.Ori
section
variable {n : Nat} {r : Nat → Bool}
theorem Ord.g5 (h : Ord n r) : Exec PP T none x5.nt 0 Y5.b.a (T5 n (flat (toldL r)) (toldL r).length) .n (G5 n (toldL r).length (flat (toldL r)) (toldL (turnR r)).length (flat (toldL (turnR r)))) := by
  have ol := flat_len (toldL r)
  have os := told_short r
  cases he : eqB 49 (orderF (Int.ofNat n) (flat (toldL r)) (toldL r).length) ff with
  | true =>
    have hR : Rl r = emX := by rw [← h.rl]; exact eqB_ff.1 he
    have hl : toldL (turnR r) = [] := by rw [toldL_congr ((Rl_turn.trans (congrArg revX hR)).trans (show revX emX = Rl ff from Rl_ff.symm)), told_ff]
    rw [hl]
    exact g5N ol os (by unfold turN; rw [h.err, he]; rfl)
  | false =>
    have := g5Y (n := n) ol os (by unfold turY; rw [h.err, he]; rfl)
    rw [take_all2 ol, h.turL] at this
    exact this
theorem chainF_len (f : Nat → Bool) (n : Nat) : (chainF f n).length = (hgF f n (topF f n) + 1) * 1 := by unfold chainF; rw [List.length_reverse, outsF_len, Nat.mul_one]
theorem Ord.x_eq (h : Ord n r) : flat (othRL n (flat (graRL n (flat (toldL r)) (toldL r).length)) (graRL n (flat (toldL r)) (toldL r).length).length) = flatN (othN n r) ∧ (othRL n (flat (graRL n (flat (toldL r)) (toldL r).length)) (graRL n (flat (toldL r)) (toldL r).length).length).length = (othN n r).length := by
  rw [oth_eq, flat_ofN, List.length_map]
  exact ⟨rfl, rfl⟩
theorem pairsN_short {g : Nat → Nat → Bool} (hn : n ≤ 7) : (pairsN g n n).length ≤ 49 := by
  have h1 := listL_len g n n
  rw [listL_pairs, List.length_map] at h1
  have h2 : n * n ≤ 7 * 7 := Nat.mul_le_mul hn hn
  omega
theorem Ord.lay (h : Ord n r) : OkO n 100000 (layA (flat (toldL r)) (toldL r).length n n) := by
  obtain ⟨h1, h2⟩ := OkO.layA (n := n) (m := (toldL r).length) (q := flat (toldL r)) n
  refine ⟨h1, fun x hx => ?_⟩
  have h3 := h2 x hx
  have h4 : n * (toldL r).length ≤ 7 * 49 := Nat.mul_le_mul h.hi (told_short2 r)
  omega
theorem tail5 (h : Ord n r) : Exec PP T none x5.nt 0 Y5 (T5 n (flat (toldL r)) (toldL r).length) .r (RB 6 true) := by
  have ol := flat_len (toldL r)
  have os := told_short r
  have os2 := told_short2 r
  have tl := flat_len (toldL (turnR r))
  have ts := told_short2 (turnR r)
  have hC := h.ordC
  have h8 := hgF_le (fO n r) n (topF (fO n r) n)
  have hch := h5 (tl := (toldL (turnR r)).length) (t := flat (toldL (turnR r))) ol os hC
  rw [take_all2 ol] at hch
  have hly := i5 (tl := (toldL (turnR r)).length) (t := flat (toldL (turnR r))) (k := hgF (fO n r) n (topF (fO n r) n) + 1) (c := chainF (fO n r) n) ol os hC
  rw [take_all2 ol] at hly
  refine exec_seq (x := Y5.a) (y := Y5.b) (f5 ol os h.isOrd) (exec_seq (x := Y5.b.a) (y := Y5.b.b) h.g5 (exec_seq (x := Y5.b.b.a) (y := Y5.b.b.b) hch (exec_seq (x := Y5.b.b.b.a) (y := Y5.b.b.b.b) hly ?_)))
  have hs : sameP (flat (toldL (turnR r))) (toldL (turnR r)).length (flat (turRL n (flat (toldL r)) (toldL r).length)) (turRL n (flat (toldL r)) (toldL r).length).length = true := by rw [h.turned]; exact same_self
  have hv := h.lay
  cases hk : oriOk n (rOth (fO n r) n) with
  | true =>
    obtain ⟨⟨k1, k2⟩, ⟨p1, p2⟩, hcom⟩ := h.lines hk
    have hc : cReaY [.int (Int.ofNat n), .sl 2 (flat (toldL r)) (toldL r).length] = true := by
      show (Eng.ordC _ _ _ && (oriOk n (rOth (fO n r) n) && (lnOk (rS1 (fO n r) n) n && lnOk (rS2 (fO n r) n) n))) = true
      rw [hC, hk, k1, k2]
      rfl
    have hj := j5Y (tl := (toldL (turnR r)).length) (t := flat (toldL (turnR r))) (k := hgF (fO n r) n (topF (fO n r) n) + 1) (c := chainF (fO n r) n) (y := lqF (fO n r) n n) ol os hc
    rw [take_all2 ol] at hj
    have hkk := k5Y (tl := (toldL (turnR r)).length) (t := flat (toldL (turnR r))) (k := hgF (fO n r) n (topF (fO n r) n) + 1) (c := chainF (fO n r) n) (y := lqF (fO n r) n n) (w := lnF (rS1 (fO n r) n) n n) (w' := lnF (rS2 (fO n r) n) n n) ol (by omega) h.hi h.pairsIn
    rw [take_all2 ol] at hkk
    have ho := o5Y (tl := (toldL (turnR r)).length) (t := flat (toldL (turnR r))) (k := hgF (fO n r) n (topF (fO n r) n) + 1) (c := chainF (fO n r) n) (y := lqF (fO n r) n n) (w := lnF (rS1 (fO n r) n) n n) (w' := lnF (rS2 (fO n r) n) n n) (v := layA (flat (toldL r)) (toldL r).length n n) ol (by omega) h.hi
    simp only [take_all2 ol, take_all2 (flat_len _)] at ho
    rw [h.x_eq.1, h.x_eq.2] at ho
    have hq := q5Y ol (by omega) h.lo h.hi (w := lnF (rS1 (fO n r) n) n n) (w' := lnF (rS2 (fO n r) n) n n) (by rw [lnF_len, Nat.mul_one]) (by rw [lnF_len, Nat.mul_one]) p1 p2 (by rw [hcom]; exact same_self)
    have hts : tsQ n (toldL r).length (flat (toldL r)) (lnF (rS1 (fO n r) n) n n) (lnF (rS2 (fO n r) n) n n) = true := by
      unfold tsQ
      rw [take_all1 (by rw [lnF_len, Nat.mul_one]), take_all1 (by rw [lnF_len, Nat.mul_one]), hcom, take_all2 ol]
      exact same_self
    rw [hts] at hq
    refine exec_seq (x := Y5.b.b.b.b.a) (y := Z5) hj (exec_seq (x := Z5.a) (y := Z5.b) hkk (exec_seq (x := Z5.b.a) (y := Z5.b.b) l5Y (exec_seq (x := Z5.b.b.a) (y := Z5.b.b.b) (w5Y hv h.hi) (exec_seq (x := Z5.b.b.b.a) (y := Z5.b.b.b.b) (n5Y ol (by omega) h.hi tl (by omega) (chainF_len _ _) (by omega) (by rw [lqF_len, Nat.mul_one]) (by rw [hv.1, Nat.mul_one]) hs (h.long).symm h.chain h.ints) (exec_seq (x := Z5.b.b.b.b.a) (y := Z5.b.b.b.b.b) ho
      (exec_seq (x := Z5.b.b.b.b.b.a) (y := Z5.b.b.b.b.b.b) (p5Y (flatN_len _) (by have := pairsN_short (g := gg34 (flat (graRL n (flat (toldL r)) (toldL r).length)) (graRL n (flat (toldL r)) (toldL r).length).length) h.hi; unfold othN; omega) h.hi (h.clash.1 hk)) (exec_seq (x := Z5.b.b.b.b.b.b.a) (y := Z5.b.b.b.b.b.b.b) hq r5)))))))
  | false =>
    have hc : cReaN [.int (Int.ofNat n), .sl 2 (flat (toldL r)) (toldL r).length] = true := by
      show (Eng.ordC _ _ _ && !(oriOk n (rOth (fO n r) n))) = true
      rw [hC, hk]
      rfl
    have hj := j5N (tl := (toldL (turnR r)).length) (t := flat (toldL (turnR r))) (k := hgF (fO n r) n (topF (fO n r) n) + 1) (c := chainF (fO n r) n) (y := lqF (fO n r) n n) ol os hc
    have hkk := k5N (tl := (toldL (turnR r)).length) (t := flat (toldL (turnR r))) (k := hgF (fO n r) n (topF (fO n r) n) + 1) (c := chainF (fO n r) n) (y := lqF (fO n r) n n) ol (by omega) h.hi h.pairsIn
    rw [take_all2 ol] at hkk
    have ho := o5N (tl := (toldL (turnR r)).length) (t := flat (toldL (turnR r))) (k := hgF (fO n r) n (topF (fO n r) n) + 1) (c := chainF (fO n r) n) (y := lqF (fO n r) n n) (v := layA (flat (toldL r)) (toldL r).length n n) ol (by omega) h.hi
    simp only [take_all2 ol, take_all2 (flat_len _)] at ho
    rw [h.x_eq.1, h.x_eq.2] at ho
    refine exec_seq (x := Y5.b.b.b.b.a) (y := Z5) hj (exec_seq (x := Z5.a) (y := Z5.b) hkk (exec_seq (x := Z5.b.a) (y := Z5.b.b) l5N (exec_seq (x := Z5.b.b.a) (y := Z5.b.b.b) (w5N hv h.hi) (exec_seq (x := Z5.b.b.b.a) (y := Z5.b.b.b.b) (n5N ol (by omega) h.hi tl (by omega) (chainF_len _ _) (by omega) (by rw [lqF_len, Nat.mul_one]) (by rw [hv.1, Nat.mul_one]) hs (h.long).symm h.chain h.ints) (exec_seq (x := Z5.b.b.b.b.a) (y := Z5.b.b.b.b.b) ho
      (exec_seq (x := Z5.b.b.b.b.b.a) (y := Z5.b.b.b.b.b.b) (p5N (flatN_len _) (by have := pairsN_short (g := gg34 (flat (graRL n (flat (toldL r)) (toldL r).length)) (graRL n (flat (toldL r)) (toldL r).length).length) h.hi; unfold othN; omega) h.hi (fun e => by rw [h.clash.2 e] at hk; cases hk)) (exec_seq (x := Z5.b.b.b.b.b.b.a) (y := Z5.b.b.b.b.b.b.b) q5N r5)))))))
end
/-- all pairs -/
def allR (n : Nat) : Nat → Bool := fun j => decide (j / 7 < j % 7) && decide (j % 7 < n)
theorem at7_allR {n x y : Nat} (hy : y < 7) : at7 (allR n) x y = (decide (x < y) && decide (y < n)) := by
  unfold at7 allR
  rw [show (x * 7 + y) / 7 = x by omega, show (x * 7 + y) % 7 = y by omega]
theorem Rl_allR {n x y : Nat} (hn : n ≤ 7) : Rl (allR n) x y ↔ x < y ∧ y < n := by
  unfold Rl
  constructor
  · rintro ⟨h1, h2, h3⟩
    rw [at7_allR h2] at h3
    simpa using h3
  · intro h
    exact ⟨by omega, by omega, by rw [at7_allR (by omega)]; simpa using h⟩
theorem ord_all {n : Nat} (h1 : 1 ≤ n) (hn : n ≤ 7) : Ord n (allR n) := by
  refine ⟨h1, hn, fun {x y} h => ?_, transB_Rl.2 ⟨fun {a b} h k => ?_, fun {a b c} h k => ?_⟩⟩
  · have := (Rl_allR hn).1 h
    omega
  · have := (Rl_allR hn).1 h
    have := (Rl_allR hn).1 k
    omega
  · have k1 := (Rl_allR hn).1 h
    have k2 := (Rl_allR hn).1 k
    exact (Rl_allR hn).2 (by omega)
theorem told_all {n : Nat} (hn : n ≤ 7) : listL ggA n n = toldL (allR n) := told_cut hn (fun {x y} h => by have := (Rl_allR hn).1 h; omega) fun x y hx hy => by
  unfold ggA
  rw [Rl_allR hn, decide_eq_true_eq]
  omega
theorem tam_ok7 (n : Int) (q : List Int) (m : Nat) : err0 (Int.ofNat (tamN n 7)) (flat (tamL n q m 7)) (tamL n q m 7).length = true ∧ (tamL n q m 7).length ≤ 1000000000 := by
  obtain ⟨_, h1, h2⟩ := tamN_eq n (k := 7) (by omega) (by omega)
  constructor
  · unfold err0 tamL
    rw [listL_pairs, flat_ofN, List.length_map, checkP_flat h1 (by omega) (pairsN_lex _ _ _) fun p hp => ?_]
    · rfl
    · obtain ⟨k1, k2, k3⟩ := mem_pairsN.1 hp
      unfold tamG at k3
      simp at k3
      exact ⟨k3.1, k2⟩
  · have := listL_len (tamG (tamN n 7) q m) (tamN n 7) (tamN n 7)
    have h3 : tamN n 7 * tamN n 7 ≤ 7 * 7 := Nat.mul_le_mul h2 h2
    unfold tamL
    omega
theorem body5 {n : Int} {q : List Int} {m : Nat} (hq : q.length = m * 2) : Exec PP T none x5.nt 0 x5.body (startSt (A40 n m ++ List.replicate 1 (.s .any)) (H1 q)) .r (RB 6 true) := by
  obtain ⟨_, h1, h7⟩ := tamN_eq n (k := 7) (by omega) (by omega)
  obtain ⟨he, hs⟩ := tam_ok7 n q m
  have hl := flat_len (tamL n q m 7)
  have hb := b5 (n := n) hq
  rw [take_all2 hq] at hb
  refine exec_seq (x := x5.body.a) (y := x5.body.b) a5 (exec_seq (x := x5.body.b.a) (y := x5.body.b.b) hb ?_)
  cases hk : oriOk (tamN n 7) (nearF (flat (tamL n q m 7)) (tamL n q m 7).length) with
  | true =>
    obtain ⟨r1, r2⟩ := ori_order he hk
    have hc := c5Y hl hs he hk
    rw [take_all2 hl] at hc
    exact exec_seq (x := x5.body.b.b.a) (y := x5.body.b.b.b) hc (exec_seq (x := x5.body.b.b.b.a) (y := x5.body.b.b.b.b) d5Y (exec_seq (x := x5.body.b.b.b.b.a) (y := Y5) e5Y (tail5 ⟨h1, h7, r1, r2⟩)))
  | false =>
    have hN : 1 + tamN n 7 % 5 ≤ 7 := by omega
    have hE := e5N h7
    rw [told_all hN] at hE
    exact exec_seq (x := x5.body.b.b.a) (y := x5.body.b.b.b) (c5N hl hs he hk) (exec_seq (x := x5.body.b.b.b.a) (y := x5.body.b.b.b.b) d5N (exec_seq (x := x5.body.b.b.b.b.a) (y := Y5) hE (tail5 (ord_all (by omega) hN))))
end Go.Proofs.Yteekkjfjpoaihaa.Eng
namespace Go.Proofs.Yteekkjfjpoaihaa.Eng
open Go Go.Proofs Go.ChangeShapes Go.WideShapes Go.ChangeAt Go.RowKit
theorem cells38 : PP.cellsOf 38 = 2 := by kernel_rfl
theorem cells3 : PP.cellsOf 3 = 1 := by kernel_rfl
theorem cells_two {W : World} {b off : Nat} {cs : List Value} (h : W.cells? 0 ⟨b, off, none⟩ 2 = some cs) : ∃ c d, cs = [c, d] ∧ W.cell? ⟨b, off, none⟩ = some c ∧ W.cell? ⟨b, off + 1, none⟩ = some d := by
  have e0 : (⟨b, off, none⟩ : Addr).add 0 = ⟨b, off, none⟩ := rfl
  have e1 : (⟨b, off, none⟩ : Addr).add 1 = ⟨b, off + 1, none⟩ := rfl
  simp only [World.cells?, Nat.zero_le, if_true, show List.range 2 = [0, 1] from rfl, List.mapM_cons, List.mapM_nil, e0, e1, Option.bind_eq_bind] at h
  cases h0 : W.cell? ⟨b, off, none⟩ with
  | none => simp [h0] at h
  | some c =>
    cases h1 : W.cell? ⟨b, off + 1, none⟩ with
    | none => simp [h0, h1] at h
    | some d =>
      simp [h0, h1] at h
      exact ⟨c, d, h.symm, rfl, rfl⟩
section
variable {H : Type} {enc : TypeId × Value → H} {W : World} {base : Nat}
set_option maxRecDepth 100000 in
/-- two ints in a row, out of a reading of [2]int -/
theorem two_ints {n : Nat} {c d : Value} {x : DataW H × List MemPlace} (h : DataW.trod enc PP W 0 (fun _ => true) true n 38 [c, d] = some x) : ∃ u v : Int, c = .int .i64 u ∧ d = .int .i64 v := by
  obtain ⟨xs, m, rfl, rfl, hl, hx, hi⟩ := DataW.trod_array Try.underlying38 h
  have h0 := hi 0 (by omega)
  have h1 := hi 1 (by omega)
  rw [cells3] at h0 h1
  match xs, hx with
  | [y0, y1], _ =>
    simp only [List.getElem?_cons_zero, List.getElem?_cons_succ] at h0 h1
    obtain ⟨u, e0, _⟩ := DataW.trod_int Try.underlying3 h0
    obtain ⟨v, e1, _⟩ := DataW.trod_int Try.underlying3 h1
    simp at e0 e1
    exact ⟨u, v, e0, e1⟩
set_option maxRecDepth 100000 in
theorem open_pairs {fuel : Nat} {a : Option Addr} {len cap : Nat} {x : DataW H × List MemPlace} (hv : Value.okWide PP W .any base 22 (.slice a len cap)) (h : DataW.trod enc PP W 0 (fun _ => true) true fuel 22 [.slice a len cap] = some x) :
    ∃ (mb : MB) (q : List Int), (∀ m', OR (compC T) m' mb (.xvec .i64 2 q) W) ∧ (∀ b, mb.b = some b → b < W.heap.size) ∧ (∀ (m' : MM) id, m' id = some mb → SR m' (.sl id 0 2 len) (.slice a len cap)) ∧ q.length = len * 2 := by
  rcases DataW.trod_slice Try.underlying22 h with ⟨hcs, _⟩ | ⟨a', len', cap', elems, rest, n, _, hcs, _, _, hl, hm, hlen, hel, _, _⟩
  · simp at hcs
    obtain ⟨rfl, rfl, rfl⟩ := hcs
    exact ⟨⟨none, 0, 0⟩, [], fun m' => .inl ⟨rfl, rfl, rfl⟩, fun b hb => (by cases hb), fun m' id hm => ⟨_, hm, Nat.le_refl _, .inl ⟨rfl, rfl, rfl, rfl, rfl⟩⟩, rfl⟩
  · simp at hcs
    obtain ⟨rfl, rfl, rfl⟩ := hcs
    simp only [Value.okWide, Try.underlying22, Cell.okWide, Cell.ok] at hv
    obtain ⟨_, _, _, hspot, row, cells, hsh, _⟩ := hv
    obtain ⟨b, off, spot⟩ := a'
    simp only at hspot hsh
    subst hspot
    have hlt : b < W.heap.size := by
      unfold World.shape? at hsh
      split at hsh
      · rename_i hb
        exact (Array.getElem?_eq_some_iff.1 hb).1
      · cases hsh
    have hcell : ∀ j, j < len * 2 → ∃ u : Int, W.cell? ⟨b, off + j, none⟩ = some (.int .i64 u) := by
      intro j hj
      have he := hel (j / 2) (by omega)
      rw [cells38] at he
      have hi : j / 2 < elems.length := by omega
      rw [List.getElem?_eq_getElem hi, Option.bind_eq_some_iff] at he
      obtain ⟨cs, hc, ht⟩ := he
      have hadd : (⟨b, off, none⟩ : Addr).add (j / 2 * 2) = ⟨b, off + j / 2 * 2, none⟩ := by simp [Addr.add]
      rw [hadd] at hc
      obtain ⟨c, d, rfl, h0, h1⟩ := cells_two hc
      obtain ⟨u, v, rfl, rfl⟩ := two_ints ht
      by_cases hp : j % 2 = 0
      · exact ⟨u, by rw [show off + j = off + j / 2 * 2 by omega]; exact h0⟩
      · exact ⟨v, by rw [show off + j = off + j / 2 * 2 + 1 by omega]; exact h1⟩
    let g : Nat → Int := fun j => match W.cell? ⟨b, off + j, none⟩ with | some (.int _ u) => u | _ => 0
    refine ⟨⟨some b, off, cap⟩, (List.range (len * 2)).map g, fun m' => .inr ⟨b, rfl, fun j hj => ?_⟩, fun b' hb' => (by cases hb'; exact hlt), fun m' id hm => ⟨_, hm, by simpa using hl, .inr ⟨b, off, rfl, rfl, .inr (by simp)⟩⟩, by simp⟩
    simp at hj
    obtain ⟨u, hu⟩ := hcell j (by omega)
    show W.cell? ⟨b, off + j, none⟩ = _
    rw [hu]
    simp [hj, g, hu]
end
set_option maxRecDepth 100000 in
/-- a law whose body answers yes, over what came in -/
theorem calls_law {f : FuncId} {x : XFn} (hx : FunOK PP T f x) {m0 : MM} {hs : List HO} {args0 : List AV} {vals : List Value} {w : World} {t : Nat} (hview : RoView (compC T) m0 hs w) (hargs : All2 (AR m0) args0 vals) (hlen : Nat.ble args0.length x.nt = true)
    (hrun : Exec PP T none x.nt 0 x.body (startSt args0 hs) .r (RB t true)) (hres : x.res = [.t t]) : Calls PP f vals.toArray w fun e w' => e = .returned (.bool true) ∧ Below w.heap.size w w' := by
  obtain ⟨_, fn, hf, hxf⟩ := hx
  refine (callsIn_exec (kp := 0) (tv := B true) tokP hf hxf (Nat.le_of_ble_eq_true hlen) (fun t s => startSt_slot) rfl hrun (.inr rfl) rfl ?_ (hview.hrel args0) hargs fun v w' m1 _ hv hH1 => ?_ : CallsIn (FR none) 0 PP f vals.toArray w fun e w' => e = .returned (.bool true) ∧ Below w.heap.size w w').calls fun k => ?_
  · rw [hres]
    simp only [resV, resVs, resV1, evalX]
    have : (RB t true).sl.get t = some ⟨true, B true⟩ := by
      show alGet [(t, _)] t = _
      rw [alGet_cons, beqT rfl]
      rfl
    simp [this]
  · have hv : v = .bool true := hv
    subst hv
    exact ⟨rfl, hH1.os, hH1.tape, hH1.output, hH1.size, fun b hb => hH1.same0 b hb (fun h => h)⟩
  · exact fun _ h => (by cases h)
end Go.Proofs.Yteekkjfjpoaihaa.Eng
namespace Go.Proofs.Yteekkjfjpoaihaa
open Go.ChangeShapes Go.WideShapes Go.ChangeAt Go.RowKit
open Eng (open_pairs calls_law body5 mm1 ro1 H1 A40)
theorem ordersOwn : ownKnob Try.prog.godebug = none := by kernel_rfl
theorem ordersLaid : laidOutB Try.prog = true := by kernel_rfl
set_option maxRecDepth 100000 in
theorem orders_lifted (os : Os) (started : os.Started) (H : Type) (enc : TypeId × Value → H) :
    ReturnsInHanded {} Try.checked os 5 .any (Rows.ordersOrdersSpec.pre6 enc Try.prog Try.f5 Rows.ordersOrdersRow.domain false) (Rows.ordersOrdersSpec.post enc Try.prog Try.f5 false true false false) := by
  refine returnsInHanded_of_change (C := Try.checked) ordersOwn started (by kernel_rfl) Try.func5
    (ChangeSpec.witness6 (enc := enc) (C := Try.checked) false ⟨#[], #[.int .i64 0, .slice none 0 0, .int .i64 0], []⟩ 8 (by kernel_rfl) (by kernel_rfl) (by kernel_rfl) (by kernel_rfl)) ?_
  intro W base args ds gs before hval0 hW hcnd _
  have hval : ∀ (j : Nat) t v, Try.f5.params[j]? = some t → args[j]? = some v → Value.okWide Try.prog W .any base t v := hval0
  have hW' := hW
  obtain ⟨p, q, hA0, hV, rfl, hfz, hnd⟩ := hW
  have hA : DataW.TrodAll enc Try.prog W 0 (fun _ => true) true Try.f5.params.toList args.toList ds p := hA0
  rw [Try.params5] at hA hval
  obtain ⟨v0, v1, v2, d0, d1, d2, p0, p1, p2, rfl, rfl, rfl, h0, h1, h2⟩ := trodAll_three hA
  obtain ⟨rfl, rfl⟩ := trodVars_none hV
  have lt : ∀ {t v d p}, DataW.Trod enc Try.prog W 0 (fun _ => true) true t v d p → ∀ x ∈ p, x.block < W.heap.size := fun h x hx => by
    obtain ⟨m, hm⟩ := h
    exact DataW.trod_lt m _ _ _ hm x hx
  have k0 := h0
  have k1 := h1
  have k2 := h2
  obtain ⟨n, rfl, rfl, rfl, _⟩ := open_int Try.underlying3 (hval 0 3 v0 rfl rfl) h0
  have ok1 := hval 1 22 v1 rfl rfl
  obtain ⟨a, len, cap, rfl⟩ := okWide_slice Try.underlying22 ok1
  obtain ⟨fuel, hf⟩ := h1
  simp only [Value.cells] at hf
  obtain ⟨mb, ql, r1, r2, r3, r4⟩ := open_pairs ok1 hf
  obtain ⟨x, rfl, rfl, rfl, _⟩ := open_int Try.underlying3 (hval 2 3 v2 rfl rfl) h2
  clear hA0 hval0
  have run : Calls Try.prog 5 #[.int .i64 n, .slice a len cap, .int .i64 x] W fun e w' => e = .returned (.bool true) ∧ Below W.heap.size W w' :=
    calls_law (vals := [.int .i64 n, .slice a len cap, .int .i64 x]) Eng.o5 (m0 := mm1 mb) (hs := H1 ql) (args0 := A40 n len ++ List.replicate 1 (Eng.AV.s Eng.SV.any)) (t := 6) (ro1 r1 r2) (show Eng.All2 (Eng.AR (mm1 mb)) [.s (.int .i64 n), .s (.sl 0 0 2 len), .s .any] _ from ⟨rfl, r3 (mm1 mb) 0 rfl, trivial, trivial⟩) (by kernel_rfl) (body5 r4) (by kernel_rfl)
  refine run.mono fun e W' ⟨he, bel⟩ => ?_
  subst he
  exact ⟨_, rfl, _, _, _, [], _, [], hW', trodAll_mk1 (shut_bool Try.underlying4 _), (trodAll_cons_mk (Below.trod ordersLaid (by kernel_rfl) (of_decide_eq_true (by kernel_rfl)) k0 bel (lt k0)) (trodAll_cons_mk (Below.trod ordersLaid (by kernel_rfl) (of_decide_eq_true (by kernel_rfl)) k1 bel (lt k1)) (trodAll_cons_mk (Below.trod ordersLaid (by kernel_rfl) (of_decide_eq_true (by kernel_rfl)) k2 bel (lt k2)) trodAll_mk0))), rfl, bel.frame _, fun h => by cases h⟩
/-- the statement -/
theorem ordersOrders_holds : Rows.OrdersOrdersSaid :=
  OpenClaim.holds_of_wide 5 Try.f5 rfl rfl rfl rfl rfl rfl rfl ⟨rfl, rfl, rfl, rfl, rfl⟩ rfl rfl rfl rfl rfl (by kernel_rfl) Try.func5 (by kernel_rfl)
    (of_decide_eq_true (by kernel_rfl)) (by unfold Func.isWrapper; first | (rw [if_pos (by decide +kernel)]; kernel_rfl) | (rw [if_neg (by decide +kernel)]; exact ⟨rfl, rfl⟩))
    (fun os started H enc _ => orders_lifted os started H enc)
end Go.Proofs.Yteekkjfjpoaihaa

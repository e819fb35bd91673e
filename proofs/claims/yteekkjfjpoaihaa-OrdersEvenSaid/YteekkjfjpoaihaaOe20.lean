/- A part of the proof of ordersEven_holds. -/
import Derived.Test.YteekkjfjpoaihaaOe19
set_option linter.all false
namespace Go.Proofs.Yteekkjfjpoaihaa.Eng
open Go Go.Proofs
def Lc8 : List (Nat × Spec) := [(48, spOpen), (49, spedges)]
theorem Lc8_ok : SpecsL Lc8 := specsL_cons ok48 spOpen_fp o48 (specsL_cons ok49 spedges_fp o49 (fun p hp => absurd hp (by simp)))
noncomputable abbrev gc8 : Cal → Option Spec := specsΓ Lc8
theorem envc8 : EnvOK PP T gc8 := envL Lc8_ok
noncomputable def Lg8 (s : Spec) : List (Nat × Spec) := [(50, s)]
theorem Lg8_ok {s : Spec} (h : SpecOK PP (compC T) 50 s) (hfp : SpecFp s) : SpecsL (Lg8 s) := specsL_cons h hfp o50 (fun p hp => absurd hp (by simp))
noncomputable abbrev gg8 (s : Spec) : Cal → Option Spec := specsΓ (Lg8 s)
theorem envg8 {s : Spec} (h : SpecOK PP (compC T) 50 s) (hfp : SpecFp s) : EnvOK PP T (gg8 s) := envL (Lg8_ok h hfp)
abbrev IW (q : List Int) : HO := ⟨false, .ivec 38 .i64 2 q⟩
abbrev CG (k : Nat) : HO := ⟨false, .row 64 [.ptr k 0 0] 0 ff⟩
abbrev CL (k m : Nat) : HO := ⟨false, .row 22 [.sl k 0 2 m] 0 ff⟩
theorem p8a {n : Int} {q : List Int} {m : Nat} : Exec PP T none x8.nt 0 x8.body.a (startSt (A40 n m) (H1 q)) .n (mkSt [(0, ⟨true, I n⟩), (1, sl0 m)] (H1 q) 1 []) := by
  refine exec_orun env0 false 60 [] [0] (fun _ => rfl) (by kernel_rfl) (by kernel_rfl) (by kernel_rfl) (by kernel_rfl)
theorem p8b {n : Nat} {q : List Int} {m : Nat} (hq : q.length = m * 2) (hm : m ≤ 1000000000) (h : err0 (Int.ofNat n) q m = true) : Exec PP T none x8.nt 0 x8.body.b.a (mkSt [(0, ⟨true, I n⟩), (1, sl0 m)] (H1 q) 1 []) .n (mkSt [(0, ⟨true, I n⟩), (6, g1S 1), (7, ⟨true, I 0⟩)] [GF n (nearF q m), CG 0] 2 []) := by
  have key : Exec PP T none x8.nt 0 x8.body.b.a (mkSt [(0, ⟨true, I n⟩), (1, sl0 m)] (H1 q) 1 []) .n (mkSt [(0, ⟨true, I n⟩), (6, g1S 1), (7, ⟨true, I 0⟩)] [GF n (nearF (List.take (m * 2) (List.drop 0 q)) m), CG 0] 2 []) := by
    refine exec_orun envc8 false 60 [] [1, 9] (fun _ => rfl) (by kernel_rfl) (by kernel_rfl) (by kernel_rfl) ?_
    rw [(show obOf (orun gc8 false 60 x8.body.b.a (mkSt [(0, ⟨true, I n⟩), (1, sl0 m)] (H1 q) 1 []) []) = (decide ((0 + m) * 2 ≤ q.length) && (decide (m ≤ 1000000000) && checkP (Int.ofNat n) (List.take (m * 2) q) m == 0) && true && true && true) from by kernel_rfl)]
    try rw [tk0 hq]
    simp only [err0] at h
    simp at h
    simp [hq, hm, h]
  rw [tk hq] at key
  exact key
theorem p8c {n : Nat} {f : Nat → Bool} : Exec PP T none x8.nt 0 x8.body.b.b.a (mkSt [(0, ⟨true, I n⟩), (6, g1S 1), (7, ⟨true, I 0⟩)] [GF n f, CG 0] 2 []) .n (mkSt [(0, ⟨true, I n⟩), (6, g1S 1)] [GF n f, CG 0] 2 []) := by
  refine exec_orun env0 false 60 [false] [0, 1] (fun _ => rfl) (by kernel_rfl) (by kernel_rfl) (by kernel_rfl) (by kernel_rfl)
theorem p8d {n : Nat} {f : Nat → Bool} (hn : n ≤ 6) : Exec PP T none x8.nt 0 x8.body.b.b.b.a (mkSt [(0, ⟨true, I n⟩), (6, g1S 1)] [GF n f, CG 0] 2 []) .n (mkSt [(6, g1S 1)] [GF n f, CG 0] 2 []) := by
  refine exec_orun env0 false 60 [false] [0, 1] (fun _ => rfl) (by kernel_rfl) (by kernel_rfl) (by kernel_rfl) ?_
  rw [(show obOf (orun g0 false 60 x8.body.b.b.b.a (mkSt [(0, ⟨true, I n⟩), (6, g1S 1)] [GF n f, CG 0] 2 []) [false]) = (!decide (Int.ofNat n > 6) && true) from by kernel_rfl)]
  simp
  omega
theorem p8e {n : Nat} {f : Nat → Bool} (hn : n ≤ 6) : Exec PP T none x8.nt 0 x8.body.b.b.b.b.a (mkSt [(6, g1S 1)] [GF n f, CG 0] 2 []) .n (mkSt [(6, g1S 1), (8, g1S 3)] [GF n f, CG 0, IW (flat (edgesL n f)), CL 2 (edgesL n f).length] 4 []) := by
  refine exec_orun envc8 false 60 [] [0, 1, 2, 10] (fun _ => rfl) (by kernel_rfl) (by kernel_rfl) (by kernel_rfl) ?_
  rw [(show obOf (orun gc8 false 60 x8.body.b.b.b.b.a (mkSt [(6, g1S 1)] [GF n f, CG 0] 2 []) []) = (decide (0 ≤ Int.ofNat n) && decide (Int.ofNat n ≤ 7) && true && true && true) from by kernel_rfl)]
  simp
  omega
theorem p8f {n : Nat} {f : Nat → Bool} {q : List Int} {m : Nat} : Exec PP T none x8.nt 0 x8.body.b.b.b.b.b.a (mkSt [(6, g1S 1), (8, g1S 3)] [GF n f, CG 0, IW q, CL 2 m] 4 []) .n (mkSt [(6, g1S 1), (8, g1S 3), (9, g1S 4)] [GF n f, CG 0, IW q, CL 2 m, ⟨false, .row 3 [.int .i64 0] 0 ff⟩] 5 []) := by
  refine exec_orun env0 false 60 [] [0, 1, 2, 3, 4] (fun _ => rfl) (by kernel_rfl) (by kernel_rfl) (by kernel_rfl) (by kernel_rfl)
theorem p8g {n : Nat} {f : Nat → Bool} {q : List Int} {m : Nat} : Exec PP T none x8.nt 0 x8.body.b.b.b.b.b.b.a (mkSt [(6, g1S 1), (8, g1S 3), (9, g1S 4)] [GF n f, CG 0, IW q, CL 2 m, ⟨false, .row 3 [.int .i64 0] 0 ff⟩] 5 []) .n (mkSt [(6, g1S 1), (8, g1S 3), (9, g1S 4), (10, g1S 5)] [GF n f, CG 0, IW q, CL 2 m, ⟨false, .row 3 [.int .i64 0] 0 ff⟩, R70 ff] 6 []) := by
  refine exec_orun env0 false 60 [] [0, 1, 2, 3, 4, 5] (fun _ => rfl) (by kernel_rfl) (by kernel_rfl) (by kernel_rfl) (by kernel_rfl)
theorem p8h {n : Nat} {f : Nat → Bool} {q : List Int} {m : Nat} : Exec PP T none x8.nt 0 x8.body.b.b.b.b.b.b.b.a (mkSt [(6, g1S 1), (8, g1S 3), (9, g1S 4), (10, g1S 5)] [GF n f, CG 0, IW q, CL 2 m, ⟨false, .row 3 [.int .i64 0] 0 ff⟩, R70 ff] 6 []) .n (mkSt [(6, g1S 1), (8, g1S 3), (9, g1S 4), (10, g1S 5), (11, g1S 6)] [GF n f, CG 0, IW q, CL 2 m, ⟨false, .row 3 [.int .i64 0] 0 ff⟩, R70 ff, ⟨false, .row 71 [.nilf] 0 ff⟩] 7 []) := by
  refine exec_orun env0 false 60 [] [0, 1, 2, 3, 4, 5, 6] (fun _ => rfl) (by kernel_rfl) (by kernel_rfl) (by kernel_rfl) (by kernel_rfl)
abbrev C8 (n : Nat) (f : Nat → Bool) (q : List Int) (m : Nat) (r : Nat → Bool) (c : Nat) : St := mkSt [(9, g1S 4), (11, g1S 6)] (HC false n f q m r c) 7 []
theorem p8i {n : Nat} {f : Nat → Bool} {q : List Int} {m : Nat} : Exec PP T none x8.nt 0 x8.body.b.b.b.b.b.b.b.b.a (mkSt [(6, g1S 1), (8, g1S 3), (9, g1S 4), (10, g1S 5), (11, g1S 6)] [GF n f, CG 0, IW q, CL 2 m, ⟨false, .row 3 [.int .i64 0] 0 ff⟩, R70 ff, ⟨false, .row 71 [.nilf] 0 ff⟩] 7 []) .n (C8 n f q m ff 0) := by
  refine exec_orun env0 false 60 [] [0, 2, 3, 5, 4, 1, 6] (fun _ => rfl) (by kernel_rfl) (by kernel_rfl) (by kernel_rfl) (by kernel_rfl)
theorem p8j {n : Nat} {f : Nat → Bool} {q : List Int} {m : Nat} {r : Nat → Bool} {c c' : Nat} (hs : SpecOK PP (compC T) 50 (spG false n f q m 0 r c c')) : Exec PP T none x8.nt 0 x8.body.b.b.b.b.b.b.b.b.b.a (C8 n f q m r c) .n (C8 n f q m r c') := by
  refine exec_orun (envg8 hs spAt_fp) false 60 [] id7 (fun _ => rfl) (by kernel_rfl) (by kernel_rfl) (by kernel_rfl) ?_
  rw [(show obOf (orun (gg8 (spG false n f q m 0 r c c')) false 60 x8.body.b.b.b.b.b.b.b.b.b.a (C8 n f q m r c) []) = (atB (AG 0) (AG 0) (mkSt [] (HC false n f q m r c) 7 []).hp.get (mkSt [] (HC false n f q m r c) 7 []).hp.get 7 7 && true && true && true) from by kernel_rfl)]
  simp
theorem p8k {n : Nat} {f : Nat → Bool} {q : List Int} {m : Nat} {r : Nat → Bool} {c : Nat} : Exec PP T none x8.nt 0 x8.body.b.b.b.b.b.b.b.b.b.b (C8 n f q m r c) .r (mkSt [(4, ⟨true, I c⟩), (5, ⟨true, I 0⟩)] [] 0 []) := by
  refine exec_orun env0 false 60 [] [] (fun _ => rfl) (by kernel_rfl) (by kernel_rfl) (by kernel_rfl) (by kernel_rfl)
theorem pairsN_succ (g : Nat → Nat → Bool) (n a : Nat) : pairsN g n (a + 1) = pairsN g n a ++ ((List.range n).filter (g a)).map fun y => (a, y) := by
  unfold pairsN
  rw [List.range_succ, List.flatMap_append]
  simp
theorem pairsN_nodup (g : Nat → Nat → Bool) (n : Nat) : ∀ a, (pairsN g n a).Nodup
  | 0 => by simp [pairsN]
  | a + 1 => by
    rw [pairsN_succ, List.nodup_append]
    refine ⟨pairsN_nodup g n a, ?_, fun x hx y hy => ?_⟩
    · exact List.pairwise_map.2 (((List.nodup_range (n := n)).sublist List.filter_sublist).imp fun hne e => hne (Prod.mk.inj e).2)
    · have h1 := (mem_pairsN.1 hx).1
      obtain ⟨k, _, rfl⟩ := List.mem_map.1 hy
      rintro rfl
      simp at h1
/-- the edges as pairs of numbers -/
def edgN (n : Nat) (f : Nat → Bool) : List (Nat × Nat) := pairsN (gg49 n f) n n
theorem edgN_eq {n : Nat} {f : Nat → Bool} : flat (edgesL n f) = flatN (edgN n f) := by
  unfold edgesL edgN
  rw [listL_pairs, flat_ofN]
theorem edgN_len {n : Nat} {f : Nat → Bool} : (edgesL n f).length = (edgN n f).length := by
  unfold edgesL edgN
  rw [listL_pairs, List.length_map]
theorem mem_edgN {n : Nat} {f : Nat → Bool} {p : Nat × Nat} : p ∈ edgN n f ↔ p.1 < p.2 ∧ p.2 < n ∧ at7 f p.1 p.2 = true := by
  unfold edgN
  rw [mem_pairsN]
  simp
  constructor
  · rintro ⟨h1, h2, h3, h4⟩; exact ⟨h3, h2, h4⟩
  · rintro ⟨h1, h2, h3⟩; exact ⟨by omega, h2, h1, h3⟩
theorem edgN_ok {n : Nat} {f : Nat → Bool} (hn : n ≤ 7) : EdgeL (edgN n f) := ⟨pairsN_nodup _ _ _, fun p hp => by
  have := mem_edgN.1 hp
  omega⟩
theorem edgN_short {n : Nat} {f : Nat → Bool} (hn : n ≤ 7) : (edgN n f).length ≤ 49 := by
  rw [← edgN_len]
  have := listL_len (gg49 n f) n n
  have : n * n ≤ 7 * 7 := Nat.mul_le_mul hn hn
  unfold edgesL
  omega
/-- how many orders -/
def cntN (n : Nat) (f : Nat → Bool) : Nat := cntL n f (edgN n f) ff
def cntC (n : Int) (q : List Int) (m : Nat) : Bool := err0 n q m && decide (n ≤ 6)
def gct (n : Int) (q : List Int) (m : Nat) : TV := .tup [.s (.int .i64 (Int.ofNat (cntN n.toNat (nearF q m)))), .s (.int .i64 0)]
theorem body8 {n : Nat} {q : List Int} {m : Nat} (hq : q.length = m * 2) (hm : m ≤ 1000000000) (h : err0 (Int.ofNat n) q m = true) (hn : n ≤ 6) : Exec PP T none x8.nt 0 x8.body (startSt (A40 (Int.ofNat n) m) (H1 q)) .r (mkSt [(4, ⟨true, I (cntN n (nearF q m))⟩), (5, ⟨true, I 0⟩)] [] 0 []) := by
  have ke := p8e (n := n) (f := nearF q m) hn
  rw [edgN_eq, edgN_len] at ke
  have hs : SpecOK PP (compC T) 50 (spG false n (nearF q m) (flatN (edgN n (nearF q m))) (edgN n (nearF q m)).length 0 ff 0 (0 + cntL n (nearF q m) (edgN n (nearF q m)) ff)) :=
    ok50 (by omega) (edgN_short (by omega)) _ false 0 ff 0 rfl (by omega) (edgN_ok (by omega)) (fun p hp => ⟨rfl, rfl⟩) (by
      have := edgN_short (n := n) (f := nearF q m) (by omega)
      have := Nat.pow_le_pow_right (show 0 < 2 by omega) this
      omega)
  have e0 : 0 + cntL n (nearF q m) (edgN n (nearF q m)) ff = cntN n (nearF q m) := by rw [Nat.zero_add]; rfl
  rw [e0] at hs
  exact exec_seq (x := x8.body.a) (y := x8.body.b) p8a (exec_seq (x := x8.body.b.a) (y := x8.body.b.b) (p8b hq hm h) (exec_seq (x := x8.body.b.b.a) (y := x8.body.b.b.b) p8c (exec_seq (x := x8.body.b.b.b.a) (y := x8.body.b.b.b.b) (p8d hn) (exec_seq (x := x8.body.b.b.b.b.a) (y := x8.body.b.b.b.b.b) ke (exec_seq (x := x8.body.b.b.b.b.b.a) (y := x8.body.b.b.b.b.b.b) p8f (exec_seq (x := x8.body.b.b.b.b.b.b.a) (y := x8.body.b.b.b.b.b.b.b) p8g (exec_seq (x := x8.body.b.b.b.b.b.b.b.a) (y := x8.body.b.b.b.b.b.b.b.b) p8h (exec_seq (x := x8.body.b.b.b.b.b.b.b.b.a) (y := x8.body.b.b.b.b.b.b.b.b.b) p8i (exec_seq (x := x8.body.b.b.b.b.b.b.b.b.b.a) (y := x8.body.b.b.b.b.b.b.b.b.b.b) (p8j hs) p8k)))))))))
theorem ok8C : SpecOK PP (compC T) 8 (pureS (intPairsX 0 cntC gct)) :=
  intPairsX_ok o8 0 cntC (fun n q m => [(4, ⟨true, I (cntN n.toNat (nearF q m))⟩), (5, ⟨true, I 0⟩)]) _ (by kernel_rfl) (fun n q m hq hm hc => (by
    unfold cntC at hc
    rw [Bool.and_eq_true] at hc
    obtain ⟨h0, _⟩ := err0_rng hc.1
    obtain ⟨k, rfl⟩ : ∃ k : Nat, n = Int.ofNat k := ⟨n.toNat, by simp; omega⟩
    exact body8 hq hm hc.1 (by have := hc.2; simp at this; omega))) (fun n q m => by kernel_rfl) (fun n q m => by kernel_rfl)
end Go.Proofs.Yteekkjfjpoaihaa.Eng
namespace Go.Proofs.Yteekkjfjpoaihaa.Ori
/-- an arrow forces another one -/
def Gam (E : Nat → Nat → Prop) (x y : Nat × Nat) : Prop := (x.1 = y.1 ∧ ¬ E x.2 y.2) ∨ (x.2 = y.2 ∧ ¬ E x.1 y.1)
/-- what is reached from an arrow -/
inductive Cls (E : Nat → Nat → Prop) (x : Nat × Nat) : Nat × Nat → Prop
  | refl : Cls E x x
  | step {y z : Nat × Nat} : Cls E x y → Gam E y z → E z.1 z.2 → Cls E x z
structure Graph (E : Nat → Nat → Prop) : Prop where
  sym : ∀ {a b}, E a b → E b a
  irr : ∀ a, ¬ E a a
def sw (x : Nat × Nat) : Nat × Nat := (x.2, x.1)
section
variable {E : Nat → Nat → Prop}
theorem Cls.mem {x y : Nat × Nat} (h : Cls E x y) (hx : E x.1 x.2) : E y.1 y.2 := by
  cases h with
  | refl => exact hx
  | step _ _ h => exact h
theorem Gam.symm (hG : Graph E) {x y : Nat × Nat} (h : Gam E x y) : Gam E y x := by
  rcases h with ⟨h1, h2⟩ | ⟨h1, h2⟩
  · exact .inl ⟨h1.symm, fun h => h2 (hG.sym h)⟩
  · exact .inr ⟨h1.symm, fun h => h2 (hG.sym h)⟩
theorem Gam.sw {x y : Nat × Nat} (h : Gam E x y) : Gam E (sw x) (sw y) := by
  rcases h with ⟨h1, h2⟩ | ⟨h1, h2⟩
  · exact .inr ⟨h1, h2⟩
  · exact .inl ⟨h1, h2⟩
theorem Cls.trans {x y z : Nat × Nat} (h : Cls E x y) (k : Cls E y z) : Cls E x z := by
  induction k with
  | refl => exact h
  | step _ g e ih => exact .step ih g e
theorem Cls.symm (hG : Graph E) {x y : Nat × Nat} (hx : E x.1 x.2) (h : Cls E x y) : Cls E y x := by
  induction h with
  | refl => exact .refl
  | step h g _ ih => exact (Cls.step .refl (g.symm hG) (h.mem hx)).trans ih
theorem Cls.sw (hG : Graph E) {x y : Nat × Nat} (h : Cls E x y) : Cls E (sw x) (Ori.sw y) := by
  induction h with
  | refl => exact .refl
  | step _ g e ih => exact .step ih g.sw (hG.sym e)
/-- no class holds an arrow and the same one turned -/
def NoClash (E : Nat → Nat → Prop) : Prop := ∀ x : Nat × Nat, E x.1 x.2 → ¬ Cls E x (sw x)
/-- the triangle's law -/
theorem triangle (hG : Graph E) {a b c : Nat} (hab : E a b) (hac : E a c) (hbc : E b c) (h1 : ¬ Cls E (b, c) (a, c)) (h2 : ¬ Cls E (b, c) (b, a)) {y : Nat × Nat} (hy : Cls E (b, c) y) :
    (E a y.1 ∧ Cls E (a, b) (a, y.1)) ∧ E a y.2 ∧ Cls E (a, c) (a, y.2) := by
  induction hy with
  | refl => exact ⟨⟨hab, .refl⟩, hac, .refl⟩
  | step hy g e ih =>
    rename_i y z
    obtain ⟨⟨i1, i2⟩, i3, i4⟩ := ih
    rcases g with ⟨g1, g2⟩ | ⟨g1, g2⟩
    · have hE : E a z.2 := Classical.byContradiction fun hn => h2 (by
        have s1 : Cls E (b, c) (y.1, a) := (hy.step (z := z) (.inl ⟨g1, g2⟩) e).step (.inl ⟨g1.symm, fun h => hn (hG.sym h)⟩) (hG.sym i1)
        have s2 : Cls E (b, a) (y.1, a) := i2.sw hG
        exact s1.trans (s2.symm hG (hG.sym hab)))
      rw [← g1]
      exact ⟨⟨i1, i2⟩, hE, i4.step (.inl ⟨rfl, g2⟩) hE⟩
    · have hE : E a z.1 := Classical.byContradiction fun hn => h1 (by
        have s1 : Cls E (b, c) (a, y.2) := (hy.step (z := z) (.inr ⟨g1, g2⟩) e).step (.inr ⟨g1.symm, fun h => hn (hG.sym h)⟩) i3
        exact s1.trans (i4.symm hG hac))
      rw [← g1]
      exact ⟨⟨hE, i2.step (.inl ⟨rfl, g2⟩) hE⟩, i3, i4⟩
/-- a class without a clash is transitive -/
theorem cls_trans (hG : Graph E) (hN : NoClash E) {x : Nat × Nat} {a b c : Nat} (hx : E x.1 x.2) (h1 : Cls E x (a, b)) (h2 : Cls E x (b, c)) : Cls E x (a, c) := by
  have hab : E a b := h1.mem hx
  have hbc : E b c := h2.mem hx
  have h12 : Cls E (a, b) (b, c) := (h1.symm hG hx).trans h2
  have hac : E a c := Classical.byContradiction fun hn => hN (b, c) hbc (by
    have s : Cls E (a, b) (c, b) := Cls.step .refl (.inr ⟨rfl, hn⟩) (hG.sym hbc)
    exact (h12.symm hG hab).trans s)
  refine Classical.byContradiction fun hn => ?_
  have := triangle hG hab hac hbc (fun h => hn (h2.trans h)) (fun h => hN (a, b) hab (h12.trans h)) (h12.symm hG hab)
  exact hG.irr a this.1.1
/-- its second part -/
theorem triangle2 (hG : Graph E) {a b c a' : Nat} (hab : E a b) (hac : E a c) (hbc : E b c) (h1 : ¬ Cls E (b, c) (a, c)) (h2 : ¬ Cls E (b, c) (b, a)) (h : Cls E (a, b) (a', b)) : E a' c ∧ Cls E (a, c) (a', c) := by
  have hb' : E a' b := h.mem hab
  have h2' : ¬ Cls E (a, b) (c, b) := fun k => h2 ((k.sw hG).symm hG (hG.sym hab))
  have hac' : E a' c := Classical.byContradiction fun hn => h2' (h.trans (Cls.step .refl (.inr ⟨rfl, hn⟩) (hG.sym hbc)))
  refine ⟨hac', ?_⟩
  -- the apex c over the arrow (a, b), or over (a', b)
  by_cases hB : Cls E (a, b) (a, c)
  · by_cases hD : Cls E (a, b) (a', c)
    · exact (hB.symm hG hab).trans hD
    · have t := triangle hG (a := c) (b := a') (c := b) (hG.sym hac') (hG.sym hbc) hb' (fun k => h2' (h.trans k)) (fun k => hD (h.trans k)) (h.symm hG hab)
      exact (t.1.2.sw hG).symm hG hac'
  · have t := triangle hG (a := c) (b := a) (c := b) (hG.sym hac) (hG.sym hbc) hab h2' hB h
    exact t.1.2.sw hG
/-- the same, the other way round -/
theorem triangle2' (hG : Graph E) {a b c a' : Nat} (hab : E a b) (hac : E a c) (hbc : E b c) (h1 : ¬ Cls E (b, c) (a, c)) (h2 : ¬ Cls E (b, c) (b, a)) (h : Cls E (a, c) (a', c)) : E a' b ∧ Cls E (a, b) (a', b) :=
  triangle2 hG hac hab (hG.sym hbc) (fun k => h2 (k.sw hG)) (fun k => h1 (k.sw hG)) h
/-- where an arrow to b is in the class of an arrow to c: all one class -/
theorem triangle3 (hG : Graph E) {a b c : Nat} (hab : E a b) (hac : E a c) (hbc : E b c) (h2 : ¬ Cls E (b, c) (b, a)) {y : Nat × Nat} (h : Cls E (a, b) y) (hy : y.1 = c ∨ y.2 = c) : Cls E (a, b) (a, c) := by
  refine Classical.byContradiction fun hB => ?_
  have h2' : ¬ Cls E (a, b) (c, b) := fun k => h2 ((k.sw hG).symm hG (hG.sym hab))
  have t := triangle hG (a := c) (b := a) (c := b) (hG.sym hac) (hG.sym hbc) hab h2' hB h
  rcases hy with e | e
  · rw [e] at t; exact hG.irr c t.1.1
  · rw [e] at t; exact hG.irr c t.2.1
/-- what is left without a class -/
def Less (E : Nat → Nat → Prop) (x : Nat × Nat) (a b : Nat) : Prop := E a b ∧ ¬ Cls E x (a, b) ∧ ¬ Cls E x (b, a)
theorem Less.graph (hG : Graph E) (x : Nat × Nat) : Graph (Less E x) := ⟨fun ⟨h1, h2, h3⟩ => ⟨hG.sym h1, h3, h2⟩, fun a h => hG.irr a h.1⟩
theorem Less.cls (hG : Graph E) {x y z : Nat × Nat} (h : Less E x y.1 y.2) (k : Cls E y z) : Less E x z.1 z.2 := by
  have hz := k.mem h.1
  refine ⟨hz, fun c => h.2.1 (c.trans (k.symm hG h.1)), fun c => h.2.2 (c.trans ?_)⟩
  exact (k.symm hG h.1).sw hG
variable {b c : Nat}
/-- the two classes at a node that sees the class -/
def Two (E : Nat → Nat → Prop) (b c p : Nat) (z : Nat × Nat) : Prop := Cls E (p, b) z ∨ Cls E (p, c) z
theorem good_of (hG : Graph E) (hbc : E b c) {p q q' : Nat} (h1 : Less E (b, c) p q) (h2 : Less E (b, c) p q') (hq : Cls E (b, c) (q, q')) :
    (Less E (b, c) p b ∧ Less E (b, c) p c) ∧ Cls E (p, b) (p, q) ∧ Cls E (p, c) (p, q') := by
  have hqq : E q q' := hq.mem hbc
  have t := triangle hG h1.1 h2.1 hqq (fun k => h2.2.1 (hq.trans k)) (fun k => h1.2.2 (hq.trans k)) (hq.symm hG hbc)
  exact ⟨⟨h1.cls hG t.1.2, h2.cls hG t.2.2⟩, t.1.2.symm hG h1.1, t.2.2.symm hG h2.1⟩
/-- a step that is new where the class is gone -/
theorem new_step (hG : Graph E) (hbc : E b c) {x y : Nat × Nat} (hx : Less E (b, c) x.1 x.2) (hy : Less E (b, c) y.1 y.2) (g : Gam (Less E (b, c)) x y) :
    Gam E x y ∨ (∃ p, (Less E (b, c) p b ∧ Less E (b, c) p c) ∧ ((Cls E (p, b) x ∧ Cls E (p, c) y) ∨ (Cls E (p, c) x ∧ Cls E (p, b) y))) ∨
      ∃ p, (Less E (b, c) p b ∧ Less E (b, c) p c) ∧ ((Cls E (p, b) (sw x) ∧ Cls E (p, c) (sw y)) ∨ (Cls E (p, c) (sw x) ∧ Cls E (p, b) (sw y))) := by
  rcases g with ⟨g1, g2⟩ | ⟨g1, g2⟩
  · by_cases hE : E x.2 y.2
    · right; left
      have hc : Cls E (b, c) (x.2, y.2) ∨ Cls E (b, c) (y.2, x.2) := Classical.byContradiction fun hn => g2 ⟨hE, fun h => hn (.inl h), fun h => hn (.inr h)⟩
      obtain ⟨x1, x2⟩ := x
      obtain ⟨y1, y2⟩ := y
      simp only at g1 hc hx hy
      subst g1
      rcases hc with hc | hc
      · obtain ⟨k1, k2, k3⟩ := good_of hG hbc hx hy hc
        exact ⟨x1, k1, .inl ⟨k2, k3⟩⟩
      · obtain ⟨k1, k2, k3⟩ := good_of hG hbc hy hx hc
        exact ⟨x1, k1, .inr ⟨k3, k2⟩⟩
    · exact .inl (.inl ⟨g1, hE⟩)
  · by_cases hE : E x.1 y.1
    · right; right
      have hc : Cls E (b, c) (x.1, y.1) ∨ Cls E (b, c) (y.1, x.1) := Classical.byContradiction fun hn => g2 ⟨hE, fun h => hn (.inl h), fun h => hn (.inr h)⟩
      obtain ⟨x1, x2⟩ := x
      obtain ⟨y1, y2⟩ := y
      simp only at g1 hc hx hy
      subst g1
      have hx' := (Less.graph hG (b, c)).sym hx
      have hy' := (Less.graph hG (b, c)).sym hy
      rcases hc with hc | hc
      · obtain ⟨k1, k2, k3⟩ := good_of hG hbc hx' hy' hc
        exact ⟨x2, k1, .inl ⟨k2, k3⟩⟩
      · obtain ⟨k1, k2, k3⟩ := good_of hG hbc hy' hx' hc
        exact ⟨x2, k1, .inr ⟨k3, k2⟩⟩
    · exact .inl (.inr ⟨g1, hE⟩)
/-- both conditions of the triangle's law -/
theorem cond1 {p : Nat} (h : Less E (b, c) p c) : ¬ Cls E (b, c) (p, c) := h.2.1
theorem cond2 {p : Nat} (h : Less E (b, c) p b) : ¬ Cls E (b, c) (b, p) := h.2.2
theorem cond2' (hG : Graph E) (hbc : E b c) {p : Nat} (h : Less E (b, c) p c) : ¬ Cls E (c, b) (c, p) := fun k => h.2.1 (k.sw hG)
/-- if the arrow from p to b reaches one that touches c, the two classes at p are one; and the other way round -/
theorem one_b (hG : Graph E) (hbc : E b c) {p : Nat} (hb : Less E (b, c) p b) (hc : Less E (b, c) p c) {y : Nat × Nat} (h : Cls E (p, b) y) (hy : y.1 = c ∨ y.2 = c) : Cls E (p, b) (p, c) :=
  triangle3 hG hb.1 hc.1 hbc (cond2 hb) h hy
theorem one_c (hG : Graph E) (hbc : E b c) {p : Nat} (hb : Less E (b, c) p b) (hc : Less E (b, c) p c) {y : Nat × Nat} (h : Cls E (p, c) y) (hy : y.1 = b ∨ y.2 = b) : Cls E (p, c) (p, b) :=
  triangle3 hG hc.1 hb.1 (hG.sym hbc) (cond2' hG hbc hc) h hy
/-- the two classes are closed under the steps that are left -/
theorem two_closed (hG : Graph E) (hN : NoClash E) (hbc : E b c) {p : Nat} (hb : Less E (b, c) p b) (hc : Less E (b, c) p c) {x y : Nat × Nat} (hx : Two E b c p x) (hxe : Less E (b, c) x.1 x.2) (hye : Less E (b, c) y.1 y.2) (g : Gam (Less E (b, c)) x y) : Two E b c p y := by
  rcases new_step hG hbc hxe hye g with g | ⟨p', ⟨hb', hc'⟩, h⟩ | ⟨p', ⟨hb', hc'⟩, h⟩
  · rcases hx with h | h
    · exact .inl (h.step g hye.1)
    · exact .inr (h.step g hye.1)
  · -- from the same side
    rcases hx with hx | hx <;> rcases h with ⟨h1, h2⟩ | ⟨h1, h2⟩
    · have k : Cls E (p, b) (p', b) := hx.trans (h1.symm hG hb'.1)
      exact .inr ((triangle2 hG hb.1 hc.1 hbc (cond1 hc) (cond2 hb) k).2.trans h2)
    · have k : Cls E (p, b) (p', c) := hx.trans (h1.symm hG hc'.1)
      have o := one_b hG hbc hb hc k (.inr rfl)
      have k2 : Cls E (p, c) (p', c) := (o.symm hG hb.1).trans k
      exact .inl ((triangle2' hG hb.1 hc.1 hbc (cond1 hc) (cond2 hb) k2).2.trans h2)
    · have k : Cls E (p, c) (p', b) := hx.trans (h1.symm hG hb'.1)
      have o := one_c hG hbc hb hc k (.inr rfl)
      have k2 : Cls E (p, b) (p', b) := (o.symm hG hc.1).trans k
      exact .inr ((triangle2 hG hb.1 hc.1 hbc (cond1 hc) (cond2 hb) k2).2.trans h2)
    · have k : Cls E (p, c) (p', c) := hx.trans (h1.symm hG hc'.1)
      exact .inl ((triangle2' hG hb.1 hc.1 hbc (cond1 hc) (cond2 hb) k).2.trans h2)
  · -- from the other side
    have hb'' : E b p' := hG.sym hb'.1
    have hc'' : E c p' := hG.sym hc'.1
    have both : ∀ {q : Nat × Nat}, (Cls E (p, b) (b, p') ∨ Cls E (p, b) (c, p') ∨ Cls E (p, c) (b, p') ∨ Cls E (p, c) (c, p')) → Cls E (p, b) (p, c) ∧ Cls E (p, b) (b, p') ∧ Cls E (p, b) (c, p') := by
      intro _ h
      have fin : Cls E (p, b) (p, c) → (Cls E (p, b) (b, p') ∨ Cls E (p, b) (c, p')) → Cls E (p, b) (p, c) ∧ Cls E (p, b) (b, p') ∧ Cls E (p, b) (c, p') := by
        intro o h
        rcases h with h | h
        · -- (p', b) is turned in the class; so is (c, p)
          have e1 : Cls E (p', b) (c, p) := ((h.symm hG hb.1).trans o).sw hG
          have e2 := one_b hG hbc hb' hc' e1 (.inl rfl)
          exact ⟨o, h, h.trans (e2.sw hG)⟩
        · have e1 : Cls E (p', c) (b, p) := (h.symm hG hb.1).sw hG
          have e2 := one_c hG hbc hb' hc' e1 (.inl rfl)
          exact ⟨o, h.trans (e2.sw hG), h⟩
      rcases h with h | h | h | h
      · by_cases o : Cls E (p, b) (p, c)
        · exact fin o (.inl h)
        · -- the apex c over the arrow (p, b)
          have h2' : ¬ Cls E (p, b) (c, b) := fun k => cond2 hb ((k.sw hG).symm hG (hG.sym hb.1))
          have t := triangle hG (a := c) (b := p) (c := b) (hG.sym hc.1) (hG.sym hbc) hb.1 h2' o h
          exact absurd (t.1.2.sw hG).symm fun k => absurd ((t.1.2.symm hG (hG.sym hc.1)).sw hG) (fun k => hc.2.1 k)
      · have o := one_b hG hbc hb hc h (.inl rfl)
        exact fin o (.inr h)
      · have o := one_c hG hbc hb hc h (.inl rfl)
        exact fin (o.symm hG hc.1) (.inl ((o.symm hG hc.1).trans h))
      · by_cases o : Cls E (p, c) (p, b)
        · exact fin (o.symm hG hc.1) (.inr ((o.symm hG hc.1).trans h))
        · have h2' : ¬ Cls E (p, c) (b, c) := fun k => cond1 hc (k.symm hG hc.1)
          have t := triangle hG (a := b) (b := p) (c := c) (hG.sym hb.1) hbc hc.1 h2' o h
          exact absurd ((t.1.2.symm hG (hG.sym hb.1)).sw hG) (fun k => hb.2.2 (k.sw hG))
    rcases hx with hx | hx <;> rcases h with ⟨h1, h2⟩ | ⟨h1, h2⟩
    · obtain ⟨o, o1, o2⟩ := both (q := x) (.inl (hx.trans ((h1.symm hG hb'.1).sw hG)))
      exact .inl (o2.trans (h2.sw hG))
    · obtain ⟨o, o1, o2⟩ := both (q := x) (.inr (.inl (hx.trans ((h1.symm hG hc'.1).sw hG))))
      exact .inl (o1.trans (h2.sw hG))
    · obtain ⟨o, o1, o2⟩ := both (q := x) (.inr (.inr (.inl (hx.trans ((h1.symm hG hb'.1).sw hG)))))
      exact .inl (o2.trans (h2.sw hG))
    · obtain ⟨o, o1, o2⟩ := both (q := x) (.inr (.inr (.inr (hx.trans ((h1.symm hG hc'.1).sw hG)))))
      exact .inl (o1.trans (h2.sw hG))
theorem two_cls (hG : Graph E) (hN : NoClash E) (hbc : E b c) {p : Nat} (hb : Less E (b, c) p b) (hc : Less E (b, c) p c) {x y : Nat × Nat} (hx : Two E b c p x) (hxe : Less E (b, c) x.1 x.2) (h : Cls (Less E (b, c)) x y) : Two E b c p y := by
  induction h with
  | refl => exact hx
  | step h g e ih => exact two_closed hG hN hbc hb hc ih (h.mem hxe) e g
/-- no arrow and its turned one in the two classes -/
theorem two_clash (hG : Graph E) (hN : NoClash E) (hbc : E b c) {p : Nat} (hb : Less E (b, c) p b) (hc : Less E (b, c) p c) {x : Nat × Nat} (h1 : Two E b c p x) (h2 : Two E b c p (sw x)) : False := by
  have cross : ¬ Cls E (p, b) (c, p) := fun k => by
    have := cls_trans hG hN hb.1 k .refl
    exact hb.2.2 ((this.sw hG).symm hG (hG.sym hb.1))
  rcases h1 with h1 | h1 <;> rcases h2 with h2 | h2
  · exact hN (p, b) hb.1 (h1.trans ((h2.symm hG hb.1).sw hG))
  · exact cross (h1.trans ((h2.symm hG hc.1).sw hG))
  · exact cross (h2.trans ((h1.symm hG hc.1).sw hG))
  · exact hN (p, c) hc.1 (h1.trans ((h2.symm hG hc.1).sw hG))
/-- what is left without a class has no clash -/
theorem less_noClash (hG : Graph E) (hN : NoClash E) (hbc : E b c) : NoClash (Less E (b, c)) := by
  intro d hd hcl
  have hG' := Less.graph hG (b, c)
  have key : ∀ {z : Nat × Nat}, Cls (Less E (b, c)) d z → Cls E d z ∨ ∃ x p, Cls (Less E (b, c)) d x ∧ (Less E (b, c) p b ∧ Less E (b, c) p c) ∧ (Two E b c p x ∨ Two E b c p (sw x)) := by
    intro z h
    induction h with
    | refl => exact .inl .refl
    | step h g e ih =>
      rename_i y z
      rcases ih with ih | ih
      · rcases new_step hG hbc (h.mem hd) e g with g' | ⟨p, hp, k⟩ | ⟨p, hp, k⟩
        · exact .inl (ih.step g' e.1)
        · exact .inr ⟨y, p, h, hp, .inl (by rcases k with ⟨k, _⟩ | ⟨k, _⟩; exact .inl k; exact .inr k)⟩
        · exact .inr ⟨y, p, h, hp, .inr (by rcases k with ⟨k, _⟩ | ⟨k, _⟩; exact .inl k; exact .inr k)⟩
      · exact .inr ih
  rcases key hcl with h | ⟨x, p, h, ⟨hb, hc⟩, k⟩
  · exact hN d hd.1 h
  · have hxe : Less E (b, c) x.1 x.2 := h.mem hd
    have h1 : Cls (Less E (b, c)) x d := h.symm hG' hd
    have h2 : Cls (Less E (b, c)) x (sw d) := h1.trans hcl
    rcases k with k | k
    · exact two_clash hG hN hbc hb hc (two_cls hG hN hbc hb hc k hxe h1) (two_cls hG hN hbc hb hc k hxe h2)
    · have hse : Less E (b, c) (sw x).1 (sw x).2 := hG'.sym hxe
      exact two_clash hG hN hbc hb hc (two_cls hG hN hbc hb hc k hse (h2.sw hG')) (two_cls hG hN hbc hb hc k hse (h1.sw hG'))
/-- a transitive orientation -/
structure TO (E F : Nat → Nat → Prop) : Prop where
  sub : ∀ {a b}, F a b → E a b
  all : ∀ {a b}, E a b → F a b ∨ F b a
  asym : ∀ {a b}, F a b → ¬ F b a
  trans : ∀ {a b c}, F a b → F b c → F a c
/-- a class with an orientation of what is left -/
theorem to_join (hG : Graph E) (hN : NoClash E) {x : Nat × Nat} (hx : E x.1 x.2) {F : Nat → Nat → Prop} (hF : TO (Less E x) F) : TO E fun a b => Cls E x (a, b) ∨ F a b where
  sub := fun h => by
    rcases h with h | h
    · exact h.mem hx
    · exact (hF.sub h).1
  all := fun {a b} h => by
    by_cases h1 : Cls E x (a, b)
    · exact .inl (.inl h1)
    · by_cases h2 : Cls E x (b, a)
      · exact .inr (.inl h2)
      · rcases hF.all ⟨h, h1, h2⟩ with k | k
        · exact .inl (.inr k)
        · exact .inr (.inr k)
  asym := fun {a b} h k => by
    rcases h with h | h <;> rcases k with k | k
    · exact hN (a, b) (h.mem hx) ((h.symm hG hx).trans k)
    · exact (hF.sub k).2.2 h
    · exact (hF.sub h).2.2 k
    · exact hF.asym h k
  trans := fun {a b c} h k => by
    rcases h with h | h <;> rcases k with k | k
    · exact .inl (cls_trans hG hN hx h k)
    · have hbc := hF.sub k
      have hac : E a c := Classical.byContradiction fun hn => hbc.2.2 (h.step (.inr ⟨rfl, hn⟩) (hG.sym hbc.1))
      by_cases h1 : Cls E x (a, c)
      · exact .inl h1
      · by_cases h2 : Cls E x (c, a)
        · exact absurd (cls_trans hG hN hx h2 h) hbc.2.2
        · rcases hF.all ⟨hac, h1, h2⟩ with q | q
          · exact .inr q
          · exact absurd h (hF.sub (hF.trans k q)).2.2
    · have hab := hF.sub h
      have hac : E a c := Classical.byContradiction fun hn => hab.2.2 (k.step (.inl ⟨rfl, fun e => hn (hG.sym e)⟩) (hG.sym hab.1))
      by_cases h1 : Cls E x (a, c)
      · exact .inl h1
      · by_cases h2 : Cls E x (c, a)
        · exact absurd (cls_trans hG hN hx k h2) hab.2.2
        · rcases hF.all ⟨hac, h1, h2⟩ with q | q
          · exact .inr q
          · exact absurd k (hF.sub (hF.trans q h)).2.2
    · exact .inr (hF.trans h k)
/-- an orientation has with each arrow all of its class -/
theorem to_cls (hG : Graph E) {F : Nat → Nat → Prop} (hF : TO E F) {x y : Nat × Nat} (hx : F x.1 x.2) (h : Cls E x y) : F y.1 y.2 := by
  induction h with
  | refl => exact hx
  | step h g e ih =>
    rename_i y z
    rcases hF.all e with k | k
    · exact k
    · exfalso
      rcases g with ⟨g1, g2⟩ | ⟨g1, g2⟩
      · rw [← g1] at k
        exact g2 (hG.sym (hF.sub (hF.trans k ih)))
      · rw [← g1] at k
        exact g2 (hF.sub (hF.trans ih k))
theorem to_noClash (hG : Graph E) {F : Nat → Nat → Prop} (hF : TO E F) : NoClash E := by
  intro x hx h
  rcases hF.all hx with k | k
  · exact hF.asym k (to_cls hG hF k h)
  · exact hF.asym k (to_cls hG hF k (h.sw hG))
end
end Go.Proofs.Yteekkjfjpoaihaa.Ori
namespace Go.Proofs.Yteekkjfjpoaihaa.Eng
open Go Go.Proofs
open Go.Proofs.Yteekkjfjpoaihaa.Ori
/-- a graph as the program keeps it -/
structure GOK (n : Nat) (f : Nat → Bool) : Prop where
  sym : ∀ {x y}, x < n → y < n → at7 f x y = true → at7 f y x = true
  irr : ∀ {x}, x < n → at7 f x x = false
def Ed (n : Nat) (f : Nat → Bool) (x y : Nat) : Prop := x < n ∧ y < n ∧ at7 f x y = true
theorem GOK.graph {n : Nat} {f : Nat → Bool} (h : GOK n f) : Graph (Ed n f) := ⟨fun ⟨a, b, c⟩ => ⟨b, a, h.sym a b c⟩, fun a ⟨h1, _, h2⟩ => by rw [h.irr h1] at h2; cases h2⟩
theorem mem_pushL {l : List (Nat × Nat)} {p q : Nat × Nat} : q ∈ pushL l p ↔ q ∈ l ∨ q = p := by
  unfold pushL
  cases h : l.contains p with
  | true =>
    have := List.contains_iff_mem.1 h
    simp only [cond_true]
    constructor
    · exact .inl
    · rintro (h | rfl)
      · exact h
      · exact this
  | false => simp
theorem mem_stepL {f : Nat → Bool} {a b c : Nat} {l : List (Nat × Nat)} {q : Nat × Nat} : q ∈ stepL f a b c l ↔ q ∈ l ∨ (cnd1 f a b c = true ∧ q = (a, c)) ∨ (cnd2 f a b c = true ∧ q = (c, b)) := by
  unfold stepL
  cases h1 : cnd1 f a b c <;> cases h2 : cnd2 f a b c <;> simp only [cond_true, cond_false, mem_pushL] <;> simp
  exact or_assoc
theorem mem_forcedL {f : Nat → Bool} {a b : Nat} {l : List (Nat × Nat)} {q : Nat × Nat} : ∀ n, q ∈ forcedL f a b l n ↔ q ∈ l ∨ q = (a, b) ∨ ∃ c, c < n ∧ ((cnd1 f a b c = true ∧ q = (a, c)) ∨ (cnd2 f a b c = true ∧ q = (c, b)))
  | 0 => by
    show q ∈ pushL l (a, b) ↔ _
    rw [mem_pushL]
    simp
  | c + 1 => by
    show q ∈ stepL f a b c (forcedL f a b l c) ↔ _
    rw [mem_stepL, mem_forcedL c]
    constructor
    · rintro ((h | h | ⟨d, hd, h⟩) | h)
      · exact .inl h
      · exact .inr (.inl h)
      · exact .inr (.inr ⟨d, by omega, h⟩)
      · exact .inr (.inr ⟨c, by omega, h⟩)
    · rintro (h | h | ⟨d, hd, h⟩)
      · exact .inl (.inl h)
      · exact .inl (.inr (.inl h))
      · by_cases e : d = c
        · subst e; exact .inr h
        · exact .inl (.inr (.inr ⟨d, by omega, h⟩))
theorem pushL_pre (l : List (Nat × Nat)) (p : Nat × Nat) : l <+: pushL l p := by
  unfold pushL
  cases l.contains p
  · exact List.prefix_append _ _
  · exact List.prefix_refl _
theorem stepL_pre {f : Nat → Bool} {a b c : Nat} (l : List (Nat × Nat)) : l <+: stepL f a b c l := by
  unfold stepL
  cases cnd1 f a b c <;> cases cnd2 f a b c
  · exact List.prefix_refl _
  · exact pushL_pre _ _
  · exact pushL_pre _ _
  · exact (pushL_pre _ _).trans (pushL_pre _ _)
theorem forcedL_pre {f : Nat → Bool} {a b : Nat} (l : List (Nat × Nat)) : ∀ n, l <+: forcedL f a b l n
  | 0 => pushL_pre _ _
  | n + 1 => (forcedL_pre l n).trans (stepL_pre _)
theorem lstI_pre {n : Nat} {f : Nat → Bool} {a b i : Nat} : ∀ k, lstI n f a b i <+: lstI n f a b (i + k)
  | 0 => List.prefix_refl _
  | k + 1 => (lstI_pre k).trans (forcedL_pre _ n)
theorem pre_getD {l l' : List (Nat × Nat)} (h : l <+: l') {i : Nat} (hi : i < l.length) : l'.getD i (0, 0) = l.getD i (0, 0) := by
  obtain ⟨t, rfl⟩ := h
  rw [List.getD_eq_getElem?_getD, List.getD_eq_getElem?_getD, List.getElem?_append_left hi]
section
variable {n : Nat} {f : Nat → Bool} {a b : Nat}
theorem lst_long (hn : n ≤ 7) (ha : a < n) (hb : b < n) : ∀ j, j < stopR n f a b → j < (lstI n f a b j).length := by
  intro j hj
  have h := (stopR_spec (n := n) (f := f) (a := a) (b := b) (by omega) (by omega) hn).2
  have hI := invI (n := n) (f := f) (a := a) (b := b) (by omega) (by omega) hn j fun k hk => h k (by omega)
  rw [← hI.m]
  exact h j hj
theorem lst_end (hn : n ≤ 7) (ha : a < n) (hb : b < n) : (rchL n f a b).length ≤ stopR n f a b := by
  have h := (stopR_spec (n := n) (f := f) (a := a) (b := b) (by omega) (by omega) hn)
  have hI := rch_inv (n := n) (f := f) (a := a) (b := b) (by omega) (by omega) hn
  rw [← hI.m]
  have := h.1
  show (sigI n f a b (stopR n f a b)).2.2 ≤ _
  omega
theorem lst_snd (hab : Ed n f a b) : ∀ i, (∀ j, j < i → j < (lstI n f a b j).length) → ∀ p ∈ lstI n f a b i, Cls (Ed n f) (a, b) p
  | 0, _, p, hp => by
    simp [lstI] at hp
    subst hp
    exact .refl
  | i + 1, h, p, hp => by
    have ih := lst_snd hab i fun j hj => h j (by omega)
    have hi := h i (by omega)
    have hm : (lstI n f a b i).getD i (0, 0) ∈ lstI n f a b i := by simp [hi]
    have hx := ih _ hm
    have hE := hx.mem hab
    have hp' : p ∈ forcedL f ((lstI n f a b i).getD i (0, 0)).1 ((lstI n f a b i).getD i (0, 0)).2 (lstI n f a b i) n := hp
    clear hp
    generalize (lstI n f a b i).getD i (0, 0) = x at hm hx hE hp'
    rcases (mem_forcedL n).1 hp' with h | h | ⟨c, hc, ⟨h1, h2⟩ | ⟨h1, h2⟩⟩
    · exact ih p h
    · subst h
      exact hx
    · subst h2
      unfold cnd1 at h1
      simp at h1
      exact .step hx (.inl ⟨rfl, fun e => by have := e.2.2; rw [h1.2.2] at this; cases this⟩) ⟨hE.1, hc, h1.2.1⟩
    · subst h2
      unfold cnd2 at h1
      simp at h1
      exact .step hx (.inr ⟨rfl, fun e => by have := e.2.2; rw [h1.2.2] at this; cases this⟩) ⟨hc, hE.2.1, h1.2.1⟩
/-- what is reached is the class -/
theorem mem_rch (hn : n ≤ 7) (hab : Ed n f a b) {p : Nat × Nat} : p ∈ rchL n f a b ↔ Cls (Ed n f) (a, b) p := by
  constructor
  · exact lst_snd hab _ (lst_long hn hab.1 hab.2.1) p
  · intro h
    induction h with
    | refl => exact rchL_mem
    | step hy g e ih =>
      rename_i y z
      have hE := hy.mem hab
      obtain ⟨k, hk, hg⟩ := List.getElem_of_mem ih
      have hks : k < stopR n f a b := by
        have := lst_end (f := f) hn hab.1 hab.2.1
        omega
      obtain ⟨d, hd⟩ : ∃ d, stopR n f a b = k + 1 + d := ⟨stopR n f a b - (k + 1), by omega⟩
      have hkl := lst_long (f := f) hn hab.1 hab.2.1 k hks
      have e1 : (lstI n f a b k).getD k (0, 0) = y := by
        have hp : lstI n f a b k <+: rchL n f a b := by
          unfold rchL
          rw [hd, show k + 1 + d = k + (1 + d) by omega]
          exact lstI_pre _
        rw [← pre_getD hp hkl]
        simp [hk, hg]
      have hin : ∀ q, q ∈ lstI n f a b (k + 1) → q ∈ rchL n f a b := fun q hq => by
        have hp : lstI n f a b (k + 1) <+: rchL n f a b := by
          unfold rchL
          rw [hd]
          exact lstI_pre _
        exact hp.subset hq
      have hst : ∀ q, (q = y ∨ ∃ c, c < n ∧ ((cnd1 f y.1 y.2 c = true ∧ q = (y.1, c)) ∨ (cnd2 f y.1 y.2 c = true ∧ q = (c, y.2)))) → q ∈ rchL n f a b := fun q hq => by
        refine hin q ?_
        show q ∈ forcedL f _ _ (lstI n f a b k) n
        rw [e1]
        exact (mem_forcedL n).2 (.inr hq)
      rcases g with ⟨g1, g2⟩ | ⟨g1, g2⟩
      · by_cases hz : z.2 = y.2
        · have : z = y := Prod.ext g1.symm hz
          rw [this]; exact ih
        · refine hst z (.inr ⟨z.2, e.2.1, .inl ⟨?_, Prod.ext g1.symm rfl⟩⟩)
          unfold cnd1
          rw [beqF hz, Bool.not_false, Bool.true_and, Bool.and_eq_true]
          refine ⟨by rw [g1]; exact e.2.2, ?_⟩
          cases h : at7 f y.2 z.2 with
          | false => rfl
          | true => exact absurd ⟨hE.2.1, e.2.1, h⟩ g2
      · by_cases hz : z.1 = y.1
        · have : z = y := Prod.ext hz g1.symm
          rw [this]; exact ih
        · refine hst z (.inr ⟨z.1, e.1, .inr ⟨?_, Prod.ext rfl g1.symm⟩⟩)
          unfold cnd2
          rw [beqF hz, Bool.not_false, Bool.true_and, Bool.and_eq_true]
          refine ⟨by rw [g1]; exact e.2.2, ?_⟩
          cases h : at7 f y.1 z.1 with
          | false => rfl
          | true => exact absurd ⟨hE.1, e.1, h⟩ g2
end
end Go.Proofs.Yteekkjfjpoaihaa.Eng
namespace Go.Proofs.Yteekkjfjpoaihaa.Eng
open Go Go.Proofs
open Go.Proofs.Yteekkjfjpoaihaa.Ori
def Rl (o : Nat → Bool) (x y : Nat) : Prop := x < 7 ∧ y < 7 ∧ at7 o x y = true
theorem transB_iff {f : Nat → Bool} : transB f = true ↔ ∀ a b, a < 7 → b < 7 → at7 f a b = true → at7 f b a = false ∧ ∀ c, c < 7 → at7 f b c = true → at7 f a c = true := by
  unfold transB
  rw [Bool.not_eq_true', List.any_eq_false]
  constructor
  · intro h a b ha hb hab
    have h1 := h a (List.mem_range.2 ha)
    rw [Bool.not_eq_true, List.any_eq_false] at h1
    have h2 := h1 b (List.mem_range.2 hb)
    unfold bb51 at h2
    rw [hab, Bool.true_and, Bool.not_eq_true, Bool.or_eq_false_iff, List.any_eq_false] at h2
    refine ⟨h2.1, fun c hc hbc => ?_⟩
    have h3 := h2.2 c (List.mem_range.2 hc)
    unfold bc51 at h3
    rw [hbc] at h3
    simpa using h3
  · intro h a ha
    rw [Bool.not_eq_true, List.any_eq_false]
    intro b hb
    have ha := List.mem_range.1 ha
    have hb := List.mem_range.1 hb
    unfold bb51
    cases hab : at7 f a b with
    | false => simp
    | true =>
      obtain ⟨h1, h2⟩ := h a b ha hb hab
      rw [h1, Bool.true_and, Bool.false_or, Bool.not_eq_true, List.any_eq_false]
      intro c hc
      unfold bc51
      cases hbc : at7 f b c with
      | false => simp
      | true => rw [h2 c (List.mem_range.1 hc) hbc]; simp
theorem transB_Rl {o : Nat → Bool} : transB o = true ↔ (∀ {a b}, Rl o a b → ¬ Rl o b a) ∧ ∀ {a b c}, Rl o a b → Rl o b c → Rl o a c := by
  rw [transB_iff]
  constructor
  · intro h
    refine ⟨fun {a b} h1 h2 => ?_, fun {a b c} h1 h2 => ⟨h1.1, h2.2.1, (h a b h1.1 h1.2.1 h1.2.2).2 c h2.2.1 h2.2.2⟩⟩
    have := (h a b h1.1 h1.2.1 h1.2.2).1
    rw [h2.2.2] at this
    cases this
  · rintro ⟨h1, h2⟩ a b ha hb hab
    refine ⟨?_, fun c hc hbc => (h2 ⟨ha, hb, hab⟩ ⟨hb, hc, hbc⟩).2.2⟩
    cases hba : at7 o b a with
    | false => rfl
    | true => exact absurd ⟨hb, ha, hba⟩ (h1 ⟨ha, hb, hab⟩)
section
variable {n : Nat} {f : Nat → Bool}
/-- what orient has in hand, before it fails -/
structure OInv (n : Nat) (f : Nat → Bool) (s : (Nat → Bool) × (Nat → Bool)) : Prop where
  gok : GOK n s.2
  sub : ∀ {x y}, Ed n s.2 x y → Ed n f x y
  osub : ∀ {x y}, Rl s.1 x y → Ed n f x y
  dis : ∀ {x y}, Rl s.1 x y → ¬ Ed n s.2 x y ∧ ¬ Ed n s.2 y x
  all : ∀ {x y}, Ed n f x y → Ed n s.2 x y ∨ Rl s.1 x y ∨ Rl s.1 y x
theorem OInv.zero (hf : GOK n f) : OInv n f (ff, f) where
  gok := hf
  sub := id
  osub := fun h => by have := h.2.2; cases this
  dis := fun h => by have := h.2.2; cases this
  all := .inl
theorem clsO_mem {l : Nat → Bool} (hn : n ≤ 7) (h : ¬ (arrowsL n l).length = 0) {p : Nat × Nat} : p ∈ clsO n l ↔ Cls (Ed n l) (fstX n l, fstY n l) p := by
  obtain ⟨_, _, h1, h2, h3⟩ := fst_spec h
  exact mem_rch hn ⟨h1, h2, h3⟩
theorem fst_ed {l : Nat → Bool} (h : ¬ (arrowsL n l).length = 0) : Ed n l (fstX n l) (fstY n l) := by
  obtain ⟨_, _, h1, h2, h3⟩ := fst_spec h
  exact ⟨h1, h2, h3⟩
theorem cls_rng {l : Nat → Bool} (hn : n ≤ 7) (h : ¬ (arrowsL n l).length = 0) : ∀ p ∈ clsO n l, p.1 < 7 ∧ p.2 < 7 := (cls_ok hn h).rng
/-- what is left, as the law has it -/
theorem ed_cut {l : Nat → Bool} (hn : n ≤ 7) (h : ¬ (arrowsL n l).length = 0) {x y : Nat} : Ed n (cutL l (clsO n l)) x y ↔ Less (Ed n l) (fstX n l, fstY n l) x y := by
  have key : x < n → y < n → (at7 (cutL l (clsO n l)) x y = true ↔ at7 l x y = true ∧ ¬ Cls (Ed n l) (fstX n l, fstY n l) (x, y) ∧ ¬ Cls (Ed n l) (fstX n l, fstY n l) (y, x)) := fun hx hy => by
    rw [at7_cutL (cls_rng hn h) (by omega) (by omega), Bool.and_eq_true, Bool.and_eq_true, ← clsO_mem hn h, ← clsO_mem hn h, Bool.not_eq_true', Bool.not_eq_true']
    rw [← List.contains_iff_mem, ← List.contains_iff_mem]
    simp
  unfold Less
  constructor
  · rintro ⟨h1, h2, h3⟩
    obtain ⟨k1, k2, k3⟩ := (key h1 h2).1 h3
    exact ⟨⟨h1, h2, k1⟩, k2, k3⟩
  · rintro ⟨⟨h1, h2, k1⟩, k2, k3⟩
    exact ⟨h1, h2, (key h1 h2).2 ⟨k1, k2, k3⟩⟩
theorem rl_or {o l : Nat → Bool} (hn : n ≤ 7) (h : ¬ (arrowsL n l).length = 0) {x y : Nat} : Rl (orS o (clsO n l)) x y ↔ Rl o x y ∨ Cls (Ed n l) (fstX n l, fstY n l) (x, y) := by
  constructor
  · rintro ⟨h1, h2, h3⟩
    rw [at7_orS (cls_rng hn h) h1 h2, Bool.or_eq_true] at h3
    rcases h3 with h3 | h3
    · exact .inl ⟨h1, h2, h3⟩
    · exact .inr ((clsO_mem hn h).1 (List.contains_iff_mem.1 h3))
  · rintro (⟨h1, h2, h3⟩ | h3)
    · exact ⟨h1, h2, by rw [at7_orS (cls_rng hn h) h1 h2, h3]; rfl⟩
    · have hm := (clsO_mem hn h).2 h3
      obtain ⟨h1, h2⟩ := cls_rng hn h _ hm
      exact ⟨h1, h2, by rw [at7_orS (cls_rng hn h) h1 h2, List.contains_iff_mem.2 hm, Bool.or_true]⟩
theorem OInv.next (hn : n ≤ 7) {s : (Nat → Bool) × (Nat → Bool)} (hs : OInv n f s) (h : ¬ (arrowsL n s.2).length = 0) : OInv n f (orS s.1 (clsO n s.2), cutL s.2 (clsO n s.2)) where
  gok := ⟨fun {x y} hx hy he => by
      have h1 : Less _ _ x y := (ed_cut hn h).1 ⟨hx, hy, he⟩
      have h2 : Less _ _ y x := ⟨hs.gok.graph.sym h1.1, h1.2.2, h1.2.1⟩
      exact ((ed_cut hn h).2 h2).2.2, fun {x} hx => by
      cases he : at7 (cutL s.2 (clsO n s.2)) x x with
      | false => rfl
      | true =>
        have h1 : Less _ _ x x := (ed_cut hn h).1 ⟨hx, hx, he⟩
        have := h1.1.2.2
        rw [hs.gok.irr hx] at this
        cases this⟩
  sub := fun he => hs.sub ((ed_cut hn h).1 he).1
  osub := fun ho => by
    rcases (rl_or hn h).1 ho with ho | ho
    · exact hs.osub ho
    · exact hs.sub (ho.mem (fst_ed h))
  dis := fun {x y} ho => by
    rcases (rl_or hn h).1 ho with ho | ho
    · exact ⟨fun e => (hs.dis ho).1 ((ed_cut hn h).1 e).1, fun e => (hs.dis ho).2 ((ed_cut hn h).1 e).1⟩
    · exact ⟨fun e => ((ed_cut hn h).1 e).2.1 ho, fun e => ((ed_cut hn h).1 e).2.2 ho⟩
  all := fun {x y} he => by
    rcases hs.all he with h1 | h1 | h1
    · by_cases h2 : Cls (Ed n s.2) (fstX n s.2, fstY n s.2) (x, y)
      · exact .inr (.inl ((rl_or hn h).2 (.inr h2)))
      · by_cases h3 : Cls (Ed n s.2) (fstX n s.2, fstY n s.2) (y, x)
        · exact .inr (.inr ((rl_or hn h).2 (.inr h3)))
        · exact .inl ((ed_cut hn h).2 ⟨h1, h2, h3⟩)
    · exact .inr (.inl ((rl_or hn h).2 (.inl h1)))
    · exact .inr (.inr ((rl_or hn h).2 (.inl h1)))
theorem empty_ne {i : Nat} (h : emptyAt n f i = false) : ¬ (arrowsL n (og n f i).2).length = 0 := fun e => by
  unfold emptyAt at h
  rw [beqT e] at h
  cases h
theorem oinv (hn : n ≤ 7) (hf : GOK n f) : ∀ i, (∀ j, j < i → endAt n f j = false) → OInv n f (og n f i)
  | 0, _ => OInv.zero hf
  | i + 1, h => (oinv hn hf i fun j hj => h j (by omega)).next hn (empty_ne (by have := h i (by omega); unfold endAt at this; exact (Bool.or_eq_false_iff.1 this).1))
theorem empty_ed {l : Nat → Bool} (h : (arrowsL n l).length = 0) {x y : Nat} : ¬ Ed n l x y := fun he => by
  rw [arrN_len] at h
  have := List.eq_nil_of_length_eq_zero h
  have hm : (x, y) ∈ arrN n l := mem_arrN.2 he
  rw [this] at hm
  cases hm
/-- where orient answers, it answers an orientation -/
theorem ori_to (hn : n ≤ 7) (hf : GOK n f) (h : oriOk n f = true) : TO (Ed n f) (Rl (oriR n f)) := by
  unfold oriOk at h
  rw [Bool.and_eq_true] at h
  obtain ⟨h1, h2⟩ := h
  have hI := oinv hn hf (stopG n f) (stopG_spec hn).2
  have he : ∀ {x y}, ¬ Ed n (og n f (stopG n f)).2 x y := fun {x y} => empty_ed (Nat.eq_of_beq_eq_true h1)
  unfold oriR
  rw [h1, cond_true]
  obtain ⟨t1, t2⟩ := transB_Rl.1 h2
  exact ⟨fun h => hI.osub h, fun h => by
    rcases hI.all h with h | h | h
    · exact absurd h he
    · exact .inl h
    · exact .inr h, t1, t2⟩
/-- .. and it answers where there is no clash -/
structure NInv (n : Nat) (f : Nat → Bool) (s : (Nat → Bool) × (Nat → Bool)) : Prop where
  nc : NoClash (Ed n s.2)
  join : ∀ F, TO (Ed n s.2) F → TO (Ed n f) fun a b => Rl s.1 a b ∨ F a b
theorem ext2 {F G : Nat → Nat → Prop} (h : ∀ a b, F a b ↔ G a b) : F = G := funext fun a => funext fun b => propext (h a b)
theorem ninv (hn : n ≤ 7) (hf : GOK n f) (hN : NoClash (Ed n f)) : ∀ i, (∀ j, j < i → endAt n f j = false) → NInv n f (og n f i)
  | 0, _ => ⟨hN, fun F hF => by
      have : (fun a b => Rl (og n f 0).1 a b ∨ F a b) = F := ext2 fun a b => ⟨fun h => by
        rcases h with h | h
        · have := h.2.2; cases this
        · exact h, .inr⟩
      rw [this]
      exact hF⟩
  | i + 1, h => by
    have ih := ninv hn hf hN i fun j hj => h j (by omega)
    have hO := oinv hn hf i fun j hj => h j (by omega)
    have hne : ¬ (arrowsL n (og n f i).2).length = 0 := empty_ne (by have := h i (by omega); unfold endAt at this; exact (Bool.or_eq_false_iff.1 this).1)
    have e : Ed n (og n f (i + 1)).2 = Less (Ed n (og n f i).2) (fstX n (og n f i).2, fstY n (og n f i).2) := ext2 fun a b => ed_cut hn hne
    refine ⟨by rw [e]; exact less_noClash hO.gok.graph ih.nc (fst_ed hne), fun F hF => ?_⟩
    rw [e] at hF
    have h1 := ih.join _ (to_join hO.gok.graph ih.nc (x := (fstX n (og n f i).2, fstY n (og n f i).2)) (fst_ed hne) hF)
    have e2 : (fun a b => Rl (og n f (i + 1)).1 a b ∨ F a b) = fun a b => Rl (og n f i).1 a b ∨ (Cls (Ed n (og n f i).2) (fstX n (og n f i).2, fstY n (og n f i).2) (a, b) ∨ F a b) := ext2 fun a b => by
      rw [show (og n f (i + 1)).1 = orS (og n f i).1 (clsO n (og n f i).2) from rfl, rl_or hn hne, or_assoc]
    rw [e2]
    exact h1
theorem ori_ok (hn : n ≤ 7) (hf : GOK n f) (hN : NoClash (Ed n f)) : oriOk n f = true := by
  obtain ⟨h1, h2⟩ := stopG_spec (f := f) hn
  have hI := ninv hn hf hN (stopG n f) h2
  have hO := oinv hn hf (stopG n f) h2
  have hem : emptyAt n f (stopG n f) = true := by
    cases he : emptyAt n f (stopG n f) with
    | true => rfl
    | false =>
      have hne := empty_ne he
      unfold endAt at h1
      rw [he, Bool.false_or] at h1
      unfold failAt at h1
      obtain ⟨k, hk, hc, _⟩ := any_first _ _ h1
      unfold clashA at hc
      have hm : (clsO n (og n f (stopG n f)).2).getD k (0, 0) ∈ clsO n (og n f (stopG n f)).2 := by simp [hk]
      generalize (clsO n (og n f (stopG n f)).2).getD k (0, 0) = p at hc hm
      obtain ⟨r1, r2⟩ := cls_rng hn hne p hm
      have hp := (clsO_mem hn hne).1 hm
      rcases (rl_or hn hne).1 (show Rl _ p.2 p.1 from ⟨r2, r1, hc⟩) with h | h
      · exact absurd (hp.mem (fst_ed hne)) (hO.dis h).2
      · exact absurd (((hp.symm hO.gok.graph (fst_ed hne)).trans h)) (hI.nc p (hp.mem (fst_ed hne)))
  have he : ∀ {x y}, ¬ Ed n (og n f (stopG n f)).2 x y := fun {x y} => empty_ed (Nat.eq_of_beq_eq_true hem)
  have hT := hI.join (fun _ _ => False) ⟨fun h => h.elim, fun h => absurd h he, fun h => h.elim, fun h => h.elim⟩
  have e : (fun a b => Rl (og n f (stopG n f)).1 a b ∨ False) = Rl (og n f (stopG n f)).1 := ext2 fun a b => by simp
  rw [e] at hT
  unfold oriOk
  rw [hem, Bool.true_and]
  exact transB_Rl.2 ⟨hT.asym, hT.trans⟩
theorem ori_iff (hn : n ≤ 7) (hf : GOK n f) : oriOk n f = true ↔ NoClash (Ed n f) := ⟨fun h => to_noClash hf.graph (ori_to hn hf h), ori_ok hn hf⟩
end
end Go.Proofs.Yteekkjfjpoaihaa.Eng
namespace Go.Proofs.Yteekkjfjpoaihaa.Eng
open Go Go.Proofs
open Go.Proofs.Yteekkjfjpoaihaa.Ori
structure TRx (X : Nat → Nat → Prop) : Prop where
  asy : ∀ {a b}, X a b → ¬ X b a
  tr : ∀ {a b c}, X a b → X b c → X a c
def setX (X : Nat → Nat → Prop) (a b : Nat) (x y : Nat) : Prop := X x y ∨ (x = a ∧ y = b)
def revX (X : Nat → Nat → Prop) (x y : Nat) : Prop := X y x
open Classical in
noncomputable def cntP : List (Nat × Nat) → (Nat → Nat → Prop) → Nat
  | [], X => if TRx X then 1 else 0
  | (a, b) :: es, X => cntP es (setX X a b) + cntP es (setX X b a)
theorem TR_rev {X : Nat → Nat → Prop} : TRx (revX X) ↔ TRx X := ⟨fun h => ⟨fun h1 h2 => h.asy (show revX X _ _ from h1) h2, fun h1 h2 => h.tr (show revX X _ _ from h2) h1⟩, fun h => ⟨fun h1 h2 => h.asy (show X _ _ from h1) h2, fun h1 h2 => h.tr (show X _ _ from h2) h1⟩⟩
theorem set_rev {X : Nat → Nat → Prop} {a b : Nat} : setX (revX X) a b = revX (setX X b a) := ext2 fun x y => by
  unfold setX revX
  constructor
  · rintro (h | ⟨h1, h2⟩)
    · exact .inl h
    · exact .inr ⟨h2, h1⟩
  · rintro (h | ⟨h1, h2⟩)
    · exact .inl h
    · exact .inr ⟨h2, h1⟩
theorem cntP_rev : ∀ (es : List (Nat × Nat)) (X : Nat → Nat → Prop), cntP es (revX X) = cntP es X
  | [], X => by
    unfold cntP
    by_cases h : TRx X
    · rw [if_pos (TR_rev.2 h), if_pos h]
    · rw [if_neg (fun k => h (TR_rev.1 k)), if_neg h]
  | (a, b) :: es, X => by
    unfold cntP
    rw [set_rev, set_rev, cntP_rev es, cntP_rev es, Nat.add_comm]
def emX (_ _ : Nat) : Prop := False
theorem cntP_cons (a b : Nat) (es : List (Nat × Nat)) (X : Nat → Nat → Prop) : cntP ((a, b) :: es) X = cntP es (setX X a b) + cntP es (setX X b a) := rfl
theorem cntP_twice (a b : Nat) (es : List (Nat × Nat)) : cntP ((a, b) :: es) emX = 2 * cntP es (setX emX a b) := by
  rw [cntP_cons]
  have : setX emX b a = revX (setX emX a b) := by
    rw [← set_rev]
    rfl
  rw [this, cntP_rev]
  omega
/-- a state of counting -/
structure Mid (E X : Nat → Nat → Prop) (es : List (Nat × Nat)) : Prop where
  sub : ∀ {x y}, X x y → E x y
  esub : ∀ p ∈ es, E p.1 p.2
  cov : ∀ {x y}, E x y → X x y ∨ X y x ∨ (x, y) ∈ es ∨ (y, x) ∈ es
section
variable {E X : Nat → Nat → Prop}
theorem Mid.set (hG : Graph E) {a b : Nat} {es : List (Nat × Nat)} (h : Mid E X ((a, b) :: es)) : Mid E (setX X a b) es ∧ Mid E (setX X b a) es := by
  have hab : E a b := h.esub (a, b) (by simp)
  constructor
  · refine ⟨fun hx => ?_, fun p hp => h.esub p (by simp [hp]), fun {x y} he => ?_⟩
    · rcases hx with hx | ⟨rfl, rfl⟩
      · exact h.sub hx
      · exact hab
    · rcases h.cov he with h1 | h1 | h1 | h1
      · exact .inl (.inl h1)
      · exact .inr (.inl (.inl h1))
      · rcases List.mem_cons.1 h1 with h1 | h1
        · cases h1; exact .inl (.inr ⟨rfl, rfl⟩)
        · exact .inr (.inr (.inl h1))
      · rcases List.mem_cons.1 h1 with h1 | h1
        · cases h1; exact .inr (.inl (.inr ⟨rfl, rfl⟩))
        · exact .inr (.inr (.inr h1))
  · refine ⟨fun hx => ?_, fun p hp => h.esub p (by simp [hp]), fun {x y} he => ?_⟩
    · rcases hx with hx | ⟨rfl, rfl⟩
      · exact h.sub hx
      · exact hG.sym hab
    · rcases h.cov he with h1 | h1 | h1 | h1
      · exact .inl (.inl h1)
      · exact .inr (.inl (.inl h1))
      · rcases List.mem_cons.1 h1 with h1 | h1
        · cases h1; exact .inr (.inl (.inr ⟨rfl, rfl⟩))
        · exact .inr (.inr (.inl h1))
      · rcases List.mem_cons.1 h1 with h1 | h1
        · cases h1; exact .inl (.inr ⟨rfl, rfl⟩)
        · exact .inr (.inr (.inr h1))
theorem Mid.to (h : Mid E X []) (hT : TRx X) : TO E X := ⟨h.sub, fun he => by
  rcases h.cov he with h1 | h1 | h1 | h1
  · exact .inl h1
  · exact .inr h1
  · exact absurd h1 (by simp)
  · exact absurd h1 (by simp), hT.asy, hT.tr⟩
theorem cntP_zero (hG : Graph E) : ∀ (es : List (Nat × Nat)) {X : Nat → Nat → Prop}, Mid E X es → (∀ Y, (∀ {x y}, X x y → Y x y) → TO E Y → False) → cntP es X = 0
  | [], X, hM, h => by
    unfold cntP
    rw [if_neg fun hT => h X id (hM.to hT)]
  | (a, b) :: es, X, hM, h => by
    unfold cntP
    obtain ⟨h1, h2⟩ := hM.set hG
    rw [cntP_zero hG es h1 fun Y hY hT => h Y (fun hx => hY (.inl hx)) hT, cntP_zero hG es h2 fun Y hY hT => h Y (fun hx => hY (.inl hx)) hT]
theorem cntP_pos (hG : Graph E) : ∀ (es : List (Nat × Nat)) {X : Nat → Nat → Prop}, Mid E X es → ∀ Y, (∀ {x y}, X x y → Y x y) → TO E Y → (∀ {x y}, Y x y → X x y ∨ (x, y) ∈ es ∨ (y, x) ∈ es) → 0 < cntP es X
  | [], X, hM, Y, h1, h2, h3 => by
    unfold cntP
    have : X = Y := ext2 fun a b => ⟨h1, fun h => by
      rcases h3 h with h | h | h
      · exact h
      · cases h
      · cases h⟩
    rw [this, if_pos ⟨h2.asym, h2.trans⟩]
    omega
  | (a, b) :: es, X, hM, Y, h1, h2, h3 => by
    unfold cntP
    obtain ⟨m1, m2⟩ := hM.set hG
    have hab : E a b := hM.esub (a, b) (by simp)
    rcases h2.all hab with hy | hy
    · have := cntP_pos hG es m1 Y (fun {x y} h => by
        rcases h with h | ⟨rfl, rfl⟩
        · exact h1 h
        · exact hy) h2 (fun {x y} h => by
        rcases h3 h with k | k | k
        · exact .inl (.inl k)
        · rcases List.mem_cons.1 k with k | k
          · cases k; exact .inl (.inr ⟨rfl, rfl⟩)
          · exact .inr (.inl k)
        · rcases List.mem_cons.1 k with k | k
          · cases k; exact absurd h (h2.asym hy)
          · exact .inr (.inr k))
      omega
    · have := cntP_pos hG es m2 Y (fun {x y} h => by
        rcases h with h | ⟨rfl, rfl⟩
        · exact h1 h
        · exact hy) h2 (fun {x y} h => by
        rcases h3 h with k | k | k
        · exact .inl (.inl k)
        · rcases List.mem_cons.1 k with k | k
          · cases k; exact absurd h (h2.asym hy)
          · exact .inr (.inl k)
        · rcases List.mem_cons.1 k with k | k
          · cases k; exact .inl (.inr ⟨rfl, rfl⟩)
          · exact .inr (.inr k))
      omega
theorem cntP_one (hG : Graph E) (D : Nat → Nat → Prop) (hD : ∀ {x y}, E x y → ¬ (D x y ∧ D y x)) : ∀ (es : List (Nat × Nat)) {X : Nat → Nat → Prop}, Mid E X es → (∀ Y, (∀ {x y}, X x y → Y x y) → TO E Y → ∀ {x y}, Y x y → D x y) → cntP es X ≤ 1
  | [], X, hM, h => by
    unfold cntP
    split <;> omega
  | (a, b) :: es, X, hM, h => by
    unfold cntP
    obtain ⟨m1, m2⟩ := hM.set hG
    have hab : E a b := hM.esub (a, b) (by simp)
    by_cases hd : D a b
    · have h0 : cntP es (setX X b a) = 0 := cntP_zero hG es m2 fun Y hY hT => hD hab ⟨hd, h Y (fun hx => hY (.inl hx)) hT (hY (.inr ⟨rfl, rfl⟩))⟩
      have := cntP_one hG D hD es m1 fun Y hY hT => h Y (fun hx => hY (.inl hx)) hT
      omega
    · have h0 : cntP es (setX X a b) = 0 := cntP_zero hG es m1 fun Y hY hT => hd (h Y (fun hx => hY (.inl hx)) hT (hY (.inr ⟨rfl, rfl⟩)))
      have := cntP_one hG D hD es m2 fun Y hY hT => h Y (fun hx => hY (.inl hx)) hT
      omega
end
section
variable {n : Nat} {f : Nat → Bool}
theorem Rl_set {o : Nat → Bool} {a b : Nat} (ha : a < 7) (hb : b < 7) : Rl (relS o (Int.ofNat a) (Int.ofNat b)) = setX (Rl o) a b := ext2 fun x y => by
  unfold Rl setX
  constructor
  · rintro ⟨h1, h2, h3⟩
    rw [at7_relS7 ha hb h1 h2, Bool.or_eq_true] at h3
    rcases h3 with h3 | h3
    · exact .inl ⟨h1, h2, h3⟩
    · simp at h3; exact .inr h3
  · rintro (⟨h1, h2, h3⟩ | ⟨rfl, rfl⟩)
    · exact ⟨h1, h2, by rw [at7_relS7 ha hb h1 h2, h3]; rfl⟩
    · exact ⟨ha, hb, by rw [at7_relS7 ha hb ha hb]; simp⟩
/-- what is spoilt has no order -/
theorem spoilt_no (hn : n ≤ 7) {r : Nat → Bool} {a b : Nat} (hab : Rl r a b) (h : splB n f r a b = true) (Y : Nat → Nat → Prop) (hY : ∀ {x y}, Rl r x y → Y x y) (hT : TO (Ed n f) Y) : False := by
  unfold splB at h
  obtain ⟨c, hc, hs, _⟩ := any_first _ _ h
  unfold splC at hs
  have c7 : c < 7 := by omega
  have yab := hY hab
  obtain ⟨a7, b7, _⟩ := hab
  simp only [Bool.or_eq_true, Bool.and_eq_true, Bool.not_eq_true'] at hs
  rcases hs with ⟨h1, h2⟩ | ⟨h1, h2⟩
  · have ybc := hY ⟨b7, c7, h1⟩
    have yac := hT.trans yab ybc
    rcases h2 with h2 | h2
    · have := (hT.sub yac).2.2
      rw [h2] at this; cases this
    · exact hT.asym yac (hY ⟨c7, a7, h2⟩)
  · have yca := hY ⟨c7, a7, h1⟩
    have ycb := hT.trans yca yab
    rcases h2 with h2 | h2
    · have := (hT.sub ycb).2.2
      rw [h2] at this; cases this
    · exact hT.asym ycb (hY ⟨b7, c7, h2⟩)
/-- Count counts -/
theorem cntL_eq (hn : n ≤ 7) (hf : GOK n f) : ∀ (es : List (Nat × Nat)) (r : Nat → Bool), Mid (Ed n f) (Rl r) es → cntL n f es r = cntP es (Rl r)
  | [], r, hM => by
    unfold cntL cntP
    cases h : transB r with
    | true => rw [if_pos ⟨(transB_Rl.1 h).1, (transB_Rl.1 h).2⟩]; rfl
    | false => rw [if_neg fun k => by rw [transB_Rl.2 ⟨k.asy, k.tr⟩] at h; cases h]; rfl
  | (a, b) :: es, r, hM => by
    have hab : Ed n f a b := hM.esub (a, b) (by simp)
    have a7 : a < 7 := by have := hab.1; omega
    have b7 : b < 7 := by have := hab.2.1; omega
    obtain ⟨m1, m2⟩ := hM.set hf.graph
    rw [← Rl_set a7 b7] at m1
    rw [← Rl_set b7 a7] at m2
    unfold cntL cntP
    have k1 : (bif splB n f (relS r (Int.ofNat a) (Int.ofNat b)) a b then 0 else cntL n f es (relS r (Int.ofNat a) (Int.ofNat b))) = cntP es (setX (Rl r) a b) := by
      rw [← Rl_set a7 b7]
      cases h : splB n f (relS r (Int.ofNat a) (Int.ofNat b)) a b with
      | false => exact cntL_eq hn hf es _ m1
      | true => exact (cntP_zero hf.graph es m1 fun Y hY hT => spoilt_no hn (by rw [Rl_set a7 b7]; exact .inr ⟨rfl, rfl⟩) h Y hY hT).symm
    have k2 : (bif splB n f (relS r (Int.ofNat b) (Int.ofNat a)) b a then 0 else cntL n f es (relS r (Int.ofNat b) (Int.ofNat a))) = cntP es (setX (Rl r) b a) := by
      rw [← Rl_set b7 a7]
      cases h : splB n f (relS r (Int.ofNat b) (Int.ofNat a)) b a with
      | false => exact cntL_eq hn hf es _ m2
      | true => exact (cntP_zero hf.graph es m2 fun Y hY hT => spoilt_no hn (by rw [Rl_set b7 a7]; exact .inr ⟨rfl, rfl⟩) h Y hY hT).symm
    rw [k1, k2]
theorem Rl_ff : Rl ff = emX := ext2 fun x y => ⟨fun h => (by have := h.2.2; cases this), fun h => h.elim⟩
theorem mid0 (hf : GOK n f) : Mid (Ed n f) emX (edgN n f) := ⟨fun h => h.elim, fun p hp => by
  obtain ⟨h1, h2, h3⟩ := mem_edgN.1 hp
  exact ⟨by omega, h2, h3⟩, fun {x y} he => by
  obtain ⟨h1, h2, h3⟩ := he
  rcases Nat.lt_trichotomy x y with h | h | h
  · exact .inr (.inr (.inl (mem_edgN.2 ⟨h, h2, h3⟩)))
  · subst h
    rw [hf.irr h1] at h3
    cases h3
  · exact .inr (.inr (.inr (mem_edgN.2 ⟨h, h1, hf.sym h1 h2 h3⟩)))⟩
theorem cntN_eq (hn : n ≤ 7) (hf : GOK n f) : cntN n f = cntP (edgN n f) emX := by
  unfold cntN
  rw [cntL_eq hn hf _ _ (by rw [Rl_ff]; exact mid0 hf), Rl_ff]
theorem cntN_pos (hn : n ≤ 7) (hf : GOK n f) : 0 < cntN n f ↔ oriOk n f = true := by
  rw [cntN_eq hn hf, ori_iff hn hf]
  constructor
  · intro h
    refine Classical.byContradiction fun hN => ?_
    rw [cntP_zero hf.graph _ (mid0 hf) fun Y _ hT => hN (to_noClash hf.graph hT)] at h
    omega
  · intro hN
    have hT := ori_to hn hf (ori_ok hn hf hN)
    refine cntP_pos hf.graph _ (mid0 hf) _ (fun h => h.elim) hT fun {x y} h => ?_
    rcases (mid0 hf).cov (hT.sub h) with k | k | k
    · exact k.elim
    · exact k.elim
    · exact .inr k
theorem cntN_even (hn : n ≤ 7) (hf : GOK n f) (he : edgN n f ≠ []) : ∃ k, cntN n f = 2 * k := by
  rw [cntN_eq hn hf]
  cases hL : edgN n f with
  | nil => exact absurd hL he
  | cons p es => exact ⟨_, cntP_twice p.1 p.2 es⟩
theorem cntN_none (he : edgN n f = []) : cntN n f = 1 := by
  unfold cntN
  rw [he]
  unfold cntL
  have : transB ff = true := transB_iff.2 fun a b _ _ h => by cases h
  rw [this]
  rfl
structure CInv (n : Nat) (f : Nat → Bool) (s : List (Nat × Nat) × Nat) (Ls : List (Nat × Nat)) : Prop where
  ed : ∀ l ∈ Ls, Ed n f l.1 l.2
  len : Ls.length = s.2
  mem : ∀ p, p ∈ s.1 ↔ ∃ l ∈ Ls, Cls (Ed n f) l p
theorem mem_push {L : List (Nat × Nat)} {p : Nat × Nat} : ∀ {M : List (Nat × Nat)}, p ∈ L.foldl pushL M ↔ p ∈ M ∨ p ∈ L := by
  induction L with
  | nil => simp
  | cons a L ih =>
    intro M
    rw [List.foldl_cons, ih, mem_pushL]
    simp [or_assoc]
theorem CInv.step (hn : n ≤ 7) {s : List (Nat × Nat) × Nat} {Ls : List (Nat × Nat)} (h : CInv n f s Ls) {p : Nat × Nat} (hp : Ed n f p.1 p.2) : ∃ Ls', CInv n f (clsT n f s p) Ls' ∧ p ∈ (clsT n f s p).1 ∧ ∀ q ∈ s.1, q ∈ (clsT n f s p).1 := by
  unfold clsT
  cases hc : s.1.contains p with
  | true => exact ⟨Ls, h, List.contains_iff_mem.1 hc, fun q hq => hq⟩
  | false =>
    refine ⟨p :: Ls, ⟨fun l hl => ?_, by simp [h.len], fun q => ?_⟩, ?_, fun q hq => ?_⟩
    · rcases List.mem_cons.1 hl with rfl | hl
      · exact hp
      · exact h.ed l hl
    · show q ∈ (rchL n f p.1 p.2).foldl pushL s.1 ↔ _
      rw [mem_push, h.mem, mem_rch hn hp]
      constructor
      · rintro (⟨l, h1, h2⟩ | h1)
        · exact ⟨l, by simp [h1], h2⟩
        · exact ⟨p, by simp, h1⟩
      · rintro ⟨l, h1, h2⟩
        rcases List.mem_cons.1 h1 with rfl | h1
        · exact .inr h2
        · exact .inl ⟨l, h1, h2⟩
    · show p ∈ (rchL n f p.1 p.2).foldl pushL s.1
      exact mem_push.2 (.inr rchL_mem)
    · show q ∈ (rchL n f p.1 p.2).foldl pushL s.1
      exact mem_push.2 (.inl hq)
theorem cls_all (hn : n ≤ 7) : ∀ (A : List (Nat × Nat)) {s : List (Nat × Nat) × Nat} {Ls : List (Nat × Nat)}, CInv n f s Ls → (∀ p ∈ A, Ed n f p.1 p.2) → ∃ Ls', CInv n f (A.foldl (clsT n f) s) Ls' ∧ (∀ p ∈ A, p ∈ (A.foldl (clsT n f) s).1) ∧ ∀ q ∈ s.1, q ∈ (A.foldl (clsT n f) s).1
  | [], s, Ls, h, _ => ⟨Ls, h, by simp, fun q hq => hq⟩
  | p :: A, s, Ls, h, hA => by
    obtain ⟨L1, h1, h2, h3⟩ := h.step hn (hA p (by simp))
    obtain ⟨L2, k1, k2, k3⟩ := cls_all hn A h1 fun q hq => hA q (by simp [hq])
    refine ⟨L2, k1, fun q hq => ?_, fun q hq => k3 q (h3 q hq)⟩
    rcases List.mem_cons.1 hq with rfl | hq
    · exact k3 _ h2
    · exact k2 q hq
theorem cls_two (hn : n ≤ 7) (hf : GOK n f) (h2 : clsN n f ≤ 2) (hN : NoClash (Ed n f)) {a b : Nat} (hab : Ed n f a b) {x y : Nat} (hxy : Ed n f x y) : Cls (Ed n f) (a, b) (x, y) ∨ Cls (Ed n f) (b, a) (x, y) := by
  obtain ⟨Ls, h, hall, _⟩ := cls_all (f := f) hn (arrN n f) (s := ([], 0)) (Ls := []) ⟨by simp, rfl, fun p => by simp⟩ fun p hp => mem_arrN.1 hp
  have hl : Ls.length ≤ 2 := by rw [h.len]; exact h2
  have hG := hf.graph
  have get : ∀ {u v : Nat}, Ed n f u v → ∃ l ∈ Ls, Cls (Ed n f) l (u, v) := fun {u v} hu => (h.mem _).1 (hall (u, v) (mem_arrN.2 hu))
  have join : ∀ {l p q : Nat × Nat}, Ed n f p.1 p.2 → Ed n f q.1 q.2 → Cls (Ed n f) l p → Cls (Ed n f) l q → Ed n f l.1 l.2 → Cls (Ed n f) p q := fun {l p q} hp hq h1 h2 hl => (h1.symm hG hl).trans h2
  obtain ⟨l1, m1, c1⟩ := get hab
  obtain ⟨l2, m2, c2⟩ := get (hG.sym hab)
  obtain ⟨l3, m3, c3⟩ := get hxy
  have hne : l1 ≠ l2 := fun e => by
    subst e
    exact hN (a, b) hab (join hab (hG.sym hab) c1 c2 (h.ed _ m1))
  have h3 : l3 = l1 ∨ l3 = l2 := by
    match Ls, hl, m1, m2, m3 with
    | [], _, m1, _, _ => cases m1
    | [u], _, m1, m2, _ => simp at m1 m2; exact absurd (m1.trans m2.symm) hne
    | [u, v], _, m1, m2, m3 =>
      simp at m1 m2 m3
      rcases m1 with rfl | rfl <;> rcases m2 with rfl | rfl
      · exact absurd rfl hne
      · exact m3
      · exact m3.symm
      · exact absurd rfl hne
    | u :: v :: w :: r, hl, _, _, _ => simp at hl
  rcases h3 with rfl | rfl
  · exact .inl (join hab hxy c1 c3 (h.ed _ m1))
  · exact .inr (join (hG.sym hab) hxy c2 c3 (h.ed _ m2))
theorem clsN_none (he : edgN n f = []) (hf : GOK n f) : clsN n f = 0 := by
  have : arrN n f = [] := by
    cases hA : arrN n f with
    | nil => rfl
    | cons p A =>
      have hp : p ∈ arrN n f := by rw [hA]; simp
      rcases (mid0 hf).cov (mem_arrN.1 hp) with k | k | k | k
      · exact k.elim
      · exact k.elim
      · rw [he] at k; cases k
      · rw [he] at k; cases k
  unfold clsN
  rw [this]
  rfl
theorem cntN_two (hn : n ≤ 7) (hf : GOK n f) (h2 : clsN n f ≤ 2) : cntN n f ≤ 2 := by
  by_cases hN : NoClash (Ed n f)
  · cases hL : edgN n f with
    | nil => rw [cntN_none hL]; omega
    | cons p es =>
      have hM := mid0 hf
      rw [cntN_eq hn hf, hL, cntP_twice p.1 p.2 es]
      rw [hL] at hM
      have hp : Ed n f p.1 p.2 := hM.esub p (by simp)
      obtain ⟨m1, _⟩ := Mid.set (a := p.1) (b := p.2) hf.graph hM
      have hG := hf.graph
      have := cntP_one hG (fun x y => Cls (Ed n f) (p.1, p.2) (x, y)) (fun {x y} hxy ⟨h1, h2⟩ => hN (x, y) hxy ((h1.symm hG hp).trans h2)) es m1 fun Y hY hT {x y} hy => by
        have hxy := hT.sub hy
        rcases cls_two hn hf h2 hN hp hxy with h | h
        · exact h
        · have h' : Cls (Ed n f) (p.1, p.2) (y, x) := h.sw hG
          exact absurd (to_cls hG hT (x := (p.1, p.2)) (hY (.inr ⟨rfl, rfl⟩)) h') (hT.asym hy)
      omega
  · have : ¬ 0 < cntN n f := fun h => hN ((ori_iff hn hf).1 ((cntN_pos hn hf).1 h))
    omega
end
end Go.Proofs.Yteekkjfjpoaihaa.Eng
namespace Go.Proofs.Yteekkjfjpoaihaa.Eng
open Go Go.Proofs
open Go.Proofs.Yteekkjfjpoaihaa.Ori
def lexP (p q : Nat × Nat) : Prop := p.1 < q.1 ∨ p.1 = q.1 ∧ p.2 < q.2
theorem pairsN_lex (g : Nat → Nat → Bool) (n : Nat) : ∀ a, (pairsN g n a).Pairwise lexP
  | 0 => by simp [pairsN]
  | a + 1 => by
    rw [pairsN_succ, List.pairwise_append]
    refine ⟨pairsN_lex g n a, ?_, fun p hp q hq => ?_⟩
    · exact List.pairwise_map.2 (((List.pairwise_lt_range (n := n)).sublist List.filter_sublist).imp fun h => .inr ⟨rfl, h⟩)
    · have h1 := (mem_pairsN.1 hp).1
      obtain ⟨k, _, rfl⟩ := List.mem_map.1 hq
      exact .inl h1
section
variable {L : List (Nat × Nat)}
theorem pa_flat {i : Nat} (hi : i < L.length) : pa (flatN L) i = Int.ofNat (L.getD i (0, 0)).1 ∧ pb (flatN L) i = Int.ofNat (L.getD i (0, 0)).2 := by
  have hp : L[i]? = some (L.getD i (0, 0)) := by simp [hi]
  have := flatN_get hp
  unfold pa pb
  rw [show 2 * i = i * 2 by omega]
  exact this
theorem upB_flat (hs : L.Pairwise lexP) {i : Nat} (hi : i < L.length) : upB (flatN L) i = false := by
  unfold upB
  by_cases h0 : 0 < i
  · rw [decide_eq_true h0, cond_true]
    obtain ⟨e1, e2⟩ := pa_flat (L := L) hi
    obtain ⟨e3, e4⟩ := pa_flat (L := L) (i := i - 1) (by omega)
    rw [e1, e2, e3, e4]
    have h := (List.pairwise_iff_getElem.1 hs) (i - 1) i (by omega) hi (by omega)
    have g1 : L.getD i (0, 0) = L[i] := by simp [hi]
    have g2 : L.getD (i - 1) (0, 0) = L[i - 1] := by simp [show i - 1 < L.length by omega]
    rw [g1, g2]
    unfold lessP
    generalize L[i] = q at h ⊢
    generalize L[i - 1] = p at h ⊢
    rcases h with h | ⟨h1, h2⟩
    · rw [decide_eq_true (show Int.ofNat p.1 < Int.ofNat q.1 by simp; omega)]; rfl
    · rw [decide_eq_false (show ¬ Int.ofNat p.1 < Int.ofNat q.1 by simp; omega), cond_false, h1]
      simp
      omega
  · rw [decide_eq_false h0]; rfl
theorem checkP_flat {n : Nat} (h1 : 1 ≤ n) (h7 : n ≤ 7) (hs : L.Pairwise lexP) (hL : ∀ p ∈ L, p.1 < p.2 ∧ p.2 < n) : checkP (Int.ofNat n) (flatN L) L.length = 0 := by
  unfold checkP
  have e : (decide (Int.ofNat n < 1) || decide (Int.ofNat n > 7)) = false := by simp; omega
  rw [e, cond_false]
  have e2 : (List.range L.length).any (badAt (Int.ofNat n) (flatN L)) = false := by
    rw [List.any_eq_false]
    intro i hi
    have hi := List.mem_range.1 hi
    obtain ⟨a1, a2⟩ := pa_flat (L := L) hi
    have hp := hL (L.getD i (0, 0)) (by simp [hi])
    unfold badAt badC
    rw [a1, a2, upB_flat hs hi]
    generalize L.getD i (0, 0) = p at hp
    simp
    omega
  rw [e2]
  rfl
theorem badO_flat {n : Nat} (hs : L.Pairwise lexP) (hL : ∀ p ∈ L, p.1 < n ∧ p.2 < n ∧ p.1 ≠ p.2) {i : Nat} (hi : i < L.length) : badO (Int.ofNat n) (flatN L) i = false := by
  obtain ⟨a1, a2⟩ := pa_flat (L := L) hi
  have hp := hL (L.getD i (0, 0)) (by simp [hi])
  unfold badO badD
  rw [a1, a2, upB_flat hs hi]
  generalize L.getD i (0, 0) = p at hp
  simp
  omega
theorem hasP_flat {x y : Nat} : hasP (flatN L) L.length (x : Int) (y : Int) = true ↔ (x, y) ∈ L := by
  rw [hasP_iff]
  constructor
  · rintro ⟨i, hi, h1, h2⟩
    obtain ⟨a1, a2⟩ := pa_flat (L := L) hi
    rw [a1] at h1
    rw [a2] at h2
    have hm : L.getD i (0, 0) ∈ L := by simp [hi]
    have e1 : (L.getD i (0, 0)).1 = x := Int.ofNat.inj h1
    have e2 : (L.getD i (0, 0)).2 = y := Int.ofNat.inj h2
    rw [← e1, ← e2]
    exact hm
  · intro hm
    obtain ⟨i, hi, he⟩ := List.getElem_of_mem hm
    obtain ⟨a1, a2⟩ := pa_flat (L := L) hi
    have g1 : L.getD i (0, 0) = (x, y) := by simp [hi, he]
    rw [g1] at a1 a2
    exact ⟨i, hi, a1, a2⟩
theorem Rl_at7 {f g : Nat → Bool} (h : Rl f = Rl g) {x y : Nat} (hx : x < 7) (hy : y < 7) : at7 f x y = at7 g x y := by
  have := congrFun (congrFun h x) y
  unfold Rl at this
  rw [Bool.eq_iff_iff]
  constructor
  · intro k; exact (this.mp ⟨hx, hy, k⟩).2.2
  · intro k; exact (this.mpr ⟨hx, hy, k⟩).2.2
theorem transB_congr {f g : Nat → Bool} (h : Rl f = Rl g) : transB f = transB g := by
  rw [Bool.eq_iff_iff, transB_Rl, transB_Rl, h]
/-- a list of an order -/
theorem order_flat {n : Nat} (h1 : 1 ≤ n) (h7 : n ≤ 7) (hs : L.Pairwise lexP) (hL : ∀ p ∈ L, p.1 < n ∧ p.2 < n ∧ p.1 ≠ p.2) {r : Nat → Bool} (hr : ∀ {x y}, (x, y) ∈ L ↔ Rl r x y) (ht : transB r = true) : orderE (Int.ofNat n) (flatN L) L.length = 0 ∧ Rl (orderF (Int.ofNat n) (flatN L) L.length) = Rl r := by
  have e : (decide (Int.ofNat n < 1) || decide (Int.ofNat n > 7)) = false := by simp; omega
  have hb : ∀ i, i < L.length → badO (Int.ofNat n) (flatN L) i = false := fun i hi => badO_flat hs hL hi
  have hst : stopO (Int.ofNat n) (flatN L) L.length = L.length := find_none hb
  have hR : Rl (relF (flatN L) L.length) = Rl r := ext2 fun x y => by
    constructor
    · rintro ⟨hx, hy, h⟩
      rw [relF_at e hb hx hy, hasP_flat] at h
      exact hr.1 h
    · intro h
      have hm := hr.2 h
      obtain ⟨hx, hy, _⟩ := h
      exact ⟨hx, hy, by rw [relF_at e hb hx hy, hasP_flat]; exact hm⟩
  have e2 : (List.range L.length).any (badO (Int.ofNat n) (flatN L)) = false := by
    rw [List.any_eq_false]
    intro i hi
    rw [hb i (List.mem_range.1 hi)]
    simp
  constructor
  · unfold orderE
    rw [e, e2, transB_congr hR, ht]
    rfl
  · unfold orderF
    rw [e, hst]
    exact hR
end
/-- what is told, as pairs of numbers -/
def toldN (r : Nat → Bool) : List (Nat × Nat) := pairsN (fun a b => at7 r a b) 7 7
theorem toldN_eq {r : Nat → Bool} : flat (toldL r) = flatN (toldN r) := by
  unfold toldL toldN
  rw [listL_pairs, flat_ofN]
theorem toldN_len {r : Nat → Bool} : (toldL r).length = (toldN r).length := by
  unfold toldL toldN
  rw [listL_pairs, List.length_map]
theorem mem_toldN {r : Nat → Bool} {x y : Nat} : (x, y) ∈ toldN r ↔ Rl r x y := mem_pairsN
theorem pairsN_congr {g g' : Nat → Nat → Bool} {n : Nat} : ∀ {a : Nat}, (∀ x y, x < a → y < n → g x y = g' x y) → pairsN g n a = pairsN g' n a
  | 0, _ => by simp [pairsN]
  | a + 1, h => by
    rw [pairsN_succ, pairsN_succ, pairsN_congr fun x y hx hy => h x y (by omega) hy, List.filter_congr fun y hy => h a y (by omega) (List.mem_range.1 hy)]
theorem toldL_congr {f g : Nat → Bool} (h : Rl f = Rl g) : toldL f = toldL g := by
  unfold toldL
  rw [listL_pairs, listL_pairs, pairsN_congr fun x y hx hy => Rl_at7 h hx hy]
/-- what is told of an orientation is an order, the one told -/
theorem told_order {n : Nat} {f r : Nat → Bool} (h1 : 1 ≤ n) (h7 : n ≤ 7) (hr : ∀ {x y}, Rl r x y → x < n ∧ y < n ∧ x ≠ y) (ht : transB r = true) : orderE (Int.ofNat n) (flat (toldL r)) (toldL r).length = 0 ∧ Rl (orderF (Int.ofNat n) (flat (toldL r)) (toldL r).length) = Rl r := by
  rw [toldN_eq, toldN_len]
  exact order_flat h1 h7 (pairsN_lex _ _ _) (fun p hp => hr (mem_toldN.1 hp)) mem_toldN ht
theorem Rl_turn {r : Nat → Bool} : Rl (turnR r) = revX (Rl r) := ext2 fun x y => by
  unfold Rl revX
  constructor
  · rintro ⟨hx, hy, h⟩
    rw [at7_turnR hx hy] at h
    exact ⟨hy, hx, h⟩
  · rintro ⟨hy, hx, h⟩
    exact ⟨hx, hy, by rw [at7_turnR hx hy]; exact h⟩
theorem revX_revX (X : Nat → Nat → Prop) : revX (revX X) = X := rfl
theorem transB_turn {r : Nat → Bool} (h : transB r = true) : transB (turnR r) = true := by
  obtain ⟨h1, h2⟩ := transB_Rl.1 h
  have : TRx (Rl (turnR r)) := by rw [Rl_turn]; exact TR_rev.2 ⟨h1, h2⟩
  exact transB_Rl.2 ⟨this.asy, this.tr⟩
theorem eqB_ff {f : Nat → Bool} : eqB 49 f ff = true ↔ Rl f = emX := by
  rw [eqB_iff]
  constructor
  · intro h
    refine ext2 fun x y => ⟨fun ⟨hx, hy, k⟩ => ?_, fun k => k.elim⟩
    unfold at7 at k
    rw [h _ (by omega)] at k
    cases k
  · intro h j hj
    have := Rl_at7 (g := ff) (h.trans Rl_ff.symm) (x := j / 7) (y := j % 7) (by omega) (by omega)
    unfold at7 at this
    rw [show j / 7 * 7 + j % 7 = j by omega] at this
    exact this
end Go.Proofs.Yteekkjfjpoaihaa.Eng
namespace Go.Proofs.Yteekkjfjpoaihaa.Eng
open Go Go.Proofs
open Go.Proofs.Yteekkjfjpoaihaa.Ori
theorem at7_nearS {f : Nat → Bool} {a b : Int} {x y : Nat} (ha : 0 ≤ a ∧ a < 7) (hb : 0 ≤ b ∧ b < 7) (hx : x < 7) (hy : y < 7) : at7 (nearS f a b) x y = (at7 f x y || (a == (x : Int) && b == (y : Int)) || (a == (y : Int) && b == (x : Int))) := by
  obtain ⟨a, rfl⟩ : ∃ k : Nat, a = Int.ofNat k := ⟨a.toNat, by simp; omega⟩
  obtain ⟨b, rfl⟩ : ∃ k : Nat, b = Int.ofNat k := ⟨b.toNat, by simp; omega⟩
  simp at ha hb
  unfold at7 nearS
  simp only [List.length_cons, List.length_nil, Int.ofNat_eq_natCast, Int.toNat_natCast]
  by_cases h1 : x = b ∧ y = a
  · obtain ⟨rfl, rfl⟩ := h1
    rw [beqT (by omega), cond_true]
    simp
  · rw [beqF (by omega), cond_false]
    by_cases h2 : x = a ∧ y = b
    · obtain ⟨rfl, rfl⟩ := h2
      rw [beqT (by omega), cond_true]
      simp
    · rw [beqF (by omega), cond_false]
      have e1 : ((a : Int) == (x : Int) && (b : Int) == (y : Int)) = false := by
        rw [Bool.eq_false_iff]
        simp
        omega
      have e2 : ((a : Int) == (y : Int) && (b : Int) == (x : Int)) = false := by
        rw [Bool.eq_false_iff]
        simp
        omega
      rw [e1, e2]
      simp
theorem nearF_at {n : Int} {q : List Int} (hn : (decide (n < 1) || decide (n > 7)) = false) : ∀ {m : Nat}, (∀ i, i < m → badAt n q i = false) → ∀ {x y : Nat}, x < 7 → y < 7 → at7 (nearF q m) x y = (hasP q m x y || hasP q m y x)
  | 0, _, x, y, hx, hy => rfl
  | m + 1, h, x, y, hx, hy => by
    obtain ⟨h1, h2⟩ := badAt_rng hn (h m (by omega))
    show at7 (nearS (nearF q m) (pa q m) (pb q m)) x y = _
    rw [at7_nearS h1 h2 hx hy, hasP_succ, hasP_succ, pairAt_eq, pairAt_eq, nearF_at hn (fun i hi => h i (by omega)) hx hy]
    cases hasP q m x y <;> cases hasP q m y x <;> simp
    
theorem checkP_bad {n : Int} {q : List Int} {m : Nat} (h : err0 n q m = true) : (decide (n < 1) || decide (n > 7)) = false ∧ ∀ i, i < m → badAt n q i = false := by
  unfold err0 checkP at h
  cases h1 : (decide (n < 1) || decide (n > 7)) with
  | true => rw [h1] at h; cases h
  | false =>
    rw [h1, cond_false] at h
    refine ⟨rfl, ?_⟩
    cases h2 : (List.range m).any (badAt n q) with
    | true => rw [h2] at h; cases h
    | false => exact any_none _ _ h2
section
variable {n : Nat} {q : List Int} {m : Nat}
theorem badAt_at (h : err0 (Int.ofNat n) q m = true) {i : Nat} (hi : i < m) : ∃ a b : Nat, pa q i = (a : Int) ∧ pb q i = (b : Int) ∧ a < b ∧ b < n ∧ n ≤ 7 := by
  obtain ⟨h1, h2⟩ := checkP_bad h
  have hb := h2 i hi
  simp [badAt, badC] at hb h1
  refine ⟨(pa q i).toNat, (pb q i).toNat, ?_, ?_, ?_, ?_, ?_⟩ <;> omega
theorem err0_n (h : err0 (Int.ofNat n) q m = true) : 1 ≤ n ∧ n ≤ 7 := by
  obtain ⟨h1, _⟩ := checkP_bad h
  simp at h1
  omega
theorem near_gok (h : err0 (Int.ofNat n) q m = true) : GOK n (nearF q m) := by
  obtain ⟨h1, h2⟩ := checkP_bad h
  have h7 := (err0_n h).2
  refine ⟨fun {x y} hx hy he => ?_, fun {x} hx => ?_⟩
  · rw [nearF_at h1 h2 (by omega) (by omega)] at he ⊢
    rw [Bool.or_comm]
    exact he
  · rw [nearF_at h1 h2 (by omega) (by omega), Bool.or_self]
    cases hh : hasP q m x x with
    | false => rfl
    | true =>
      obtain ⟨i, hi, e1, e2⟩ := (hasP_iff _ _ _ _).1 hh
      obtain ⟨a, b, k1, k2, k3, _⟩ := badAt_at h hi
      omega
theorem near_none (h : err0 (Int.ofNat n) q 0 = true) : edgN n (nearF q 0) = [] := by
  cases hL : edgN n (nearF q 0) with
  | nil => rfl
  | cons p es =>
    have hp : p ∈ edgN n (nearF q 0) := by rw [hL]; simp
    have := (mem_edgN.1 hp).2.2
    cases this
theorem near_some (h : err0 (Int.ofNat n) q m = true) (hm : 0 < m) : edgN n (nearF q m) ≠ [] := by
  obtain ⟨h1, h2⟩ := checkP_bad h
  obtain ⟨a, b, k1, k2, k3, k4, k5⟩ := badAt_at h hm
  have : (a, b) ∈ edgN n (nearF q m) := mem_edgN.2 ⟨k3, k4, by
    rw [nearF_at h1 h2 (by omega) (by omega)]
    rw [(hasP_iff _ _ _ _).2 ⟨0, hm, k1, k2⟩]
    rfl⟩
  intro e
  rw [e] at this
  cases this
/-- the numbers of OrdersEven -/
theorem even_law (h : err0 (Int.ofNat n) q m = true) : (oriOk n (nearF q m) = decide (0 < cntN n (nearF q m))) ∧ (0 < m → cntN n (nearF q m) % 2 = 0) ∧ (m = 0 → cntN n (nearF q m) = 1 ∧ clsN n (nearF q m) = 0) ∧ (clsN n (nearF q m) ≤ 2 → cntN n (nearF q m) ≤ 2) := by
  have hf := near_gok h
  have h7 := (err0_n h).2
  refine ⟨?_, fun hm => ?_, fun hm => ?_, cntN_two h7 hf⟩
  · rw [Bool.eq_iff_iff, decide_eq_true_eq]
    exact (cntN_pos h7 hf).symm
  · obtain ⟨k, hk⟩ := cntN_even h7 hf (near_some h hm)
    omega
  · subst hm
    exact ⟨cntN_none (near_none h), clsN_none (near_none h) hf⟩
/-- the orders of OrdersEven: orient's, turned, and turned back -/
theorem ori_order (h : err0 (Int.ofNat n) q m = true) (hk : oriOk n (nearF q m) = true) : (∀ {x y}, Rl (oriR n (nearF q m)) x y → x < n ∧ y < n ∧ x ≠ y) ∧ transB (oriR n (nearF q m)) = true := by
  have hf := near_gok h
  have h7 := (err0_n h).2
  have hT := ori_to h7 hf hk
  refine ⟨fun {x y} hx => ?_, transB_Rl.2 ⟨hT.asym, hT.trans⟩⟩
  have := hT.sub hx
  exact ⟨this.1, this.2.1, fun e => hf.graph.irr x (by rw [← e] at this; exact this)⟩
end
end Go.Proofs.Yteekkjfjpoaihaa.Eng
namespace Go.Proofs.Yteekkjfjpoaihaa.Eng
open Go Go.Proofs
def Lw7 : List (Nat × Spec) := [(7, spTame)]
theorem Lw7_ok : SpecsL Lw7 := specsL_cons ok7 spTame_fp o7 (fun p hp => absurd hp (by simp))
noncomputable abbrev gw7 : Cal → Option Spec := specsΓ Lw7
theorem envw7 : EnvOK PP T gw7 := envL Lw7_ok
def Lw8 : List (Nat × Spec) := [(8, pureS (intPairsX 0 cntC gct))]
theorem Lw8_ok : SpecsL Lw8 := specsL_cons ok8C (pureS_fp (intPairsX_fp _ _ _)) o8 (fun p hp => absurd hp (by simp))
noncomputable abbrev gw8 : Cal → Option Spec := specsΓ Lw8
theorem envw8 : EnvOK PP T gw8 := envL Lw8_ok
def Lw9 : List (Nat × Spec) := [(9, pureS (intPairsX 0 err0 gcl))]
theorem Lw9_ok : SpecsL Lw9 := specsL_cons ok9 (pureS_fp (intPairsX_fp _ _ _)) o9 (fun p hp => absurd hp (by simp))
noncomputable abbrev gw9 : Cal → Option Spec := specsΓ Lw9
theorem envw9 : EnvOK PP T gw9 := envL Lw9_ok
noncomputable def Lw10Y : List (Nat × Spec) := [(10, sp10Y)]
theorem Lw10Y_ok : SpecsL Lw10Y := specsL_cons ok10Y intPairsL_fp o10 (fun p hp => absurd hp (by simp))
noncomputable abbrev gw10Y : Cal → Option Spec := specsΓ Lw10Y
theorem envw10Y : EnvOK PP T gw10Y := envL Lw10Y_ok
def Lw10N : List (Nat × Spec) := [(10, pureS (intPairsX 0 oriN fun _ _ _ => .tup [.s .nils, .s (.bool false), .s (.int .i64 0)]))]
theorem Lw10N_ok : SpecsL Lw10N := specsL_cons ok10N (pureS_fp (intPairsX_fp _ _ _)) o10 (fun p hp => absurd hp (by simp))
noncomputable abbrev gw10N : Cal → Option Spec := specsΓ Lw10N
theorem envw10N : EnvOK PP T gw10N := envL Lw10N_ok
abbrev A3 (n : Nat) (q : List Int) (m : Nat) : St := mkSt [(5, ⟨true, I n⟩), (6, lsS 0 m)] [IW q] 1 []
abbrev B3 (n : Nat) (q : List Int) (m c : Nat) : St := mkSt [(5, ⟨true, I n⟩), (6, lsS 0 m), (7, ⟨true, I c⟩), (8, ⟨true, I 0⟩)] [IW q] 1 []
abbrev C3 (n : Nat) (q : List Int) (m c k : Nat) : St := mkSt [(5, ⟨true, I n⟩), (6, lsS 0 m), (7, ⟨true, I c⟩), (8, ⟨true, I 0⟩), (9, ⟨true, I k⟩), (10, ⟨true, I 0⟩)] [IW q] 1 []
abbrev sl3 (n m c k : Nat) : List (Nat × Slot) := [(5, ⟨true, I n⟩), (6, lsS 0 m), (7, ⟨true, I c⟩), (8, ⟨true, I 0⟩), (9, ⟨true, I k⟩), (10, ⟨true, I 0⟩)]
abbrev D3 (n : Nat) (q : List Int) (m c k : Nat) (o : List Int) (l : Nat) : St := mkSt (sl3 n m c k ++ [(11, lsS 1 l), (12, ⟨true, B true⟩), (13, ⟨true, I 0⟩)]) [IW q, IW o] 2 []
abbrev E3 (n : Nat) (q : List Int) (m c k : Nat) : St := mkSt (sl3 n m c k ++ [(12, ⟨true, B false⟩), (13, ⟨true, I 0⟩)]) [IW q] 1 []
theorem a3 {n : Int} {q : List Int} {m : Nat} : Exec PP T none x3.nt 0 x3.body.a (startSt (A40 n m) (H1 q)) .n (mkSt [(0, ⟨true, I n⟩), (1, sl0 m)] (H1 q) 1 []) := by
  refine exec_orun env0 false 60 [] [0] (fun _ => rfl) (by kernel_rfl) (by kernel_rfl) (by kernel_rfl) (by kernel_rfl)
theorem b3 {n : Int} {q : List Int} {m : Nat} (hq : q.length = m * 2) : Exec PP T none x3.nt 0 x3.body.b.a (mkSt [(0, ⟨true, I n⟩), (1, sl0 m)] (H1 q) 1 []) .n (A3 (tamN n 6) (flat (tamL n q m 6)) (tamL n q m 6).length) := by
  have key : Exec PP T none x3.nt 0 x3.body.b.a (mkSt [(0, ⟨true, I n⟩), (1, sl0 m)] (H1 q) 1 []) .n (A3 (tamN n 6) (flat (tamL n (List.take (m * 2) (List.drop 0 q)) m 6)) (tamL n (List.take (m * 2) (List.drop 0 q)) m 6).length) := by
    refine exec_orun envw7 false 60 [] [1] (fun _ => rfl) (by kernel_rfl) (by kernel_rfl) (by kernel_rfl) ?_
    rw [(show obOf (orun gw7 false 60 x3.body.b.a (mkSt [(0, ⟨true, I n⟩), (1, sl0 m)] (H1 q) 1 []) []) = (decide ((0 + m) * 2 ≤ q.length) && true && true && true && true) from by kernel_rfl)]
    simp [hq]
  rw [tk hq] at key
  exact key
theorem cc3 {n : Nat} {q : List Int} {m : Nat} (hq : q.length = m * 2) (hm : m ≤ 1000000000) (h : err0 (Int.ofNat n) q m = true) (h6 : n ≤ 6) : Exec PP T none x3.nt 0 x3.body.b.b.a (A3 n q m) .n (B3 n q m (cntN n (nearF q m))) := by
  have key : Exec PP T none x3.nt 0 x3.body.b.b.a (A3 n q m) .n (B3 n q m (cntN n (nearF (List.take (m * 2) (List.drop 0 q)) m))) := by
    refine exec_orun envw8 false 60 [] [0] (fun _ => rfl) (by kernel_rfl) (by kernel_rfl) (by kernel_rfl) ?_
    rw [(show obOf (orun gw8 false 60 x3.body.b.b.a (A3 n q m) []) = (decide ((0 + m) * 2 ≤ q.length) && (decide (m ≤ 1000000000) && (checkP (Int.ofNat n) (List.take (m * 2) q) m == 0 && decide (Int.ofNat n ≤ 6))) && true) from by kernel_rfl)]
    try rw [tk0 hq]
    simp only [err0] at h
    simp at h
    simp [hq, hm, h]
    omega
  rw [tk hq] at key
  exact key
theorem d3 {n : Nat} {q : List Int} {m c : Nat} (hq : q.length = m * 2) (hm : m ≤ 1000000000) (h : err0 (Int.ofNat n) q m = true) : Exec PP T none x3.nt 0 x3.body.b.b.b.a (B3 n q m c) .n (C3 n q m c (clsN n (nearF q m))) := by
  have key : Exec PP T none x3.nt 0 x3.body.b.b.b.a (B3 n q m c) .n (C3 n q m c (clsN n (nearF (List.take (m * 2) (List.drop 0 q)) m))) := by
    refine exec_orun envw9 false 60 [] [0] (fun _ => rfl) (by kernel_rfl) (by kernel_rfl) (by kernel_rfl) ?_
    rw [(show obOf (orun gw9 false 60 x3.body.b.b.b.a (B3 n q m c) []) = (decide ((0 + m) * 2 ≤ q.length) && (decide (m ≤ 1000000000) && checkP (Int.ofNat n) (List.take (m * 2) q) m == 0) && true) from by kernel_rfl)]
    try rw [tk0 hq]
    simp only [err0] at h
    simp at h
    simp [hq, hm, h]
  rw [tk hq] at key
  exact key
theorem e3Y {n : Nat} {q : List Int} {m c k : Nat} (hq : q.length = m * 2) (hm : m ≤ 1000000000) (h : err0 (Int.ofNat n) q m = true) (hk : oriOk n (nearF q m) = true) : Exec PP T none x3.nt 0 x3.body.b.b.b.b.a (C3 n q m c k) .n (D3 n q m c k (flat (oriL (Int.ofNat n) q m)) (oriL (Int.ofNat n) q m).length) := by
  have key : Exec PP T none x3.nt 0 x3.body.b.b.b.b.a (C3 n q m c k) .n (D3 n q m c k (flat (oriL (Int.ofNat n) (List.take (m * 2) (List.drop 0 q)) m)) (oriL (Int.ofNat n) (List.take (m * 2) (List.drop 0 q)) m).length) := by
    refine exec_orun envw10Y false 60 [] [0, 1] (fun _ => rfl) (by kernel_rfl) (by kernel_rfl) (by kernel_rfl) ?_
    rw [(show obOf (orun gw10Y false 60 x3.body.b.b.b.b.a (C3 n q m c k) []) = (decide ((0 + m) * 2 ≤ q.length) && (decide (m ≤ 1000000000) && (checkP (Int.ofNat n) (List.take (m * 2) q) m == 0 && oriOk n (nearF (List.take (m * 2) (List.drop (0 * 2) q)) m))) && true && true && true) from by kernel_rfl)]
    try rw [tk0 hq]
    simp only [err0] at h
    simp at h
    simp [hq, hm, h, hk, tk0 hq]
  rw [tk hq] at key
  exact key
theorem e3N {n : Nat} {q : List Int} {m c k : Nat} (hq : q.length = m * 2) (hm : m ≤ 1000000000) (h : err0 (Int.ofNat n) q m = true) (hk : oriOk n (nearF q m) = false) : Exec PP T none x3.nt 0 x3.body.b.b.b.b.a (C3 n q m c k) .n (E3 n q m c k) := by
  refine exec_orun envw10N false 60 [] [0] (fun _ => rfl) (by kernel_rfl) (by kernel_rfl) (by kernel_rfl) ?_
  rw [(show obOf (orun gw10N false 60 x3.body.b.b.b.b.a (C3 n q m c k) []) = (decide ((0 + m) * 2 ≤ q.length) && (decide (m ≤ 1000000000) && (checkP (Int.ofNat n) (List.take (m * 2) q) m == 0 && !oriOk n (nearF (List.take (m * 2) (List.drop (0 * 2) q)) m))) && true) from by kernel_rfl)]
  try rw [tk0 hq]
  simp only [err0] at h
  simp at h
  simp [hq, hm, h, hk, tk0 hq]
end Go.Proofs.Yteekkjfjpoaihaa.Eng
namespace Go.Proofs.Yteekkjfjpoaihaa.Eng
open Go Go.Proofs
theorem f3Y {n : Nat} {q : List Int} {m c k : Nat} {o : List Int} {l : Nat} (h1 : 0 < c) (h2 : 0 < m → c % 2 = 0) (h3 : m = 0 → c = 1 ∧ k = 0) (h4 : k ≤ 2 → c ≤ 2) : Exec PP T none x3.nt 0 x3.body.b.b.b.b.b.a (D3 n q m c k o l) .n (D3 n q m c k o l) := by
  refine exec_orun env0 false 60 [false] [0, 1] (fun _ => rfl) (by kernel_rfl) (by kernel_rfl) (by kernel_rfl) ?_
  rw [(show obOf (orun g0 false 60 x3.body.b.b.b.b.b.a (D3 n q m c k o l) [false]) = ((!(true != (true == decide (Int.ofNat c > 0))) == false || true) && ((!(true != (true == decide (Int.ofNat c > 0))) == false || (true != (true == decide (Int.ofNat c > 0))) == false && true && true) && ((!(true != (true == decide (Int.ofNat c > 0))) == false || (true != (true == decide (Int.ofNat c > 0))) == false && true && true) && ((!(true != (true == decide (Int.ofNat c > 0))) == false || (true != (true == decide (Int.ofNat c > 0))) == false && true && true) && ((!((true != (true == decide (Int.ofNat c > 0))) == false && decide (Int.ofNat m > 0) == true) || true) && ((!((true != (true == decide (Int.ofNat c > 0))) == false && decide (Int.ofNat m > 0) == true) || (true != (true == decide (Int.ofNat c > 0))) == false && decide (Int.ofNat m > 0) == true && true && true) && ((!((true != (true == decide (Int.ofNat c > 0))) == false && decide (Int.ofNat m > 0) == true) || (true != (true == decide (Int.ofNat c > 0))) == false && decide (Int.ofNat m > 0) == true && true && true) && ((!(true != (true == decide (Int.ofNat c > 0))) == false || ((true != (true == decide (Int.ofNat c > 0))) == false && bif decide (Int.ofNat m > 0) then (true != (true == decide (Int.ofNat c > 0))) == false && decide (Int.ofNat m > 0) == true else true) && true) && ((bif true != (true == decide (Int.ofNat c > 0)) then true else (true != (true == decide (Int.ofNat c > 0))) == false) && true && ((!(bif true != (true == decide (Int.ofNat c > 0)) then true else bif decide (Int.ofNat m > 0) then Int.ofNat (c % 2) != 0 else false) == false || true) && ((!(bif true != (true == decide (Int.ofNat c > 0)) then true else bif decide (Int.ofNat m > 0) then Int.ofNat (c % 2) != 0 else false) == false || (bif true != (true == decide (Int.ofNat c > 0)) then true else bif decide (Int.ofNat m > 0) then Int.ofNat (c % 2) != 0 else false) == false && true && true) && ((!(bif true != (true == decide (Int.ofNat c > 0)) then true else bif decide (Int.ofNat m > 0) then Int.ofNat (c % 2) != 0 else false) == false || (bif true != (true == decide (Int.ofNat c > 0)) then true else bif decide (Int.ofNat m > 0) then Int.ofNat (c % 2) != 0 else false) == false && true && true) && ((!(bif true != (true == decide (Int.ofNat c > 0)) then true else bif decide (Int.ofNat m > 0) then Int.ofNat (c % 2) != 0 else false) == false || (bif true != (true == decide (Int.ofNat c > 0)) then true else bif decide (Int.ofNat m > 0) then Int.ofNat (c % 2) != 0 else false) == false && true && true) && ((!((bif true != (true == decide (Int.ofNat c > 0)) then true else bif decide (Int.ofNat m > 0) then Int.ofNat (c % 2) != 0 else false) == false && (Int.ofNat m == 0) == true) || true) && ((!((bif true != (true == decide (Int.ofNat c > 0)) then true else bif decide (Int.ofNat m > 0) then Int.ofNat (c % 2) != 0 else false) == false && (Int.ofNat m == 0) == true) || (bif true != (true == decide (Int.ofNat c > 0)) then true else bif decide (Int.ofNat m > 0) then Int.ofNat (c % 2) != 0 else false) == false && (Int.ofNat m == 0) == true && true && true) && ((!((bif true != (true == decide (Int.ofNat c > 0)) then true else bif decide (Int.ofNat m > 0) then Int.ofNat (c % 2) != 0 else false) == false && (Int.ofNat m == 0) == true) || (bif true != (true == decide (Int.ofNat c > 0)) then true else bif decide (Int.ofNat m > 0) then Int.ofNat (c % 2) != 0 else false) == false && (Int.ofNat m == 0) == true && true && true) && ((!((bif true != (true == decide (Int.ofNat c > 0)) then true else bif decide (Int.ofNat m > 0) then Int.ofNat (c % 2) != 0 else false) == false && (Int.ofNat m == 0) == true && (Int.ofNat c != 1) == false) || true) && ((!((bif true != (true == decide (Int.ofNat c > 0)) then true else bif decide (Int.ofNat m > 0) then Int.ofNat (c % 2) != 0 else false) == false && (Int.ofNat m == 0) == true && (Int.ofNat c != 1) == false) || (bif true != (true == decide (Int.ofNat c > 0)) then true else bif decide (Int.ofNat m > 0) then Int.ofNat (c % 2) != 0 else false) == false && (Int.ofNat m == 0) == true && (Int.ofNat c != 1) == false && true && true) && ((!((bif true != (true == decide (Int.ofNat c > 0)) then true else bif decide (Int.ofNat m > 0) then Int.ofNat (c % 2) != 0 else false) == false && (Int.ofNat m == 0) == true) || ((bif true != (true == decide (Int.ofNat c > 0)) then true else bif decide (Int.ofNat m > 0) then Int.ofNat (c % 2) != 0 else false) == false && (Int.ofNat m == 0) == true && bif Int.ofNat c != 1 then true else (bif true != (true == decide (Int.ofNat c > 0)) then true else bif decide (Int.ofNat m > 0) then Int.ofNat (c % 2) != 0 else false) == false && (Int.ofNat m == 0) == true && (Int.ofNat c != 1) == false) && true) && ((!(bif true != (true == decide (Int.ofNat c > 0)) then true else bif decide (Int.ofNat m > 0) then Int.ofNat (c % 2) != 0 else false) == false || ((bif true != (true == decide (Int.ofNat c > 0)) then true else bif decide (Int.ofNat m > 0) then Int.ofNat (c % 2) != 0 else false) == false && bif Int.ofNat m == 0 then (bif true != (true == decide (Int.ofNat c > 0)) then true else bif decide (Int.ofNat m > 0) then Int.ofNat (c % 2) != 0 else false) == false && (Int.ofNat m == 0) == true else true) && true) && ((bif bif true != (true == decide (Int.ofNat c > 0)) then true else bif decide (Int.ofNat m > 0) then Int.ofNat (c % 2) != 0 else false then true else (bif true != (true == decide (Int.ofNat c > 0)) then true else bif decide (Int.ofNat m > 0) then Int.ofNat (c % 2) != 0 else false) == false) && true && ((!(bif bif true != (true == decide (Int.ofNat c > 0)) then true else bif decide (Int.ofNat m > 0) then Int.ofNat (c % 2) != 0 else false then true else bif Int.ofNat m == 0 then bif Int.ofNat c != 1 then true else Int.ofNat k != 0 else false) == false || true) && ((!(bif bif true != (true == decide (Int.ofNat c > 0)) then true else bif decide (Int.ofNat m > 0) then Int.ofNat (c % 2) != 0 else false then true else bif Int.ofNat m == 0 then bif Int.ofNat c != 1 then true else Int.ofNat k != 0 else false) == false || (bif bif true != (true == decide (Int.ofNat c > 0)) then true else bif decide (Int.ofNat m > 0) then Int.ofNat (c % 2) != 0 else false then true else bif Int.ofNat m == 0 then bif Int.ofNat c != 1 then true else Int.ofNat k != 0 else false) == false && true && true) && ((!(bif bif true != (true == decide (Int.ofNat c > 0)) then true else bif decide (Int.ofNat m > 0) then Int.ofNat (c % 2) != 0 else false then true else bif Int.ofNat m == 0 then bif Int.ofNat c != 1 then true else Int.ofNat k != 0 else false) == false || (bif bif true != (true == decide (Int.ofNat c > 0)) then true else bif decide (Int.ofNat m > 0) then Int.ofNat (c % 2) != 0 else false then true else bif Int.ofNat m == 0 then bif Int.ofNat c != 1 then true else Int.ofNat k != 0 else false) == false && true && true) && ((!((bif bif true != (true == decide (Int.ofNat c > 0)) then true else bif decide (Int.ofNat m > 0) then Int.ofNat (c % 2) != 0 else false then true else bif Int.ofNat m == 0 then bif Int.ofNat c != 1 then true else Int.ofNat k != 0 else false) == false && decide (Int.ofNat k ≤ 2) == true) || true) && ((!((bif bif true != (true == decide (Int.ofNat c > 0)) then true else bif decide (Int.ofNat m > 0) then Int.ofNat (c % 2) != 0 else false then true else bif Int.ofNat m == 0 then bif Int.ofNat c != 1 then true else Int.ofNat k != 0 else false) == false && decide (Int.ofNat k ≤ 2) == true) || (bif bif true != (true == decide (Int.ofNat c > 0)) then true else bif decide (Int.ofNat m > 0) then Int.ofNat (c % 2) != 0 else false then true else bif Int.ofNat m == 0 then bif Int.ofNat c != 1 then true else Int.ofNat k != 0 else false) == false && decide (Int.ofNat k ≤ 2) == true && true && true) && ((!(bif bif true != (true == decide (Int.ofNat c > 0)) then true else bif decide (Int.ofNat m > 0) then Int.ofNat (c % 2) != 0 else false then true else bif Int.ofNat m == 0 then bif Int.ofNat c != 1 then true else Int.ofNat k != 0 else false) == false || ((bif bif true != (true == decide (Int.ofNat c > 0)) then true else bif decide (Int.ofNat m > 0) then Int.ofNat (c % 2) != 0 else false then true else bif Int.ofNat m == 0 then bif Int.ofNat c != 1 then true else Int.ofNat k != 0 else false) == false && bif decide (Int.ofNat k ≤ 2) then (bif bif true != (true == decide (Int.ofNat c > 0)) then true else bif decide (Int.ofNat m > 0) then Int.ofNat (c % 2) != 0 else false then true else bif Int.ofNat m == 0 then bif Int.ofNat c != 1 then true else Int.ofNat k != 0 else false) == false && decide (Int.ofNat k ≤ 2) == true else true) && true) && ((bif bif bif true != (true == decide (Int.ofNat c > 0)) then true else bif decide (Int.ofNat m > 0) then Int.ofNat (c % 2) != 0 else false then true else bif Int.ofNat m == 0 then bif Int.ofNat c != 1 then true else Int.ofNat k != 0 else false then true else (bif bif true != (true == decide (Int.ofNat c > 0)) then true else bif decide (Int.ofNat m > 0) then Int.ofNat (c % 2) != 0 else false then true else bif Int.ofNat m == 0 then bif Int.ofNat c != 1 then true else Int.ofNat k != 0 else false) == false) && true && true))))))))))))))))))))))))))) && ((!bif bif bif true != (true == decide (Int.ofNat c > 0)) then true else bif decide (Int.ofNat m > 0) then Int.ofNat (c % 2) != 0 else false then true else bif Int.ofNat m == 0 then bif Int.ofNat c != 1 then true else Int.ofNat k != 0 else false then true else bif decide (Int.ofNat k ≤ 2) then decide (Int.ofNat c > 2) else false) && true)) from by kernel_rfl)]
  have e1 : decide (Int.ofNat c > 0) = true := by simp; omega
  by_cases hm : m = 0
  · obtain ⟨rfl, rfl⟩ := h3 hm
    subst hm
    rfl
  · have e2 : decide (Int.ofNat m > 0) = true := by simp; omega
    have e3 : (Int.ofNat m == 0) = false := by simp; omega
    have e4 : (Int.ofNat (c % 2) != 0) = false := by rw [h2 (by omega)]; rfl
    by_cases hk : k ≤ 2
    · have e5 : decide (Int.ofNat c > 2) = false := by simp; have := h4 hk; omega
      have e6 : decide (Int.ofNat k ≤ 2) = true := by simp; omega
      simp only [e1, e2, e3, e4, e5, e6]
      rfl
    · have e6 : decide (Int.ofNat k ≤ 2) = false := by simp; omega
      simp only [e1, e2, e3, e4, e6]
      rfl
theorem f3N {n : Nat} {q : List Int} {m k : Nat} (h3 : m ≠ 0) : Exec PP T none x3.nt 0 x3.body.b.b.b.b.b.a (E3 n q m 0 k) .n (E3 n q m 0 k) := by
  refine exec_orun env0 false 60 [false] [0] (fun _ => rfl) (by kernel_rfl) (by kernel_rfl) (by kernel_rfl) ?_
  rw [(show obOf (orun g0 false 60 x3.body.b.b.b.b.b.a (E3 n q m 0 k) [false]) = ((!decide (Int.ofNat m > 0) == true || true) && ((!decide (Int.ofNat m > 0) == true || decide (Int.ofNat m > 0) == true && true && true) && ((!decide (Int.ofNat m > 0) == true || decide (Int.ofNat m > 0) == true && true && true) && ((bif decide (Int.ofNat m > 0) then decide (Int.ofNat m > 0) == true else true) && true && ((!(bif decide (Int.ofNat m > 0) then false else false) == false || true) && ((!(bif decide (Int.ofNat m > 0) then false else false) == false || (bif decide (Int.ofNat m > 0) then false else false) == false && true && true) && ((!(bif decide (Int.ofNat m > 0) then false else false) == false || (bif decide (Int.ofNat m > 0) then false else false) == false && true && true) && ((!(bif decide (Int.ofNat m > 0) then false else false) == false || (bif decide (Int.ofNat m > 0) then false else false) == false && true && true) && ((!((bif decide (Int.ofNat m > 0) then false else false) == false && (Int.ofNat m == 0) == true) || true) && ((!((bif decide (Int.ofNat m > 0) then false else false) == false && (Int.ofNat m == 0) == true) || (bif decide (Int.ofNat m > 0) then false else false) == false && (Int.ofNat m == 0) == true && true && true) && ((!((bif decide (Int.ofNat m > 0) then false else false) == false && (Int.ofNat m == 0) == true) || (bif decide (Int.ofNat m > 0) then false else false) == false && (Int.ofNat m == 0) == true && true && true) && ((!((bif decide (Int.ofNat m > 0) then false else false) == false && (Int.ofNat m == 0) == true && false) || true) && ((!((bif decide (Int.ofNat m > 0) then false else false) == false && (Int.ofNat m == 0) == true && false) || (bif decide (Int.ofNat m > 0) then false else false) == false && (Int.ofNat m == 0) == true && false && true && true) && ((!((bif decide (Int.ofNat m > 0) then false else false) == false && (Int.ofNat m == 0) == true) || (bif decide (Int.ofNat m > 0) then false else false) == false && (Int.ofNat m == 0) == true && true && true) && ((!(bif decide (Int.ofNat m > 0) then false else false) == false || ((bif decide (Int.ofNat m > 0) then false else false) == false && bif Int.ofNat m == 0 then (bif decide (Int.ofNat m > 0) then false else false) == false && (Int.ofNat m == 0) == true else true) && true) && ((bif bif decide (Int.ofNat m > 0) then false else false then true else (bif decide (Int.ofNat m > 0) then false else false) == false) && true && ((!(bif bif decide (Int.ofNat m > 0) then false else false then true else bif Int.ofNat m == 0 then true else false) == false || true) && ((!(bif bif decide (Int.ofNat m > 0) then false else false then true else bif Int.ofNat m == 0 then true else false) == false || (bif bif decide (Int.ofNat m > 0) then false else false then true else bif Int.ofNat m == 0 then true else false) == false && true && true) && ((!(bif bif decide (Int.ofNat m > 0) then false else false then true else bif Int.ofNat m == 0 then true else false) == false || (bif bif decide (Int.ofNat m > 0) then false else false then true else bif Int.ofNat m == 0 then true else false) == false && true && true) && ((!((bif bif decide (Int.ofNat m > 0) then false else false then true else bif Int.ofNat m == 0 then true else false) == false && decide (Int.ofNat k ≤ 2) == true) || true) && ((!((bif bif decide (Int.ofNat m > 0) then false else false then true else bif Int.ofNat m == 0 then true else false) == false && decide (Int.ofNat k ≤ 2) == true) || (bif bif decide (Int.ofNat m > 0) then false else false then true else bif Int.ofNat m == 0 then true else false) == false && decide (Int.ofNat k ≤ 2) == true && true && true) && ((!(bif bif decide (Int.ofNat m > 0) then false else false then true else bif Int.ofNat m == 0 then true else false) == false || ((bif bif decide (Int.ofNat m > 0) then false else false then true else bif Int.ofNat m == 0 then true else false) == false && bif decide (Int.ofNat k ≤ 2) then (bif bif decide (Int.ofNat m > 0) then false else false then true else bif Int.ofNat m == 0 then true else false) == false && decide (Int.ofNat k ≤ 2) == true else true) && true) && ((bif bif bif decide (Int.ofNat m > 0) then false else false then true else bif Int.ofNat m == 0 then true else false then true else (bif bif decide (Int.ofNat m > 0) then false else false then true else bif Int.ofNat m == 0 then true else false) == false) && true && true)))))))))))))))))))))) && ((!bif bif bif decide (Int.ofNat m > 0) then false else false then true else bif Int.ofNat m == 0 then true else false then true else bif decide (Int.ofNat k ≤ 2) then false else false) && true)) from by kernel_rfl)]
  have e2 : decide (Int.ofNat m > 0) = true := by simp; omega
  have e3 : (Int.ofNat m == 0) = false := by simp; omega
  by_cases hk : k ≤ 2
  · have e6 : decide (Int.ofNat k ≤ 2) = true := by simp; omega
    simp only [e2, e3, e6]
    rfl
  · have e6 : decide (Int.ofNat k ≤ 2) = false := by simp; omega
    simp only [e2, e3, e6]
    rfl
end Go.Proofs.Yteekkjfjpoaihaa.Eng
namespace Go.Proofs.Yteekkjfjpoaihaa.Eng
open Go Go.Proofs
noncomputable def Lw12Y : List (Nat × Spec) := [(12, sp12Y)]
theorem Lw12Y_ok : SpecsL Lw12Y := specsL_cons ok12Y intPairsL_fp o12 (fun p hp => absurd hp (by simp))
noncomputable abbrev gw12Y : Cal → Option Spec := specsΓ Lw12Y
theorem envw12Y : EnvOK PP T gw12Y := envL Lw12Y_ok
def Lw12N : List (Nat × Spec) := [(12, pureS (intPairsX 0 turN fun _ _ _ => .tup [.s .nils, .s (.int .i64 0)]))]
theorem Lw12N_ok : SpecsL Lw12N := specsL_cons ok12N (pureS_fp (intPairsX_fp _ _ _)) o12 (fun p hp => absurd hp (by simp))
noncomputable abbrev gw12N : Cal → Option Spec := specsΓ Lw12N
theorem envw12N : EnvOK PP T gw12N := envL Lw12N_ok
def gSameT (args : List AV) (h : Nat → Option HO) : Option (Bool × TV × List Nat) := match args with
  | [s, t] => match srcOf (.av s) h .i64 2, srcOf (.av t) h .i64 2 with
    | some (vc, q, m, rd), some (vc', q', m', rd') => some (vc && (vc' && (bndL m && sameP q m q' m')), B true, rd ++ rd')
    | _, _ => none
  | _ => none
theorem gSameT_fp : PureFp gSameT := by
  intro args h h' q hg hf
  unfold gSameT at hg ⊢
  split at hg
  · split at hg
    · rename_i hs ht
      cases hg
      rw [srcOf_fp hs fun id hid => hf id (List.mem_append.2 (.inl hid)), srcOf_fp ht fun id hid => hf id (List.mem_append.2 (.inr hid))]
    · cases hg
  · cases hg
theorem ok14T : SpecOK PP (compC T) 14 (pureS gSameT) := by
  intro ctx m hh w args vals base e hH hargs hfr hup hr hvc
  have h := ok14 ctx m hh w args vals base
  simp only [pureS, gSameT] at hr
  simp only [pureS, gSame] at h
  split at hr
  case h_2 => cases hr
  rename_i vc u rd hq
  cases hr
  simp only at hvc
  subst hvc
  split at hq
  case h_2 => cases hq
  split at hq
  case h_2 => cases hq
  rename_i vc q m' rd1 vc' q' m2 rd2 hs ht
  simp only [Option.some.injEq, Prod.mk.injEq, Bool.and_eq_true] at hq
  obtain ⟨⟨rfl, rfl, hm, hp⟩, rfl, rfl⟩ := hq
  simp only [hs, ht, hp] at h
  exact h ⟨true && (true && bndL m'), B true, [], [], some (rd1 ++ rd2)⟩ hH hargs hfr hup rfl (by simp [hm])
def LwZ : List (Nat × Spec) := [(13, pureS (intPairsX 0 (oW 0) fun _ _ _ => I 0)), (14, pureS gSameT), (11, pureS gAwake)]
theorem LwZ_ok (h11 : SpecOK PP (compC T) 11 (pureS gAwake)) : SpecsL LwZ := specsL_cons (specX_lit ok13e fun n q m h => ⟨rfl, (by rw [eq_of_beq h])⟩) (pureS_fp (intPairsX_fp _ _ _)) o13 (specsL_cons ok14T (pureS_fp gSameT_fp) o14 (specsL_cons h11 (pureS_fp gAwake_fp) o11 (fun p hp => absurd hp (by simp))))
noncomputable abbrev gwZ : Cal → Option Spec := specsΓ LwZ
theorem envwZ (h11 : SpecOK PP (compC T) 11 (pureS gAwake)) : EnvOK PP T gwZ := envL (LwZ_ok h11)
def Z3 : XC := x3.body.b.b.b.b.b.b
abbrev F3 (n : Nat) (o : List Int) (l : Nat) : St := mkSt [(5, ⟨true, I n⟩), (11, lsS 0 l)] [IW o] 1 []
abbrev nilS : Slot := ⟨true, .av (.s .nils)⟩
abbrev F3n (n : Nat) (o : List Int) (l : Nat) : St := mkSt [(5, ⟨true, I n⟩), (11, lsS 0 l), (14, nilS), (15, ⟨true, I 0⟩)] [IW o] 1 []
abbrev F3y (n : Nat) (o : List Int) (l : Nat) (t : List Int) (k : Nat) : St := mkSt [(5, ⟨true, I n⟩), (11, lsS 0 l), (14, lsS 1 k), (15, ⟨true, I 0⟩)] [IW o, IW t] 2 []
abbrev G3n (n : Nat) (o : List Int) (l : Nat) : St := mkSt [(5, ⟨true, I n⟩), (11, lsS 0 l), (14, nilS), (15, ⟨true, I 0⟩), (16, nilS), (17, ⟨true, I 0⟩)] [IW o] 1 []
abbrev G3y (n : Nat) (o : List Int) (l : Nat) (t : List Int) (k : Nat) (b : List Int) (j : Nat) : St := mkSt [(5, ⟨true, I n⟩), (11, lsS 0 l), (14, lsS 1 k), (15, ⟨true, I 0⟩), (16, lsS 2 j), (17, ⟨true, I 0⟩)] [IW o, IW t, IW b] 3 []
theorem g3Y {n : Nat} {q : List Int} {m c k : Nat} {o : List Int} {l : Nat} : Exec PP T none x3.nt 0 Z3.a (D3 n q m c k o l) .n (F3 n o l) := by
  refine exec_orun env0 false 60 [false] [1] (fun _ => rfl) (by kernel_rfl) (by kernel_rfl) (by kernel_rfl) (by kernel_rfl)
theorem g3N (h11 : SpecOK PP (compC T) 11 (pureS gAwake)) {n : Nat} {q : List Int} {m c k : Nat} : Exec PP T none x3.nt 0 Z3.a (E3 n q m c k) .r (RB 4 true) := by
  refine exec_orun (envwZ h11) false 60 [true] [] (fun _ => rfl) (by kernel_rfl) (by kernel_rfl) (by kernel_rfl) (by kernel_rfl)
theorem h3Y {n : Nat} {o : List Int} {l : Nat} (ho : o.length = l * 2) (hl : l ≤ 1000000000) (h : turY (Int.ofNat n) o l = true) : Exec PP T none x3.nt 0 Z3.b.a (F3 n o l) .n (F3y n o l (flat (turL (Int.ofNat n) o l)) (turL (Int.ofNat n) o l).length) := by
  have key : Exec PP T none x3.nt 0 Z3.b.a (F3 n o l) .n (F3y n o l (flat (turL (Int.ofNat n) (List.take (l * 2) (List.drop 0 o)) l)) (turL (Int.ofNat n) (List.take (l * 2) (List.drop 0 o)) l).length) := by
    refine exec_orun envw12Y false 60 [] [0, 1] (fun _ => rfl) (by kernel_rfl) (by kernel_rfl) (by kernel_rfl) ?_
    rw [(show obOf (orun gw12Y false 60 Z3.b.a (F3 n o l) []) = (decide ((0 + l) * 2 ≤ o.length) && (decide (l ≤ 1000000000) && (orderE (Int.ofNat n) (List.take (l * 2) o) l == 0 && !eqB 49 (orderF (Int.ofNat n) (List.take (l * 2) (List.drop (0 * 2) o)) l) ff)) && true && true && true) from by kernel_rfl)]
    unfold turY at h
    simp [ho, hl, tk0 ho]
    simpa using h
  rw [tk ho] at key
  exact key
theorem h3N {n : Nat} {o : List Int} {l : Nat} (ho : o.length = l * 2) (hl : l ≤ 1000000000) (h : turN (Int.ofNat n) o l = true) : Exec PP T none x3.nt 0 Z3.b.a (F3 n o l) .n (F3n n o l) := by
  refine exec_orun envw12N false 60 [] [0] (fun _ => rfl) (by kernel_rfl) (by kernel_rfl) (by kernel_rfl) ?_
  rw [(show obOf (orun gw12N false 60 Z3.b.a (F3 n o l) []) = (decide ((0 + l) * 2 ≤ o.length) && (decide (l ≤ 1000000000) && (orderE (Int.ofNat n) (List.take (l * 2) o) l == 0 && eqB 49 (orderF (Int.ofNat n) (List.take (l * 2) (List.drop (0 * 2) o)) l) ff)) && true) from by kernel_rfl)]
  unfold turN at h
  simp [ho, hl, tk0 ho]
  simpa using h
theorem i3Y {n : Nat} {o : List Int} {l : Nat} {t : List Int} {k : Nat} (ht : t.length = k * 2) (hk : k ≤ 1000000000) (h : turY (Int.ofNat n) t k = true) : Exec PP T none x3.nt 0 Z3.b.b.a (F3y n o l t k) .n (G3y n o l t k (flat (turL (Int.ofNat n) t k)) (turL (Int.ofNat n) t k).length) := by
  have key : Exec PP T none x3.nt 0 Z3.b.b.a (F3y n o l t k) .n (G3y n o l t k (flat (turL (Int.ofNat n) (List.take (k * 2) (List.drop 0 t)) k)) (turL (Int.ofNat n) (List.take (k * 2) (List.drop 0 t)) k).length) := by
    refine exec_orun envw12Y false 60 [] [0, 1, 2] (fun _ => rfl) (by kernel_rfl) (by kernel_rfl) (by kernel_rfl) ?_
    rw [(show obOf (orun gw12Y false 60 Z3.b.b.a (F3y n o l t k) []) = (decide ((0 + k) * 2 ≤ t.length) && (decide (k ≤ 1000000000) && (orderE (Int.ofNat n) (List.take (k * 2) t) k == 0 && !eqB 49 (orderF (Int.ofNat n) (List.take (k * 2) (List.drop (0 * 2) t)) k) ff)) && true && true && true) from by kernel_rfl)]
    unfold turY at h
    simp [ht, hk, tk0 ht]
    simpa using h
  rw [tk ht] at key
  exact key
theorem i3N {n : Nat} {o : List Int} {l : Nat} (h : turN (Int.ofNat n) [] 0 = true) : Exec PP T none x3.nt 0 Z3.b.b.a (F3n n o l) .n (G3n n o l) := by
  refine exec_orun envw12N false 60 [] [0] (fun _ => rfl) (by kernel_rfl) (by kernel_rfl) (by kernel_rfl) ?_
  rw [(show obOf (orun gw12N false 60 Z3.b.b.a (F3n n o l) []) = (orderE (Int.ofNat n) [] 0 == 0 && eqB 49 (orderF (Int.ofNat n) [] 0) ff && true) from by kernel_rfl)]
  unfold turN at h
  simp
  simpa using h
theorem j3Y (h11 : SpecOK PP (compC T) 11 (pureS gAwake)) {n : Nat} {o : List Int} {l : Nat} {t : List Int} {k : Nat} {b : List Int} {j : Nat} (ho : o.length = l * 2) (hl : l ≤ 1000000000) (ht : t.length = k * 2) (hk : k ≤ 1000000000) (hb : b.length = j * 2) (hj : j ≤ 1000000000) (h1 : orderE (Int.ofNat n) t k = 0) (h2 : sameP b j o l = true) : Exec PP T none x3.nt 0 Z3.b.b.b (G3y n o l t k b j) .r (RB 4 true) := by
  refine exec_orun (envwZ h11) false 60 [true, true, true] [] (fun _ => rfl) (by kernel_rfl) (by kernel_rfl) (by kernel_rfl) ?_
  rw [(show obOf (orun gwZ false 60 Z3.b.b.b (G3y n o l t k b j) [true, true, true]) = (decide ((0 + k) * 2 ≤ t.length) && (decide (k ≤ 1000000000) && orderE (Int.ofNat n) (List.take (k * 2) t) k == 0) && (decide ((0 + j) * 2 ≤ b.length) && (decide ((0 + l) * 2 ≤ o.length) && (decide (j ≤ 1000000000) && (decide (j = l) && !(List.range j).any (diffAt (List.take (j * 2) (List.drop (0 * 2) b)) (List.take (l * 2) (List.drop (0 * 2) o)))))) && true) && true) from by kernel_rfl)]
  simp [ho, hl, ht, hk, hb, hj, tk0 ht, tk0 ho, tk0 hb]
  unfold sameP at h2
  simp at h2
  exact ⟨h1, h2⟩
theorem j3N (h11 : SpecOK PP (compC T) 11 (pureS gAwake)) {n : Nat} {o : List Int} {l : Nat} (ho : o.length = l * 2) (hl : l ≤ 1000000000) (h1 : orderE (Int.ofNat n) [] 0 = 0) (h2 : sameP [] 0 o l = true) : Exec PP T none x3.nt 0 Z3.b.b.b (G3n n o l) .r (RB 4 true) := by
  refine exec_orun (envwZ h11) false 60 [true, true, true] [] (fun _ => rfl) (by kernel_rfl) (by kernel_rfl) (by kernel_rfl) ?_
  rw [(show obOf (orun gwZ false 60 Z3.b.b.b (G3n n o l) [true, true, true]) = (orderE (Int.ofNat n) [] 0 == 0 && (decide ((0 + l) * 2 ≤ o.length) && (decide (0 = l) && true) && true) && true) from by kernel_rfl)]
  simp [ho, hl, tk0 ho]
  unfold sameP at h2
  simp at h2
  exact ⟨h1, h2⟩
end Go.Proofs.Yteekkjfjpoaihaa.Eng
namespace Go.Proofs.Yteekkjfjpoaihaa.Eng
open Go Go.Proofs
open Go.Proofs.Yteekkjfjpoaihaa.Ori
theorem told_short (r : Nat → Bool) : (toldL r).length ≤ 1000000000 := by
  have := listL_len (fun a b => at7 r a b) 7 7
  unfold toldL
  omega
theorem same_self {q : List Int} {m : Nat} : sameP q m q m = true := by
  unfold sameP
  rw [decide_eq_true rfl, Bool.true_and, Bool.not_eq_true', List.any_eq_false]
  intro i hi
  unfold diffAt
  simp
theorem told_ff : toldL ff = [] := by kernel_rfl
theorem tam_ok (n : Int) (q : List Int) (m : Nat) : err0 (Int.ofNat (tamN n 6)) (flat (tamL n q m 6)) (tamL n q m 6).length = true ∧ (tamL n q m 6).length ≤ 1000000000 := by
  obtain ⟨_, h1, h2⟩ := tamN_eq n (k := 6) (by omega) (by omega)
  constructor
  · unfold err0 tamL
    rw [listL_pairs, flat_ofN, List.length_map, checkP_flat h1 (by omega) (pairsN_lex _ _ _) fun p hp => ?_]
    · rfl
    · obtain ⟨k1, k2, k3⟩ := mem_pairsN.1 hp
      unfold tamG at k3
      simp at k3
      exact ⟨k3.1, k2⟩
  · have := listL_len (tamG (tamN n 6) q m) (tamN n 6) (tamN n 6)
    have h3 : tamN n 6 * tamN n 6 ≤ 6 * 6 := Nat.mul_le_mul h2 h2
    unfold tamL
    omega
theorem tail3 (h11 : SpecOK PP (compC T) 11 (pureS gAwake)) {N : Nat} (h1 : 1 ≤ N) (h7 : N ≤ 7) {r : Nat → Bool} (hr : ∀ {x y}, Rl r x y → x < N ∧ y < N ∧ x ≠ y) (ht : transB r = true) : Exec PP T none x3.nt 0 Z3.b (F3 N (flat (toldL r)) (toldL r).length) .r (RB 4 true) := by
  obtain ⟨o1, o2⟩ := told_order (f := ff) h1 h7 hr ht
  have ol := flat_len (toldL r)
  have os := told_short r
  cases he : eqB 49 (orderF (Int.ofNat N) (flat (toldL r)) (toldL r).length) ff with
  | true =>
    have hR : Rl r = emX := by rw [← o2]; exact eqB_ff.1 he
    have hl : toldL r = [] := by rw [toldL_congr (hR.trans Rl_ff.symm), told_ff]
    obtain ⟨z1, z2⟩ := order_flat (L := []) h1 h7 (by simp) (by simp) (r := ff) (fun {x y} => ⟨fun h => (by cases h), fun h => (by have := h.2.2; cases this)⟩) (transB_iff.2 fun a b _ _ h => by cases h)
    have z3 : eqB 49 (orderF (Int.ofNat N) [] 0) ff = true := eqB_ff.2 (z2.trans Rl_ff)
    have tn : turN (Int.ofNat N) (flat (toldL r)) (toldL r).length = true := by unfold turN; rw [o1, he]; rfl
    have tn0 : turN (Int.ofNat N) [] 0 = true := by unfold turN; rw [z3, show orderE (Int.ofNat N) [] 0 = 0 from z1]; rfl
    exact exec_seq (x := Z3.b.a) (y := Z3.b.b) (h3N ol os tn) (exec_seq (x := Z3.b.b.a) (y := Z3.b.b.b) (i3N tn0) (j3N h11 ol os z1 (by rw [hl]; rfl)))
  | false =>
    have ty : turY (Int.ofNat N) (flat (toldL r)) (toldL r).length = true := by unfold turY; rw [o1, he]; rfl
    have e1 : turL (Int.ofNat N) (flat (toldL r)) (toldL r).length = toldL (turnR r) := by
      unfold turL
      exact toldL_congr (by rw [Rl_turn, Rl_turn, o2])
    have k1 := h3Y ol os ty
    rw [e1] at k1
    have hr' : ∀ {x y}, Rl (turnR r) x y → x < N ∧ y < N ∧ x ≠ y := fun {x y} h => by
      rw [Rl_turn] at h
      obtain ⟨g1, g2, g3⟩ := hr h
      exact ⟨g2, g1, fun e => g3 e.symm⟩
    obtain ⟨p1, p2⟩ := told_order (f := ff) h1 h7 hr' (transB_turn ht)
    have tl := flat_len (toldL (turnR r))
    have ts := told_short (turnR r)
    have ty2 : turY (Int.ofNat N) (flat (toldL (turnR r))) (toldL (turnR r)).length = true := by
      unfold turY
      rw [p1]
      cases hf : eqB 49 (orderF (Int.ofNat N) (flat (toldL (turnR r))) (toldL (turnR r)).length) ff with
      | false => rfl
      | true =>
        have g := eqB_ff.1 hf
        rw [p2, Rl_turn] at g
        have g2 : Rl r = emX := by rw [← revX_revX (Rl r), g]; rfl
        rw [eqB_ff.2 (o2.trans g2)] at he
        cases he
    have e2 : turL (Int.ofNat N) (flat (toldL (turnR r))) (toldL (turnR r)).length = toldL r := by
      unfold turL
      exact toldL_congr (by rw [Rl_turn, p2, Rl_turn, revX_revX])
    have k2 := i3Y (n := N) (o := flat (toldL r)) (l := (toldL r).length) tl ts ty2
    rw [e2] at k2
    exact exec_seq (x := Z3.b.a) (y := Z3.b.b) k1 (exec_seq (x := Z3.b.b.a) (y := Z3.b.b.b) k2 (j3Y h11 ol os tl ts ol os p1 same_self))
theorem body3 (h11 : SpecOK PP (compC T) 11 (pureS gAwake)) {n : Int} {q : List Int} {m : Nat} (hq : q.length = m * 2) : Exec PP T none x3.nt 0 x3.body (startSt (A40 n m) (H1 q)) .r (RB 4 true) := by
  obtain ⟨_, h1, h6⟩ := tamN_eq n (k := 6) (by omega) (by omega)
  obtain ⟨he, hs⟩ := tam_ok n q m
  have hl := flat_len (tamL n q m 6)
  obtain ⟨l1, l2, l3, l4⟩ := even_law he
  refine exec_seq (x := x3.body.a) (y := x3.body.b) a3 (exec_seq (x := x3.body.b.a) (y := x3.body.b.b) (b3 hq) (exec_seq (x := x3.body.b.b.a) (y := x3.body.b.b.b) (cc3 hl hs he h6) (exec_seq (x := x3.body.b.b.b.a) (y := x3.body.b.b.b.b) (d3 hl hs he) ?_)))
  cases hk : oriOk (tamN n 6) (nearF (flat (tamL n q m 6)) (tamL n q m 6).length) with
  | true =>
    obtain ⟨r1, r2⟩ := ori_order he hk
    have hc : 0 < cntN (tamN n 6) (nearF (flat (tamL n q m 6)) (tamL n q m 6).length) := by
      rw [hk] at l1
      exact of_decide_eq_true l1.symm
    exact exec_seq (x := x3.body.b.b.b.b.a) (y := x3.body.b.b.b.b.b) (e3Y hl hs he hk) (exec_seq (x := x3.body.b.b.b.b.b.a) (y := Z3) (f3Y hc l2 l3 l4) (exec_seq (x := Z3.a) (y := Z3.b) g3Y (tail3 h11 h1 (by omega) r1 r2)))
  | false =>
    have hc : cntN (tamN n 6) (nearF (flat (tamL n q m 6)) (tamL n q m 6).length) = 0 := by
      rw [hk] at l1
      have := of_decide_eq_false l1.symm
      omega
    rw [hc] at l3 ⊢
    exact exec_seq (x := x3.body.b.b.b.b.a) (y := x3.body.b.b.b.b.b) (e3N hl hs he hk) (exec_seq (x := x3.body.b.b.b.b.b.a) (y := Z3) (f3N (fun h0 => by have := (l3 h0).1; omega)) (exec_seq_x (x := Z3.a) (y := Z3.b) (g3N h11) (by simp)))
end Go.Proofs.Yteekkjfjpoaihaa.Eng

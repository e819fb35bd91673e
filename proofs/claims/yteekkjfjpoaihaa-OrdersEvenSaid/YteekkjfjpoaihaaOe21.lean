/- OrdersEven: whatever the int and the slice of pairs that are handed in, in whatever memory: the call answers true, and each argument reads behind it as it read before. No condition on the input. -/
import Derived.ProofKit
import Derived.OpenShut
import Derived.ChangeOld
import Derived.Below
import Derived.Test.YteekkjfjpoaihaaOe16
import Derived.Test.YteekkjfjpoaihaaOe20
set_option linter.all false
namespace Go.Proofs.Yteekkjfjpoaihaa.Eng
open Go Go.Proofs Go.ChangeShapes Go.WideShapes Go.ChangeAt Go.RowKit
theorem cells38 : PP.cellsOf 38 = 2 := by kernel_rfl
theorem cells3 : PP.cellsOf 3 = 1 := by kernel_rfl
theorem cells_two {W : World} {b off : Nat} {cs : List Value} (h : W.cells? 0 ⟨b, off, none⟩ 2 = some cs) : ∃ c d, cs = [c, d] ∧ W.cell? ⟨b, off, none⟩ = some c ∧ W.cell? ⟨b, off + 1, none⟩ = some d := by
  have e0 : (⟨b, off, none⟩ : Addr).add 0 = ⟨b, off, none⟩ := rfl
  have e1 : (⟨b, off, none⟩ : Addr).add 1 = ⟨b, off + 1, none⟩ := rfl
  simp only [World.cells?, Nat.zero_le, if_true, show List.range 2 = [0, 1] from rfl, List.mapM_cons, List.mapM_nil, e0, e1, Option.bind_eq_bind] at h
  cases h0 : W.cell? ⟨b, off, none⟩ with
  | none => simp [h0] at h
  | some c =>
    cases h1 : W.cell? ⟨b, off + 1, none⟩ with
    | none => simp [h0, h1] at h
    | some d =>
      simp [h0, h1] at h
      exact ⟨c, d, h.symm, rfl, rfl⟩
section
variable {H : Type} {enc : TypeId × Value → H} {W : World} {base : Nat}
set_option maxRecDepth 100000 in
/-- two ints in a row, out of a reading of [2]int -/
theorem two_ints {n : Nat} {c d : Value} {x : DataW H × List MemPlace} (h : DataW.trod enc PP W 0 (fun _ => true) true n 38 [c, d] = some x) : ∃ u v : Int, c = .int .i64 u ∧ d = .int .i64 v := by
  obtain ⟨xs, m, rfl, rfl, hl, hx, hi⟩ := DataW.trod_array Try.underlying38 h
  have h0 := hi 0 (by omega)
  have h1 := hi 1 (by omega)
  rw [cells3] at h0 h1
  match xs, hx with
  | [y0, y1], _ =>
    simp only [List.getElem?_cons_zero, List.getElem?_cons_succ] at h0 h1
    obtain ⟨u, e0, _⟩ := DataW.trod_int Try.underlying3 h0
    obtain ⟨v, e1, _⟩ := DataW.trod_int Try.underlying3 h1
    simp at e0 e1
    exact ⟨u, v, e0, e1⟩
set_option maxRecDepth 100000 in
theorem open_pairs {fuel : Nat} {a : Option Addr} {len cap : Nat} {x : DataW H × List MemPlace} (hv : Value.okWide PP W .any base 22 (.slice a len cap)) (h : DataW.trod enc PP W 0 (fun _ => true) true fuel 22 [.slice a len cap] = some x) :
    ∃ (mb : MB) (q : List Int), (∀ m', OR (compC T) m' mb (.xvec .i64 2 q) W) ∧ (∀ b, mb.b = some b → b < W.heap.size) ∧ (∀ (m' : MM) id, m' id = some mb → SR m' (.sl id 0 2 len) (.slice a len cap)) ∧ q.length = len * 2 := by
  rcases DataW.trod_slice Try.underlying22 h with ⟨hcs, _⟩ | ⟨a', len', cap', elems, rest, n, _, hcs, _, _, hl, hm, hlen, hel, _, _⟩
  · simp at hcs
    obtain ⟨rfl, rfl, rfl⟩ := hcs
    exact ⟨⟨none, 0, 0⟩, [], fun m' => .inl ⟨rfl, rfl, rfl⟩, fun b hb => (by cases hb), fun m' id hm => ⟨_, hm, Nat.le_refl _, .inl ⟨rfl, rfl, rfl, rfl, rfl⟩⟩, rfl⟩
  · simp at hcs
    obtain ⟨rfl, rfl, rfl⟩ := hcs
    simp only [Value.okWide, Try.underlying22, Cell.okWide, Cell.ok] at hv
    obtain ⟨_, _, _, hspot, row, cells, hsh, _⟩ := hv
    obtain ⟨b, off, spot⟩ := a'
    simp only at hspot hsh
    subst hspot
    have hlt : b < W.heap.size := by
      unfold World.shape? at hsh
      split at hsh
      · rename_i hb
        exact (Array.getElem?_eq_some_iff.1 hb).1
      · cases hsh
    have hcell : ∀ j, j < len * 2 → ∃ u : Int, W.cell? ⟨b, off + j, none⟩ = some (.int .i64 u) := by
      intro j hj
      have he := hel (j / 2) (by omega)
      rw [cells38] at he
      have hi : j / 2 < elems.length := by omega
      rw [List.getElem?_eq_getElem hi, Option.bind_eq_some_iff] at he
      obtain ⟨cs, hc, ht⟩ := he
      have hadd : (⟨b, off, none⟩ : Addr).add (j / 2 * 2) = ⟨b, off + j / 2 * 2, none⟩ := by simp [Addr.add]
      rw [hadd] at hc
      obtain ⟨c, d, rfl, h0, h1⟩ := cells_two hc
      obtain ⟨u, v, rfl, rfl⟩ := two_ints ht
      by_cases hp : j % 2 = 0
      · exact ⟨u, by rw [show off + j = off + j / 2 * 2 by omega]; exact h0⟩
      · exact ⟨v, by rw [show off + j = off + j / 2 * 2 + 1 by omega]; exact h1⟩
    let g : Nat → Int := fun j => match W.cell? ⟨b, off + j, none⟩ with | some (.int _ u) => u | _ => 0
    refine ⟨⟨some b, off, cap⟩, (List.range (len * 2)).map g, fun m' => .inr ⟨b, rfl, fun j hj => ?_⟩, fun b' hb' => (by cases hb'; exact hlt), fun m' id hm => ⟨_, hm, by simpa using hl, .inr ⟨b, off, rfl, rfl, .inr (by simp)⟩⟩, by simp⟩
    simp at hj
    obtain ⟨u, hu⟩ := hcell j (by omega)
    show W.cell? ⟨b, off + j, none⟩ = _
    rw [hu]
    simp [hj, g, hu]
end
set_option maxRecDepth 100000 in
/-- a law whose body answers yes, over what came in -/
theorem calls_law {f : FuncId} {x : XFn} (hx : FunOK PP T f x) {m0 : MM} {hs : List HO} {args0 : List AV} {vals : List Value} {w : World} {t : Nat} (hview : RoView (compC T) m0 hs w) (hargs : All2 (AR m0) args0 vals) (hlen : Nat.ble args0.length x.nt = true)
    (hrun : Exec PP T none x.nt 0 x.body (startSt args0 hs) .r (RB t true)) (hres : x.res = [.t t]) : Calls PP f vals.toArray w fun e w' => e = .returned (.bool true) ∧ Below w.heap.size w w' := by
  obtain ⟨_, fn, hf, hxf⟩ := hx
  refine (callsIn_exec (kp := 0) (tv := B true) tokP hf hxf (Nat.le_of_ble_eq_true hlen) (fun t s => startSt_slot) rfl hrun (.inr rfl) rfl ?_ (hview.hrel args0) hargs fun v w' m1 _ hv hH1 => ?_ : CallsIn (FR none) 0 PP f vals.toArray w fun e w' => e = .returned (.bool true) ∧ Below w.heap.size w w').calls fun k => ?_
  · rw [hres]
    simp only [resV, resVs, resV1, evalX]
    have : (RB t true).sl.get t = some ⟨true, B true⟩ := by
      show alGet [(t, _)] t = _
      rw [alGet_cons, beqT rfl]
      rfl
    simp [this]
  · have hv : v = .bool true := hv
    subst hv
    exact ⟨rfl, hH1.os, hH1.tape, hH1.output, hH1.size, fun b hb => hH1.same0 b hb (fun h => h)⟩
  · exact fun _ h => (by cases h)
end Go.Proofs.Yteekkjfjpoaihaa.Eng
namespace Go.Proofs.Yteekkjfjpoaihaa
open Go.ChangeShapes Go.WideShapes Go.ChangeAt Go.RowKit
open Eng (open_pairs calls_law ok11 body3 mm1 ro1 H1 A40)
theorem evenOwn : ownKnob Try.prog.godebug = none := by kernel_rfl
theorem evenLaid : laidOutB Try.prog = true := by kernel_rfl
set_option maxRecDepth 100000 in
theorem even_lifted (os : Os) (started : os.Started) (H : Type) (enc : TypeId × Value → H) :
    ReturnsInHanded {} Try.checked os 3 .any (Rows.ordersEvenSpec.pre6 enc Try.prog Try.f3 Rows.ordersEvenRow.domain false) (Rows.ordersEvenSpec.post enc Try.prog Try.f3 false true false false) := by
  refine returnsInHanded_of_change (C := Try.checked) evenOwn started (by kernel_rfl) Try.func3
    (ChangeSpec.witness6 (enc := enc) (C := Try.checked) false ⟨#[], #[.int .i64 0, .slice none 0 0], []⟩ 8 (by kernel_rfl) (by kernel_rfl) (by kernel_rfl) (by kernel_rfl)) ?_
  intro W base args ds gs before hval0 hW hcnd _
  have hval : ∀ (j : Nat) t v, Try.f3.params[j]? = some t → args[j]? = some v → Value.okWide Try.prog W .any base t v := hval0
  have hW' := hW
  obtain ⟨p, q, hA0, hV, rfl, hfz, hnd⟩ := hW
  have hA : DataW.TrodAll enc Try.prog W 0 (fun _ => true) true Try.f3.params.toList args.toList ds p := hA0
  rw [Try.params3] at hA hval
  obtain ⟨v0, v1, d0, d1, p0, p1, rfl, rfl, rfl, h0, h1⟩ := trodAll_two hA
  obtain ⟨rfl, rfl⟩ := trodVars_none hV
  have lt : ∀ {t v d p}, DataW.Trod enc Try.prog W 0 (fun _ => true) true t v d p → ∀ x ∈ p, x.block < W.heap.size := fun h x hx => by
    obtain ⟨m, hm⟩ := h
    exact DataW.trod_lt m _ _ _ hm x hx
  have k0 := h0
  have k1 := h1
  obtain ⟨n, rfl, rfl, rfl, _⟩ := open_int Try.underlying3 (hval 0 3 v0 rfl rfl) h0
  have ok1 := hval 1 22 v1 rfl rfl
  obtain ⟨a, len, cap, rfl⟩ := okWide_slice Try.underlying22 ok1
  obtain ⟨fuel, hf⟩ := h1
  simp only [Value.cells] at hf
  obtain ⟨mb, ql, r1, r2, r3, r4⟩ := open_pairs ok1 hf
  clear hA0 hval0
  have run : Calls Try.prog 3 #[.int .i64 n, .slice a len cap] W fun e w' => e = .returned (.bool true) ∧ Below W.heap.size W w' :=
    calls_law (vals := [.int .i64 n, .slice a len cap]) Eng.o3 (m0 := mm1 mb) (hs := H1 ql) (args0 := A40 n len) (t := 4) (ro1 r1 r2) ⟨rfl, r3 (mm1 mb) 0 rfl, trivial⟩ (by kernel_rfl) (body3 ok11 r4) (by kernel_rfl)
  refine run.mono fun e W' ⟨he, bel⟩ => ?_
  subst he
  exact ⟨_, rfl, _, _, _, [], _, [], hW', trodAll_mk1 (shut_bool Try.underlying4 _), (trodAll_cons_mk (Below.trod evenLaid (by kernel_rfl) (of_decide_eq_true (by kernel_rfl)) k0 bel (lt k0)) (trodAll_cons_mk (Below.trod evenLaid (by kernel_rfl) (of_decide_eq_true (by kernel_rfl)) k1 bel (lt k1)) trodAll_mk0)), rfl, bel.frame _, fun h => by cases h⟩
/-- the statement -/
theorem ordersEven_holds : Rows.OrdersEvenSaid :=
  OpenClaim.holds_of_wide 3 Try.f3 rfl rfl rfl rfl rfl rfl rfl ⟨rfl, rfl, rfl, rfl, rfl⟩ rfl rfl rfl rfl rfl (by kernel_rfl) Try.func3 (by kernel_rfl)
    (of_decide_eq_true (by kernel_rfl)) (by unfold Func.isWrapper; first | (rw [if_pos (by decide +kernel)]; kernel_rfl) | (rw [if_neg (by decide +kernel)]; exact ⟨rfl, rfl⟩))
    (fun os started H enc _ => even_lifted os started H enc)
end Go.Proofs.Yteekkjfjpoaihaa

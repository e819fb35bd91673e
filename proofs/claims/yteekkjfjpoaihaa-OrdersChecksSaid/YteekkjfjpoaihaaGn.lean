/- Contracts by hand, part 13: several new objects; a graph as an object that is only read; concrete runs. -/
import Derived.Test.YteekkjfjpoaihaaGm
set_option linter.all false
namespace Go.Proofs.Yteekkjfjpoaihaa.Eng
open Go Go.Proofs

theorem nodup_range (k : Nat) : nodupB (List.range k) = true := by
  have key : ∀ l : List Nat, l.Nodup → nodupB l = true := by
    intro l
    induction l with
    | nil => intro _; rfl
    | cons a l ih =>
      intro h
      obtain ⟨h1, h2⟩ := List.nodup_cons.1 h
      simp only [nodupB, Bool.and_eq_true, Bool.not_eq_true', ih h2, and_true]
      cases hh : l.any (Nat.beq a) with
      | false => rfl
      | true => exact absurd (any_beq.1 hh) h1
  exact key _ List.nodup_range

section
variable {P : Program} {T : Tab}
/-- a function that hands back values with new objects: all that its last state shows -/
theorem shown_news {x : XFn} {m0 : MM} {hs : List HO} {args0 : List AV} {vals : List Value} {w : World} {tv : TV} {base : Nat} {ts : List (Nat × Slot)} {hs' : List HO} {nx : Nat} {ex : XE} (hview : RoView (compC T) m0 hs w) (hargs : All2 (AR m0) args0 vals) (hlen : Nat.ble args0.length x.nt = true)
    (hrun : Exec P T none x.nt 0 x.body (startSt args0 hs) ex (mkSt ts hs' nx [])) (hex : ex ≠ .n → ex = .r) (hres : resV (mkSt ts hs' nx []).sl.get (mkSt ts hs' nx []).hp.get x.res = some (true, tv))
    (hids : tv.ids.all (fun j => Nat.blt j hs'.length) = true) (ho : hs'.all (fun ho => !ho.ro && ho.live && !ho.o.isLoop && ho.o.ids.all fun j => Nat.blt j hs'.length) = true) :
    Shown P T x m0 hs args0 vals w (tv.ren (renN (List.range hs'.length) base)) (hs'.map fun ho => ho.ren (renN (List.range hs'.length) base)) base where
  view := hview
  args := hargs
  len := Nat.le_of_ble_eq_true hlen
  run := ⟨mkSt ts hs' nx [], ex, tv, List.range hs'.length, hrun, by by_cases h : ex = .n; exact .inl h; exact .inr (hex h), rfl, hres, nodup_range _,
    fun j hj => List.mem_range.2 (Nat.le_of_ble_eq_true (List.all_eq_true.1 hids j hj)), rfl, by simp, fun k id h => by
      have hk : k < hs'.length := by
        have := (List.getElem?_eq_some_iff.1 h).1
        simpa using this
      rw [List.getElem?_range hk] at h
      cases h
      have hin := List.all_eq_true.1 ho hs'[k] (List.getElem_mem _)
      simp only [Bool.and_eq_true, Bool.not_eq_true'] at hin
      refine ⟨hs'[k], ?_, hin.1.1.1, hin.1.1.2, hin.1.2, fun j hj => List.mem_range.2 (Nat.le_of_ble_eq_true (List.all_eq_true.1 hin.2 j hj)), ?_⟩
      · show leaveH _ [] k = _
        simp only [leaveH]
        rw [mkSt_hp]
        simp [hk]
      · simp [hk]⟩

/-- .. where rounds have left lists of what is deferred -/
theorem shown_newsD {x : XFn} {m0 : MM} {hs : List HO} {args0 : List AV} {vals : List Value} {w : World} {tv : TV} {base : Nat} {ts : List (Nat × Slot)} {hs' news : List HO} {nx : Nat} {df : List Nat} {ex : XE} (hview : RoView (compC T) m0 hs w) (hargs : All2 (AR m0) args0 vals) (hlen : Nat.ble args0.length x.nt = true)
    (hrun : Exec P T none x.nt 0 x.body (startSt args0 hs) ex (mkSt ts hs' nx df)) (hex : ex ≠ .n → ex = .r) (hd : dfOk (mkSt ts hs' nx df).hp.get df = true) (hres : resV (mkSt ts hs' nx df).sl.get (leaveH (mkSt ts hs' nx df).hp.get df) x.res = some (true, tv))
    (hids : tv.ids.all (fun j => Nat.blt j news.length) = true) (hch : (List.range news.length).map (leaveH (mkSt ts hs' nx df).hp.get df) = news.map some) (ho : news.all (fun ho => !ho.ro && ho.live && !ho.o.isLoop && ho.o.ids.all fun j => Nat.blt j news.length) = true) :
    Shown P T x m0 hs args0 vals w (tv.ren (renN (List.range news.length) base)) (news.map fun ho => ho.ren (renN (List.range news.length) base)) base where
  view := hview
  args := hargs
  len := Nat.le_of_ble_eq_true hlen
  run := ⟨mkSt ts hs' nx df, ex, tv, List.range news.length, hrun, by by_cases h : ex = .n; exact .inl h; exact .inr (hex h), hd, hres, nodup_range _,
    fun j hj => List.mem_range.2 (Nat.le_of_ble_eq_true (List.all_eq_true.1 hids j hj)), rfl, by simp, fun k id h => by
      have hk : k < news.length := by
        have := (List.getElem?_eq_some_iff.1 h).1
        simpa using this
      rw [List.getElem?_range hk] at h
      cases h
      have hin := List.all_eq_true.1 ho news[k] (List.getElem_mem _)
      simp only [Bool.and_eq_true, Bool.not_eq_true'] at hin
      refine ⟨news[k], ?_, hin.1.1.1, hin.1.1.2, hin.1.2, fun j hj => List.mem_range.2 (Nat.le_of_ble_eq_true (List.all_eq_true.1 hin.2 j hj)), ?_⟩
      · have := congrArg (fun l => l[k]?) hch
        simp only [List.getElem?_map, List.getElem?_range hk, List.getElem?_eq_getElem hk, Option.map_some, Option.some.injEq] at this
        exact this
      · simp [hk]⟩
end

/-- a graph, or another row, as one that is only read -/
theorem view_row {cmp : Cmp} {ctx : Ctx} {m : MM} {h : Nat → Option HO} {w : World} {id : Nat} {v : Value} {ro : Bool} {ty : TypeId} {n : Int} {k : Nat} {f g : Nat → Bool} (hH : HRel cmp ctx m h w) (hv : AR m (.s (.ptr id 0 0)) v) (hs : h id = some ⟨ro, .row ty [.int .i64 n] k f⟩) (hfg : eqB k f g = true) :
    ∃ mb : MB, (∀ m', OR cmp m' mb (.row ty [.int .i64 n] k g) w) ∧ (∀ b, mb.b = some b → b < w.heap.size) ∧ (∀ (m' : MM) id', m' id' = some mb → SR m' (.ptr id' 0 0) v) := by
  obtain ⟨mb, b, hm, hb, rfl⟩ := hv
  obtain ⟨mb', h1, h2, h3, _⟩ := hH.obj id _ hs
  rw [hm] at h1
  cases h1
  refine ⟨mb, fun m' => ?_, fun b' hb' => h3 rfl b' hb', fun m' id' hm' => ⟨mb, b, hm', hb, rfl⟩⟩
  obtain ⟨b', cs, e1, e2, e3, vs, e4, e5, e6⟩ := h2
  refine ⟨b', cs, e1, e2, e3, vs, ?_, e5, by rw [e6, eqB_cells hfg]⟩
  match vs, e4 with
  | [u], ⟨hu, _⟩ => exact ⟨hu, trivial⟩

/-- the runner with no calls but in place -/
def none0 : FuncId → Option Spec := fun _ => none
theorem none0_ok : SpecsOK PP T none0 := ⟨fun _ _ h => (by cases h), fun _ _ h => (by cases h), fun _ _ h => (by cases h)⟩
noncomputable abbrev gA : Cal → Option Spec := gam F none0 200 6
theorem envA : EnvOK PP T gA := gam_ok tokP eqokP mixP F_ok none0_ok 200 6
def bitF (k : Nat) : Nat → Bool := fun j => Nat.testBit k j
abbrev HR (k : Nat) (n : Int) : List HO := [⟨true, .row 115 [.int .i64 n] 49 (bitF k)⟩]

end Go.Proofs.Yteekkjfjpoaihaa.Eng

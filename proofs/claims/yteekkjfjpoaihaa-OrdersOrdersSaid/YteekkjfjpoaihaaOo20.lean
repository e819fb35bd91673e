/- A part of the proof of ordersOrders_holds. -/
import Derived.Test.YteekkjfjpoaihaaOo15
import Derived.Test.YteekkjfjpoaihaaOo16
import Derived.Test.YteekkjfjpoaihaaOo17
import Derived.Test.YteekkjfjpoaihaaOo18
import Derived.Test.YteekkjfjpoaihaaOo19
set_option linter.all false
namespace Go.Proofs.Yteekkjfjpoaihaa.Eng
open Go Go.Proofs
noncomputable def cview (ts ids : List Nat) (q : Option (XE × St)) : Option (XE × List (Option Slot) × List (Option HO) × List Nat) :=
  q.map fun q => (q.1, ts.map q.2.sl.get, ids.map q.2.hp.get, q.2.df)
theorem exec_cview {P : Program} {T : Tab} {r : Option Nat} {Γ : Cal → Option Spec} {nt kp : Nat} (hE : EnvOK P T Γ) {inr : Bool} (hr : inr = false → r = none) {k : Nat} {c : XC} {S : St} {e : XE} {ts : List (Nat × Slot)} {hs : List HO} {nx : Nat} {df ids : List Nat}
    (hv : cview (ts.map (·.1)) ids (crun Γ inr k c S) = some (e, ts.map (fun p => some ⟨p.2.c, p.2.v.ren fun j => ids.getD j 0⟩), hs.map (fun h => some (h.ren fun j => ids.getD j 0)), df.map fun j => ids.getD j 0))
    (hok : mkOk ts hs ids kp = true) (hdl : df.all (fun j => Nat.blt j hs.length) = true) : Exec P T r nt kp c S e (mkSt ts hs nx df) := by
  unfold cview at hv
  obtain ⟨⟨e1, S1⟩, h1, h2⟩ := Option.map_eq_some_iff.1 hv
  simp only [Prod.mk.injEq] at h2
  obtain ⟨rfl, h3, h4, h5⟩ := h2
  refine (crun_snd hE hr k c S S1 e1 h1).1.post (weak_mk (ids := ids) hok (fun p hp => ?_) (fun j h hj => ?_) h5 fun j hj => Nat.le_of_ble_eq_true (List.all_eq_true.1 hdl j hj))
  · rw [List.map_map] at h3
    exact List.map_inj_left.1 h3 p hp
  · have hok' := hok
    simp only [mkOk, Bool.and_eq_true] at hok'
    have hlen := Nat.eq_of_beq_eq_true hok'.1.2
    have hlt : j < hs.length := (List.getElem?_eq_some_iff.1 hj).1
    have := congrArg (fun l => l[j]?) h4
    simp only [List.getElem?_map, hj, Option.map_some] at this
    have e : ids[j]? = some (ids.getD j 0) := by
      have : j < ids.length := by omega
      simp [this]
    rw [e] at this
    simpa using this
/-- what is reached on the ring, by the number of the arrow -/
def tblR (k : Nat) : Option (List Int × List (CV × CV)) :=
  bif Nat.beq k 1 then some (q01, e01) else
  bif Nat.beq k 4 then some (q04, e04) else
  bif Nat.beq k 7 then some (q10, e10) else
  bif Nat.beq k 9 then some (q12, e12) else
  bif Nat.beq k 15 then some (q21, e21) else
  bif Nat.beq k 17 then some (q23, e23) else
  bif Nat.beq k 23 then some (q32, e32) else
  bif Nat.beq k 25 then some (q34, e34) else
  bif Nat.beq k 28 then some (q40, e40) else
  bif Nat.beq k 31 then some (q43, e43) else
  none
def spReach : Spec where
  run := fun args h base => match args with
    | [.s (.ptr g 0 0), .pb [.int .i64 a, .int .i64 b] 0 _] => match h g with
      | some ⟨_, .row 115 [.int .i64 n] 49 f⟩ => match tblR (a.toNat * 7 + b.toNat) with
        | some (q, e) => some ⟨decide (0 ≤ a) && (decide (a < 7) && (decide (0 ≤ b) && (decide (b < 7) && (n == 5 && eqB 49 f (bitF ring5))))), .tup [.s (.sl (base + 0) 0 2 10), .s (.mp (base + 1))], [], N54 q e, some [g]⟩
        | none => none
      | _ => none
    | _ => none
theorem spReach_fp : SpecFp spReach := by
  intro args h h' base e hr hf
  simp only [spReach] at hr ⊢
  split at hr
  case h_2 => cases hr
  split at hr
  case h_2 => cases hr
  rename_i hg
  split at hr
  case h_2 => cases hr
  rename_i ht
  cases hr
  simp only [hf _ (List.mem_singleton.2 rfl), hg, ht]
theorem tblR_ok {a b : Int} (ha : 0 ≤ a ∧ a < 7) (hb : 0 ≤ b ∧ b < 7) {q : List Int} {e : List (CV × CV)} (h : tblR (a.toNat * 7 + b.toNat) = some (q, e)) : Exec PP T none x54.nt 0 x54.body (startSt (A54 a b) (HR ring5 5)) .r (R54 q e) := by
  have key : ∀ (x y : Nat) (q : List Int) (e : List (CV × CV)), x < 7 → y < 7 → tblR (x * 7 + y) = some (q, e) → Exec PP T none x54.nt 0 x54.body (startSt (A54 x y) (HR ring5 5)) .r (R54 q e) := by
    intro x y q e hx hy h
    unfold tblR at h
    cases h1 : Nat.beq (x * 7 + y) 1 with
    | true =>
      have h1 := Nat.eq_of_beq_eq_true h1
      have : x = 0 ∧ y = 1 := by omega
      obtain ⟨rfl, rfl⟩ := this
      cases h
      exact w01
    | false =>
    rw [h1, cond_false] at h
    cases h4 : Nat.beq (x * 7 + y) 4 with
    | true =>
      have h4 := Nat.eq_of_beq_eq_true h4
      have : x = 0 ∧ y = 4 := by omega
      obtain ⟨rfl, rfl⟩ := this
      cases h
      exact w04
    | false =>
    rw [h4, cond_false] at h
    cases h7 : Nat.beq (x * 7 + y) 7 with
    | true =>
      have h7 := Nat.eq_of_beq_eq_true h7
      have : x = 1 ∧ y = 0 := by omega
      obtain ⟨rfl, rfl⟩ := this
      cases h
      exact w10
    | false =>
    rw [h7, cond_false] at h
    cases h9 : Nat.beq (x * 7 + y) 9 with
    | true =>
      have h9 := Nat.eq_of_beq_eq_true h9
      have : x = 1 ∧ y = 2 := by omega
      obtain ⟨rfl, rfl⟩ := this
      cases h
      exact w12
    | false =>
    rw [h9, cond_false] at h
    cases h15 : Nat.beq (x * 7 + y) 15 with
    | true =>
      have h15 := Nat.eq_of_beq_eq_true h15
      have : x = 2 ∧ y = 1 := by omega
      obtain ⟨rfl, rfl⟩ := this
      cases h
      exact w21
    | false =>
    rw [h15, cond_false] at h
    cases h17 : Nat.beq (x * 7 + y) 17 with
    | true =>
      have h17 := Nat.eq_of_beq_eq_true h17
      have : x = 2 ∧ y = 3 := by omega
      obtain ⟨rfl, rfl⟩ := this
      cases h
      exact w23
    | false =>
    rw [h17, cond_false] at h
    cases h23 : Nat.beq (x * 7 + y) 23 with
    | true =>
      have h23 := Nat.eq_of_beq_eq_true h23
      have : x = 3 ∧ y = 2 := by omega
      obtain ⟨rfl, rfl⟩ := this
      cases h
      exact w32
    | false =>
    rw [h23, cond_false] at h
    cases h25 : Nat.beq (x * 7 + y) 25 with
    | true =>
      have h25 := Nat.eq_of_beq_eq_true h25
      have : x = 3 ∧ y = 4 := by omega
      obtain ⟨rfl, rfl⟩ := this
      cases h
      exact w34
    | false =>
    rw [h25, cond_false] at h
    cases h28 : Nat.beq (x * 7 + y) 28 with
    | true =>
      have h28 := Nat.eq_of_beq_eq_true h28
      have : x = 4 ∧ y = 0 := by omega
      obtain ⟨rfl, rfl⟩ := this
      cases h
      exact w40
    | false =>
    rw [h28, cond_false] at h
    cases h31 : Nat.beq (x * 7 + y) 31 with
    | true =>
      have h31 := Nat.eq_of_beq_eq_true h31
      have : x = 4 ∧ y = 3 := by omega
      obtain ⟨rfl, rfl⟩ := this
      cases h
      exact w43
    | false =>
    rw [h31, cond_false] at h
    cases h
  have := key a.toNat b.toNat q e (by omega) (by omega) h
  rw [show ((a.toNat : Nat) : Int) = a by omega, show ((b.toNat : Nat) : Int) = b by omega] at this
  exact this
theorem ok54ring : SpecOK PP (compC T) 54 spReach := by
  refine spec_gen tokP o54 fun ctx m h w args vals base e hH hargs hr hvc => ?_
  simp only [spReach] at hr
  split at hr
  case h_2 => cases hr
  rename_i g a b f'
  split at hr
  case h_2 => cases hr
  rename_i ro n f hg
  split at hr
  case h_2 => cases hr
  rename_i q en ht
  cases hr
  simp only [Bool.and_eq_true, decide_eq_true_eq, beq_iff_eq] at hvc
  obtain ⟨h0, h1, h2, h3, rfl, hf⟩ := hvc
  match vals, hargs with
  | [v1, v2], ⟨ha1, ha2, _⟩ =>
    obtain ⟨mb, k1, k2, k3⟩ := view_row hH ha1 hg hf
    have hall : All2 (AR (mm1 mb)) (A54 a b) [v1, v2] := ⟨k3 (mm1 mb) 0 rfl, pb2_any ha2, trivial⟩
    exact ⟨rfl, mm1 mb, HR ring5 5, A54 a b, shown_newsD (tv := .tup [.s (.sl 0 0 2 10), .s (.mp 1)]) (news := N54 q en) (ro1 k1 k2) hall (by kernel_rfl) (tblR_ok ⟨h0, h1⟩ ⟨h2, h3⟩ ht) (fun _ => rfl) (by kernel_rfl) (by kernel_rfl) (by kernel_rfl) (by kernel_rfl) (by kernel_rfl)⟩
/-- a function of an int and pairs, at one input -/
def spLit (n0 : Int) (q0 : List Int) (m0 : Nat) (tv : TV) (news : List HO) : Spec where
  run := fun args h base => match args with
    | [.s (.int .i64 n), s] => match srcOf (.av s) h .i64 2 with
      | some (vc, q, m, rd) => some ⟨vc && (n == n0 && (q == q0 && Nat.beq m m0)), tv.ren (renN (List.range news.length) base), [], news.map fun ho => ho.ren (renN (List.range news.length) base), some rd⟩
      | none => none
    | _ => none
theorem spLit_fp (n0 : Int) (q0 : List Int) (m0 : Nat) (tv : TV) (news : List HO) : SpecFp (spLit n0 q0 m0 tv news) := by
  intro args h h' base e hr hf
  simp only [spLit] at hr ⊢
  split at hr
  · split at hr
    · rename_i hs
      cases hr
      simp only [srcOf_fp hs hf]
    · cases hr
  · cases hr
theorem spLit_ok {f : FuncId} {x : XFn} (hx : FunOK PP T f x) {n0 : Int} {q0 : List Int} {m0 : Nat} {tv : TV} {ts : List (Nat × Slot)} {hs' news : List HO} {nx : Nat} {df : List Nat} (hlen : Nat.ble 2 x.nt = true)
    (hrun : Exec PP T none x.nt 0 x.body (startSt (A40 n0 m0) (H1 q0)) .r (mkSt ts hs' nx df)) (hd : dfOk (mkSt ts hs' nx df).hp.get df = true) (hres : resV (mkSt ts hs' nx df).sl.get (leaveH (mkSt ts hs' nx df).hp.get df) x.res = some (true, tv))
    (hids : tv.ids.all (fun j => Nat.blt j news.length) = true) (hch : (List.range news.length).map (leaveH (mkSt ts hs' nx df).hp.get df) = news.map some) (ho : news.all (fun ho => !ho.ro && ho.live && !ho.o.isLoop && ho.o.ids.all fun j => Nat.blt j news.length) = true) :
    SpecOK PP (compC T) f (spLit n0 q0 m0 tv news) := by
  refine spec_gen tokP hx fun ctx m h w args vals base e hH hargs hr hvc => ?_
  simp only [spLit] at hr
  split at hr
  case h_2 => cases hr
  rename_i n s
  split at hr
  case h_2 => cases hr
  rename_i vc q m' rd hs
  cases hr
  simp only [Bool.and_eq_true, beq_iff_eq] at hvc
  obtain ⟨rfl, rfl, rfl, hm⟩ := hvc
  have hm := Nat.eq_of_beq_eq_true hm
  subst hm
  match vals, hargs with
  | [v1, v2], ⟨ha1, ha2, _⟩ =>
    obtain ⟨mb, k1, k2, k3, k4⟩ := view_slice hH ha2 hs
    exact ⟨rfl, mm1 mb, H1 q, A40 n m', shown_newsD (ro1 k1 k2) ⟨ha1, k3 (mm1 mb) 0 rfl, trivial⟩ hlen hrun (fun _ => rfl) hd hres hids hch ho⟩
/-- an environment: these contracts, and all else in place -/
theorem specsOK_L {l : List (Nat × Spec)} (h : SpecsL l) : SpecsOK PP T (alGet l) :=
  ⟨fun f sp hf => (h _ (alGet_mem hf)).1, fun f sp hf => (h _ (alGet_mem hf)).2.1, fun f sp hf => (h _ (alGet_mem hf)).2.2⟩
def LR : List (Nat × Spec) := [(54, spReach)]
theorem LR_ok : SpecsL LR := specsL_cons ok54ring spReach_fp o54 (fun p hp => absurd hp (by simp))
noncomputable abbrev gR : Cal → Option Spec := gam F (alGet LR) 200 6
theorem envR : EnvOK PP T gR := gam_ok tokP eqokP mixP F_ok (specsOK_L LR_ok) 200 6
end Go.Proofs.Yteekkjfjpoaihaa.Eng

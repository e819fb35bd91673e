/- A part of the proof of ordersOrders_holds. -/
import Derived.Test.YteekkjfjpoaihaaOo08
set_option linter.all false
namespace Go.Proofs.Yteekkjfjpoaihaa.Eng
open Go Go.Proofs
theorem leaveH_other : ∀ (l : List Nat) (h : Nat → Option HO) (id : Nat), id ∉ l → leaveH h l id = h id
  | [], _, _, _ => rfl
  | a :: l, h, id, hid => by
    show leaveH (fun j => if j = a then _ else h j) l id = _
    rw [leaveH_other l _ id fun hm => hid (by simp [hm])]
    rw [if_neg fun e => hid (by simp [e])]
theorem dfOk_all : ∀ (l : List Nat) (h : Nat → Option HO), l.Nodup → (∀ id ∈ l, h id = some ⟨false, .dfr⟩) → dfOk h l = true
  | [], _, _, _ => rfl
  | a :: l, h, hn, hd => by
    obtain ⟨h1, h2⟩ := List.nodup_cons.1 hn
    simp only [dfOk, hd a (by simp), Bool.true_and]
    exact dfOk_all l _ h2 fun id hid => by
      have hne : ¬ id = a := fun e => h1 (by rw [← e]; exact hid)
      rw [if_neg hne]
      exact hd id (by simp [hid])
theorem dL_mem {k id : Nat} : id ∈ dL k ↔ ∃ x, x < k ∧ id = dN x := by
  unfold dL
  simp only [List.mem_map, List.mem_reverse, List.mem_range]
  constructor
  · rintro ⟨x, h1, rfl⟩; exact ⟨x, h1, rfl⟩
  · rintro ⟨x, h1, rfl⟩; exact ⟨x, h1, rfl⟩
theorem dL_nodup (k : Nat) : (dL k).Nodup := by
  induction k with
  | zero => simp [dL]
  | succ k ih =>
    rw [dL_succ, List.nodup_cons]
    refine ⟨fun hm => ?_, ih⟩
    obtain ⟨x, h1, h2⟩ := dL_mem.1 hm
    unfold dN at h2
    omega
/-- a function that hands back new objects, with blocks aside -/
theorem shown_D {P : Program} {T : Tab} {x : XFn} {m0 : MM} {hs : List HO} {args0 : List AV} {vals : List Value} {w : World} {tv : TV} {base : Nat} {ts : List (Nat × Slot)} {news : List HO} {nx k : Nat} {ex : XE} (hview : RoView (compC T) m0 hs w) (hargs : All2 (AR m0) args0 vals) (hlen : Nat.ble args0.length x.nt = true)
    (hrun : Exec P T none x.nt 0 x.body (startSt args0 hs) ex (stD ts news nx (dT k) (dL k))) (hex : ex ≠ .n → ex = .r) (hl : Nat.ble news.length 62 = true) (hres : resV (stD ts news nx (dT k) (dL k)).sl.get (leaveH (stD ts news nx (dT k) (dL k)).hp.get (dL k)) x.res = some (true, tv))
    (hids : tv.ids.all (fun j => Nat.blt j news.length) = true) (ho : news.all (fun ho => !ho.ro && ho.live && !ho.o.isLoop && ho.o.ids.all fun j => Nat.blt j news.length) = true) :
    Shown P T x m0 hs args0 vals w (tv.ren (renN (List.range news.length) base)) (news.map fun ho => ho.ren (renN (List.range news.length) base)) base where
  view := hview
  args := hargs
  len := Nat.le_of_ble_eq_true hlen
  run := ⟨stD ts news nx (dT k) (dL k), ex, tv, List.range news.length, hrun, by by_cases h : ex = .n; exact .inl h; exact .inr (hex h), dfOk_all _ _ (dL_nodup k) (fun id hid => by
      obtain ⟨x, h1, rfl⟩ := dL_mem.1 hid
      rw [stD_in (Nat.le_of_ble_eq_true hl), dT_get, if_pos h1]), hres, nodup_range _,
    fun j hj => List.mem_range.2 (Nat.le_of_ble_eq_true (List.all_eq_true.1 hids j hj)), rfl, by simp, fun j id h => by
      have hk : j < news.length := by
        have := (List.getElem?_eq_some_iff.1 h).1
        simpa using this
      rw [List.getElem?_range hk] at h
      cases h
      have hin := List.all_eq_true.1 ho news[j] (List.getElem_mem _)
      simp only [Bool.and_eq_true, Bool.not_eq_true'] at hin
      have h62 := Nat.le_of_ble_eq_true hl
      refine ⟨news[j], ?_, hin.1.1.1, hin.1.1.2, hin.1.2, fun j hj => List.mem_range.2 (Nat.le_of_ble_eq_true (List.all_eq_true.1 hin.2 j hj)), ?_⟩
      · show leaveH (stD ts news nx (dT k) (dL k)).hp.get (dL k) j = _
        rw [leaveH_other _ _ _ fun hm => by
          obtain ⟨x, _, h2⟩ := dL_mem.1 hm
          unfold dN at h2
          omega, stD_lt hk]
        simp [hk]
      · simp [hk]⟩
/-- what reach hands back -/
def rchS (n : Nat) (f : Nat → Bool) (a b : Nat) : Sig := sigI n f a b (stopR n f a b)
def rchL (n : Nat) (f : Nat → Bool) (a b : Nat) : List (Nat × Nat) := lstI n f a b (stopR n f a b)
theorem rch_inv {n : Nat} {f : Nat → Bool} {a b : Nat} (ha : a < 7) (hb : b < 7) (hn : n ≤ 7) : Inv (rchS n f a b) (rchL n f a b) :=
  invI ha hb hn _ (stopR_spec ha hb hn).2
def spRch : Spec where
  run := fun args h base => match args with
    | [.s (.ptr g 0 0), .pb [.int .i64 a, .int .i64 b] 0 _] => match h g with
      | some ⟨_, .row 115 [.int .i64 n] 49 f⟩ => some ⟨decide (0 ≤ a) && (decide (a < 7) && (decide (0 ≤ b) && (decide (b < 7) && (decide (0 ≤ n) && decide (n ≤ 7))))),
          .tup [.s (.sl (base + 0) 0 2 (rchL n.toNat f a.toNat b.toNat).length), .s (.mp (base + 1))], [], [⟨false, .ivec 77 .i64 2 (flatN (rchL n.toNat f a.toNat b.toNat))⟩, ⟨false, .map (.ints 2) (.ints 2) (rchS n.toNat f a.toNat b.toNat).1⟩], some [g]⟩
      | _ => none
    | _ => none
theorem spRch_fp : SpecFp spRch := by
  intro args h h' base e hr hf
  simp only [spRch] at hr ⊢
  split at hr
  case h_2 => cases hr
  split at hr
  case h_2 => cases hr
  rename_i hg
  cases hr
  simp only [hf _ (List.mem_singleton.2 rfl), hg]
theorem ok54 : SpecOK PP (compC T) 54 spRch := by
  refine spec_gen tokP o54 fun ctx m h w args vals base e hH hargs hr hvc => ?_
  simp only [spRch] at hr
  split at hr
  case h_2 => cases hr
  rename_i g a b f'
  split at hr
  case h_2 => cases hr
  rename_i ro n f hg
  cases hr
  simp only [Bool.and_eq_true, decide_eq_true_eq] at hvc
  obtain ⟨h0, h1, h2, h3, h4, h5⟩ := hvc
  obtain ⟨a, rfl⟩ : ∃ k : Nat, a = Int.ofNat k := ⟨a.toNat, by simp; omega⟩
  obtain ⟨b, rfl⟩ : ∃ k : Nat, b = Int.ofNat k := ⟨b.toNat, by simp; omega⟩
  obtain ⟨n, rfl⟩ : ∃ k : Nat, n = Int.ofNat k := ⟨n.toNat, by simp; omega⟩
  have ha : a < 7 := by simp at h1; omega
  have hb : b < 7 := by simp at h3; omega
  have hn : n ≤ 7 := by simp at h5; omega
  have hI := rch_inv (n := n) (f := f) ha hb hn
  match vals, hargs with
  | [v1, v2], ⟨ha1, ha2, _⟩ =>
    obtain ⟨mb, k1, k2, k3⟩ := view_row hH ha1 hg (eqB_refl 49 f)
    have hall : All2 (AR (mm1 mb)) [.s (.ptr 0 0 0), arV (Int.ofNat a) (Int.ofNat b)] [v1, v2] := ⟨k3 (mm1 mb) 0 rfl, pb2_any ha2, trivial⟩
    refine ⟨rfl, mm1 mb, [RG n f], [.s (.ptr 0 0 0), arV (Int.ofNat a) (Int.ofNat b)], ?_⟩
    have := shown_D (tv := .tup [.s (.sl 0 0 2 (rchS n f a b).2.2), .s (.mp 1)]) (base := base) (ro1 k1 k2) hall (by kernel_rfl) (body54 ha hb hn) (fun _ => rfl) (by kernel_rfl) (by kernel_rfl) (by kernel_rfl) (by kernel_rfl)
    have e1 : (rchS n f a b).2.2 = (rchL n f a b).length := hI.m
    have e2 : (rchS n f a b).2.1 = flatN (rchL n f a b) := hI.q
    have e3 : sigI n f a b (stopR n f a b) = rchS n f a b := rfl
    rw [e3, e1, e2] at this
    exact this
end Go.Proofs.Yteekkjfjpoaihaa.Eng
namespace Go.Proofs.Yteekkjfjpoaihaa.Eng
open Go Go.Proofs
def L61 : XC := x61.body.b.b.a.b.i.i
def M61 : XC := L61.b.b.a.i.b.b.i.i
abbrev G61 (f o : Nat → Bool) : List HO := [⟨false, .row 70 [] 49 f⟩, ⟨false, .row 70 [] 49 ff⟩, ⟨false, .row 70 [] 49 o⟩]
abbrev sl61 : List (Nat × Slot) := [(1, g1S 0), (2, g1S 1), (3, g1S 2)]
abbrev S61 (f o : Nat → Bool) (a : Nat) : St := mkSt (sl61 ++ [(6, ⟨true, I a⟩)]) (G61 f o) 3 []
abbrev P61 (f o : Nat → Bool) (a : Nat) : St := mkSt (sl61 ++ [(6, ⟨true, I a⟩), (7, ⟨true, B (decide (Int.ofNat a < 7))⟩)]) (G61 f o) 3 []
abbrev U61 (f o : Nat → Bool) (a b : Nat) : St := mkSt (sl61 ++ [(4, ⟨true, I a⟩), (6, ⟨true, I a⟩), (9, ⟨true, I b⟩)]) (G61 f o) 3 []
abbrev Q61 (f o : Nat → Bool) (a b : Nat) : St := mkSt (sl61 ++ [(4, ⟨true, I a⟩), (6, ⟨true, I a⟩), (9, ⟨true, I b⟩), (10, ⟨true, B (decide (Int.ofNat b < 7))⟩)]) (G61 f o) 3 []
def tS (f o : Nat → Bool) (a b : Nat) : Nat → Bool := fun j => bif j.beq (0 - ([] : List SV).length + (0 + b * 7 + a * 1)) then f (0 - ([] : List SV).length + (0 + a * 7 + b * 1)) else o j
def trow (f : Nat → Bool) (a : Nat) (o : Nat → Bool) : Nat → Nat → Bool
  | 0 => o
  | b + 1 => tS f (trow f a o b) a b
def tall (f : Nat → Bool) : Nat → Nat → Bool
  | 0 => ff
  | a + 1 => trow f a (tall f a) 7
def turnR (f : Nat → Bool) : Nat → Bool := tall f 7
theorem a61 {f : Nat → Bool} : Exec PP T none x61.nt 0 x61.body.a (startSt [.pb [] 49 f] []) .n (mkSt [(1, g1S 0), (2, g1S 1)] [⟨false, .row 70 [] 49 f⟩, ⟨false, .row 70 [] 49 ff⟩] 2 []) := by
  refine exec_orun env0 false 60 [] [0, 1] (fun _ => rfl) (by kernel_rfl) (by kernel_rfl) (by kernel_rfl) (by kernel_rfl)
theorem a61' {f : Nat → Bool} : Exec PP T none x61.nt 0 x61.body.b.a (mkSt [(1, g1S 0), (2, g1S 1)] [⟨false, .row 70 [] 49 f⟩, ⟨false, .row 70 [] 49 ff⟩] 2 []) .n (mkSt sl61 (G61 f ff) 3 []) := by
  refine exec_orun env0 false 60 [] [0, 1, 2] (fun _ => rfl) (by kernel_rfl) (by kernel_rfl) (by kernel_rfl) (by kernel_rfl)
theorem b61 {f : Nat → Bool} : Exec PP T none x61.nt 0 x61.body.b.b.a.a (mkSt sl61 (G61 f ff) 3 []) .n (S61 f ff 0) := by
  refine exec_orun env0 false 60 [] [0, 1, 2] (fun _ => rfl) (by kernel_rfl) (by kernel_rfl) (by kernel_rfl) (by kernel_rfl)
theorem l61a {f o : Nat → Bool} {a : Nat} : Exec PP T none x61.nt 0 L61.a (S61 f o a) .n (P61 f o a) := by
  refine exec_orun env0 false 60 [] [0, 1, 2] (fun _ => rfl) (by kernel_rfl) (by kernel_rfl) (by kernel_rfl) (by kernel_rfl)
theorem l61b {f o : Nat → Bool} {a : Nat} (h : a < 7) : Exec PP T none x61.nt 0 L61.b.a (P61 f o a) .n (S61 f o a) := by
  refine exec_orun env0 false 60 [true] [0, 1, 2] (fun _ => rfl) (by kernel_rfl) (by kernel_rfl) (by kernel_rfl) ?_
  rw [(show obOf (orun g0 false 60 L61.b.a (P61 f o a) [true]) = (decide (Int.ofNat a < 7) && true) from by kernel_rfl)]
  simp
  omega
theorem l61x {f o : Nat → Bool} : Exec PP T none x61.nt 0 L61.b.a (P61 f o 7) (.x 0) (S61 f o 7) := by
  refine exec_orun env0 false 60 [false] [0, 1, 2] (fun _ => rfl) (by kernel_rfl) (by kernel_rfl) (by kernel_rfl) (by kernel_rfl)
theorem l61c {f o : Nat → Bool} {a : Nat} : Exec PP T none x61.nt 0 L61.b.b.a.i.a (S61 f o a) .n (mkSt (sl61 ++ [(4, ⟨true, I a⟩), (6, ⟨true, I a⟩)]) (G61 f o) 3 []) := by
  refine exec_orun env0 false 60 [] [0, 1, 2] (fun _ => rfl) (by kernel_rfl) (by kernel_rfl) (by kernel_rfl) (by kernel_rfl)
theorem l61d {f o : Nat → Bool} {a : Nat} : Exec PP T none x61.nt 0 L61.b.b.a.i.b.a (mkSt (sl61 ++ [(4, ⟨true, I a⟩), (6, ⟨true, I a⟩)]) (G61 f o) 3 []) .n (U61 f o a 0) := by
  refine exec_orun env0 false 60 [] [0, 1, 2] (fun _ => rfl) (by kernel_rfl) (by kernel_rfl) (by kernel_rfl) (by kernel_rfl)
theorem l61e {f o : Nat → Bool} {a b : Nat} (h : a < 7) : Exec PP T none x61.nt 0 L61.b.b.b (U61 f o a b) .n (S61 f o (a + 1)) := by
  refine exec_orun env0 false 60 [] [0, 1, 2] (fun _ => rfl) (by kernel_rfl) (by kernel_rfl) (by kernel_rfl) ?_
  rw [(show obOf (orun g0 false 60 L61.b.b.b (U61 f o a b) []) = (rng64 (Int.ofNat a.succ) && true) from by kernel_rfl)]
  simp [rng64]
  omega
theorem m61a {f o : Nat → Bool} {a b : Nat} : Exec PP T none x61.nt 0 M61.a (U61 f o a b) .n (Q61 f o a b) := by
  refine exec_orun env0 false 60 [] [0, 1, 2] (fun _ => rfl) (by kernel_rfl) (by kernel_rfl) (by kernel_rfl) (by kernel_rfl)
theorem m61b {f o : Nat → Bool} {a b : Nat} (h : b < 7) : Exec PP T none x61.nt 0 M61.b.a (Q61 f o a b) .n (U61 f o a b) := by
  refine exec_orun env0 false 60 [true] [0, 1, 2] (fun _ => rfl) (by kernel_rfl) (by kernel_rfl) (by kernel_rfl) ?_
  rw [(show obOf (orun g0 false 60 M61.b.a (Q61 f o a b) [true]) = (decide (Int.ofNat b < 7) && true) from by kernel_rfl)]
  simp
  omega
theorem m61x {f o : Nat → Bool} {a : Nat} : Exec PP T none x61.nt 0 M61.b.a (Q61 f o a 7) (.x 2) (U61 f o a 7) := by
  refine exec_orun env0 false 60 [false] [0, 1, 2] (fun _ => rfl) (by kernel_rfl) (by kernel_rfl) (by kernel_rfl) (by kernel_rfl)
theorem m61y {f o : Nat → Bool} {a b : Nat} (ha : a < 7) (hb : b < 7) : Exec PP T none x61.nt 0 M61.b.b.a.i (U61 f o a b) .n (U61 f (tS f o a b) a b) := by
  refine exec_orun env0 false 60 [] [0, 1, 2] (fun _ => rfl) (by kernel_rfl) (by kernel_rfl) (by kernel_rfl) ?_
  rw [(show obOf (orun g0 false 60 M61.b.b.a.i (U61 f o a b) []) = (decide (0 ≤ Int.ofNat a) && decide (Int.ofNat a < 7) && (decide (0 ≤ Int.ofNat b) && decide (Int.ofNat b < 7) && (decide (0 + (0 + a * 7 + b * 1) < 49) && (decide (0 ≤ Int.ofNat b) && decide (Int.ofNat b < 7) && (decide (0 ≤ Int.ofNat a) && decide (Int.ofNat a < 7) && (decide (0 + (0 + b * 7 + a * 1) < 49) && true && true && true))))) && true) from by kernel_rfl)]
  simp
  omega
theorem m61e {f o : Nat → Bool} {a b : Nat} (h : b < 7) : Exec PP T none x61.nt 0 M61.b.b.b (U61 f o a b) .n (U61 f o a (b + 1)) := by
  refine exec_orun env0 false 60 [] [0, 1, 2] (fun _ => rfl) (by kernel_rfl) (by kernel_rfl) (by kernel_rfl) ?_
  rw [(show obOf (orun g0 false 60 M61.b.b.b (U61 f o a b) []) = (rng64 (Int.ofNat b.succ) && true) from by kernel_rfl)]
  simp [rng64]
  omega
theorem d61 {f o : Nat → Bool} : Exec PP T none x61.nt 0 x61.body.b.b.b (S61 f o 7) .r (mkSt [(2, g1S 0)] [⟨false, .row 70 [] 49 o⟩] 1 []) := by
  refine exec_orun env0 false 60 [] [1] (fun _ => rfl) (by kernel_rfl) (by kernel_rfl) (by kernel_rfl) (by kernel_rfl)
theorem l61 {f o : Nat → Bool} {a : Nat} (ha : a < 7) : Exec PP T none x61.nt 0 L61 (S61 f o a) .n (S61 f (trow f a o 7) (a + 1)) :=
  exec_seq (x := L61.a) (y := L61.b) l61a (exec_seq (x := L61.b.a) (y := L61.b.b) (l61b ha) (exec_seq (x := L61.b.b.a) (y := L61.b.b.b) (exec_block (id := 1) (x := L61.b.b.a.i) (e := .n) (exec_seq (x := L61.b.b.a.i.a) (y := L61.b.b.a.i.b) l61c (exec_seq (x := L61.b.b.a.i.b.a) (y := .block 2 (.loop M61)) l61d
    (exec_block (e := .x 2) (exec_loop_up (fun b => U61 f (trow f a o b) a b) 7 (fun b hb => exec_seq (x := M61.a) (y := M61.b) m61a (exec_seq (x := M61.b.a) (y := M61.b.b) (m61b hb) (exec_seq (x := M61.b.b.a) (y := M61.b.b.b) (exec_block (id := 3) (x := M61.b.b.a.i) (e := .n) (m61y ha hb)) (m61e hb)))) (exec_seq (x := M61.a) (y := M61.b) m61a (exec_seq_x (x := M61.b.a) (y := M61.b.b) m61x (by simp))) (by simp) 0 (by omega)))))) (l61e (b := 7) ha)))
theorem body61 {f : Nat → Bool} : Exec PP T none x61.nt 0 x61.body (startSt [.pb [] 49 f] []) .r (mkSt [(2, g1S 0)] [⟨false, .row 70 [] 49 (turnR f)⟩] 1 []) := by
  refine exec_seq (x := x61.body.a) (y := x61.body.b) a61 (exec_seq (x := x61.body.b.a) (y := x61.body.b.b) a61' (exec_seq (x := x61.body.b.b.a) (y := x61.body.b.b.b) (exec_seq (x := x61.body.b.b.a.a) (y := .block 0 (.loop L61)) b61 (exec_block (e := .x 0) ?_)) (d61 (f := f))))
  exact exec_loop_up (fun a => S61 f (tall f a) a) 7 (fun a ha => l61 ha) (exec_seq (x := L61.a) (y := L61.b) l61a (exec_seq_x (x := L61.b.a) (y := L61.b.b) l61x (by simp))) (by simp) 0 (by omega)
theorem ok61 : SpecOK PP (compC T) 61 (pureS (gRel fun f => .av (.pb [] 49 (turnR f)))) := by
  refine spec_pure tokP o61 fun ctx m h w args vals v rd base hH hargs hg => ?_
  unfold gRel at hg
  split at hg
  · rename_i fb
    simp only [Option.some.injEq, Prod.mk.injEq] at hg
    obtain ⟨_, rfl, rfl⟩ := hg
    match vals, hargs with
    | [v1], ⟨ha1, _⟩ =>
      exact ⟨emV, [], [.pb [] 49 fb], shown_valH (hs' := [⟨false, .row 70 [] 49 (turnR fb)⟩]) ro0 ⟨pb0_any ha1, trivial⟩ (by kernel_rfl) body61 (fun _ => rfl) (by kernel_rfl) (by kernel_rfl)⟩
  · cases hg
theorem at7_tS {f o : Nat → Bool} {a b x y : Nat} (ha : a < 7) (hb : b < 7) (hx : x < 7) (hy : y < 7) : at7 (tS f o a b) x y = bif Nat.beq x b && Nat.beq y a then at7 f a b else at7 o x y := by
  unfold at7 tS
  simp only [List.length_nil]
  by_cases h : x = b ∧ y = a
  · obtain ⟨rfl, rfl⟩ := h
    rw [beqT (by simp), beqT rfl, beqT rfl]
    simp
  · rw [beqF (by omega)]
    have : (Nat.beq x b && Nat.beq y a) = false := by
      cases hh : (Nat.beq x b && Nat.beq y a) with
      | false => rfl
      | true =>
        rw [Bool.and_eq_true] at hh
        exact absurd ⟨Nat.eq_of_beq_eq_true hh.1, Nat.eq_of_beq_eq_true hh.2⟩ h
    rw [this]
    rfl
theorem at7_trow {f o : Nat → Bool} {a : Nat} (ha : a < 7) : ∀ b, b ≤ 7 → ∀ {x y : Nat}, x < 7 → y < 7 → at7 (trow f a o b) x y = bif decide (x < b) && Nat.beq y a then at7 f a x else at7 o x y
  | 0, _, x, y, hx, hy => by simp [trow]
  | b + 1, hb, x, y, hx, hy => by
    show at7 (tS f (trow f a o b) a b) x y = _
    rw [at7_tS ha (by omega) hx hy, at7_trow ha b (by omega) hx hy]
    by_cases h : y = a
    · subst h
      rw [beqT rfl]
      by_cases h2 : x = b
      · subst h2; rw [beqT rfl]; simp
      · rw [beqF h2]
        by_cases h3 : x < b
        · have : x < b + 1 := by omega
          simp [h3, this]
        · have : ¬ x < b + 1 := by omega
          simp [h3, this]
    · rw [beqF h]; simp
theorem at7_tall {f : Nat → Bool} : ∀ a, a ≤ 7 → ∀ {x y : Nat}, x < 7 → y < 7 → at7 (tall f a) x y = (decide (y < a) && at7 f y x)
  | 0, _, x, y, hx, hy => by simp [tall, at7, ff]
  | a + 1, ha, x, y, hx, hy => by
    show at7 (trow f a (tall f a) 7) x y = _
    rw [at7_trow (by omega) 7 (by omega) hx hy, at7_tall a (by omega) hx hy, decide_eq_true hx]
    by_cases h : y = a
    · subst h; rw [beqT rfl]; simp
    · rw [beqF h]
      by_cases h2 : y < a
      · have : y < a + 1 := by omega
        simp [h2, this]
      · have : ¬ y < a + 1 := by omega
        simp [h2, this]
theorem at7_turnR {f : Nat → Bool} {x y : Nat} (hx : x < 7) (hy : y < 7) : at7 (turnR f) x y = at7 f y x := by
  unfold turnR
  rw [at7_tall 7 (by omega) hx hy, decide_eq_true hy, Bool.true_and]
end Go.Proofs.Yteekkjfjpoaihaa.Eng
namespace Go.Proofs.Yteekkjfjpoaihaa.Eng
open Go Go.Proofs
def L14 : XC := x14.body.b.b.a.b.i.i
abbrev H2 (q q' : List Int) : List HO := [⟨true, .xvec .i64 2 q⟩, ⟨true, .xvec .i64 2 q'⟩]
abbrev sl14 (m m' : Nat) : List (Nat × Slot) := [(0, sl0 m), (1, lsS 1 m')]
abbrev S14 (q q' : List Int) (m m' i : Nat) : St := mkSt (sl14 m m' ++ [(5, ⟨true, I i⟩)]) (H2 q q') 2 []
def diffAt (q q' : List Int) (i : Nat) : Bool := !(pa q i == pa q' i && pb q i == pb q' i)
theorem a14 {q q' : List Int} {m m' : Nat} : Exec PP T none x14.nt 0 x14.body.a (startSt [.s (.sl 0 0 2 m), .s (.sl 1 0 2 m')] (H2 q q')) .n (mkSt (sl14 m m') (H2 q q') 2 []) := by
  refine exec_orun env0 false 60 [] [0, 1] (fun _ => rfl) (by kernel_rfl) (by kernel_rfl) (by kernel_rfl) (by kernel_rfl)
theorem b14r {q q' : List Int} {m m' : Nat} (h : ¬ m = m') : Exec PP T none x14.nt 0 x14.body.b.a (mkSt (sl14 m m') (H2 q q') 2 []) .r (RB 4 false) := by
  refine exec_orun env0 false 60 [true] [] (fun _ => rfl) (by kernel_rfl) (by kernel_rfl) (by kernel_rfl) ?_
  rw [(show obOf (orun g0 false 60 x14.body.b.a (mkSt (sl14 m m') (H2 q q') 2 []) [true]) = (Int.ofNat m != Int.ofNat m' && true) from by kernel_rfl)]
  simp
  omega
theorem b14 {q q' : List Int} {m m' : Nat} (h : m = m') : Exec PP T none x14.nt 0 x14.body.b.a (mkSt (sl14 m m') (H2 q q') 2 []) .n (mkSt (sl14 m m') (H2 q q') 2 []) := by
  refine exec_orun env0 false 60 [false] [0, 1] (fun _ => rfl) (by kernel_rfl) (by kernel_rfl) (by kernel_rfl) ?_
  rw [(show obOf (orun g0 false 60 x14.body.b.a (mkSt (sl14 m m') (H2 q q') 2 []) [false]) = (!Int.ofNat m != Int.ofNat m' && true) from by kernel_rfl)]
  simp
  omega
theorem cc14 {q q' : List Int} {m m' : Nat} : Exec PP T none x14.nt 0 x14.body.b.b.a.a (mkSt (sl14 m m') (H2 q q') 2 []) .n (S14 q q' m m' 0) := by
  refine exec_orun env0 false 60 [] [0, 1] (fun _ => rfl) (by kernel_rfl) (by kernel_rfl) (by kernel_rfl) (by kernel_rfl)
theorem l14a {q q' : List Int} {m m' i : Nat} (h : i < m) : Exec PP T none x14.nt 0 L14.a (S14 q q' m m' i) .n (S14 q q' m m' i) := by
  refine exec_orun env0 false 60 [true] [0, 1] (fun _ => rfl) (by kernel_rfl) (by kernel_rfl) (by kernel_rfl) ?_
  rw [(show obOf (orun g0 false 60 L14.a (S14 q q' m m' i) [true]) = (decide (Int.ofNat i < Int.ofNat m) && true) from by kernel_rfl)]
  simp
  omega
theorem l14x {q q' : List Int} {m m' : Nat} : Exec PP T none x14.nt 0 L14.a (S14 q q' m m' m) (.x 0) (S14 q q' m m' m) := by
  refine exec_orun env0 false 60 [false] [0, 1] (fun _ => rfl) (by kernel_rfl) (by kernel_rfl) (by kernel_rfl) ?_
  rw [(show obOf (orun g0 false 60 L14.a (S14 q q' m m' m) [false]) = (!decide (Int.ofNat m < Int.ofNat m) && true) from by kernel_rfl)]
  simp
theorem l14b {q q' : List Int} {m m' i : Nat} (hq : q.length = m * 2) (hq' : q'.length = m' * 2) (h : i < m) (h' : i < m') (hd : diffAt q q' i = false) : Exec PP T none x14.nt 0 L14.b.a.i (S14 q q' m m' i) .n (S14 q q' m m' i) := by
  refine exec_orun env0 false 60 [false] [0, 1] (fun _ => rfl) (by kernel_rfl) (by kernel_rfl) (by kernel_rfl) ?_
  rw [(show obOf (orun g0 false 60 L14.b.a.i (S14 q q' m m' i) [false]) = (decide (0 ≤ Int.ofNat i) && decide (Int.ofNat i < Int.ofNat m) && (decide (((0 + (0 + i) * 2).add 0).succ.succ ≤ q.length) && (decide (0 ≤ Int.ofNat i) && decide (Int.ofNat i < Int.ofNat m') && (decide (((0 + (0 + i) * 2).add 0).succ.succ ≤ q'.length) && true))) && true && (!true != ([q.getD (0 + (0 + i) * 2 + 0) 0, q.getD ((0 + (0 + i) * 2).add 0).succ 0] == [q'.getD (0 + (0 + i) * 2 + 0) 0, q'.getD ((0 + (0 + i) * 2).add 0).succ 0] && true) && true)) from by kernel_rfl)]
  have e1 : (0 + (0 + i) * 2 + 0) = 2 * i := by omega
  have e2 : ((0 + (0 + i) * 2).add 0).succ = 2 * i + 1 := by simp; omega
  unfold diffAt pa pb at hd
  simp only [e1, e2, beq_two]
  simp at hd
  simp [hd]
  omega
theorem l14r {q q' : List Int} {m m' i : Nat} (hq : q.length = m * 2) (hq' : q'.length = m' * 2) (h : i < m) (h' : i < m') (hd : diffAt q q' i = true) : Exec PP T none x14.nt 0 L14.b.a.i (S14 q q' m m' i) .r (RB 4 false) := by
  refine exec_orun env0 false 60 [true] [] (fun _ => rfl) (by kernel_rfl) (by kernel_rfl) (by kernel_rfl) ?_
  rw [(show obOf (orun g0 false 60 L14.b.a.i (S14 q q' m m' i) [true]) = (decide (0 ≤ Int.ofNat i) && decide (Int.ofNat i < Int.ofNat m) && (decide (((0 + (0 + i) * 2).add 0).succ.succ ≤ q.length) && (decide (0 ≤ Int.ofNat i) && decide (Int.ofNat i < Int.ofNat m') && (decide (((0 + (0 + i) * 2).add 0).succ.succ ≤ q'.length) && true))) && true && (true != ([q.getD (0 + (0 + i) * 2 + 0) 0, q.getD ((0 + (0 + i) * 2).add 0).succ 0] == [q'.getD (0 + (0 + i) * 2 + 0) 0, q'.getD ((0 + (0 + i) * 2).add 0).succ 0] && true) && true)) from by kernel_rfl)]
  have e1 : (0 + (0 + i) * 2 + 0) = 2 * i := by omega
  have e2 : ((0 + (0 + i) * 2).add 0).succ = 2 * i + 1 := by simp; omega
  unfold diffAt pa pb at hd
  simp only [e1, e2, beq_two]
  simp at hd
  simp
  exact ⟨by omega, hd⟩
theorem l14e {q q' : List Int} {m m' i : Nat} (h : i < m) (hm : m ≤ 1000000000) : Exec PP T none x14.nt 0 L14.b.b (S14 q q' m m' i) .n (S14 q q' m m' (i + 1)) := by
  refine exec_orun env0 false 60 [] [0, 1] (fun _ => rfl) (by kernel_rfl) (by kernel_rfl) (by kernel_rfl) ?_
  rw [(show obOf (orun g0 false 60 L14.b.b (S14 q q' m m' i) []) = (rng64 (Int.ofNat i.succ) && true) from by kernel_rfl)]
  simp [rng64]
  omega
theorem d14 {q q' : List Int} {m m' : Nat} : Exec PP T none x14.nt 0 x14.body.b.b.b (S14 q q' m m' m) .r (RB 4 true) := by
  refine exec_orun env0 false 60 [] [] (fun _ => rfl) (by kernel_rfl) (by kernel_rfl) (by kernel_rfl) (by kernel_rfl)
def sameP (q : List Int) (m : Nat) (q' : List Int) (m' : Nat) : Bool := decide (m = m') && !((List.range m).any (diffAt q q'))
theorem body14 {q q' : List Int} {m m' : Nat} (hq : q.length = m * 2) (hq' : q'.length = m' * 2) (hm : m ≤ 1000000000) : Exec PP T none x14.nt 0 x14.body (startSt [.s (.sl 0 0 2 m), .s (.sl 1 0 2 m')] (H2 q q')) .r (RB 4 (sameP q m q' m')) := by
  unfold sameP
  refine exec_seq (x := x14.body.a) (y := x14.body.b) a14 ?_
  by_cases h : m = m'
  · subst h
    rw [decide_eq_true rfl, Bool.true_and]
    refine exec_seq (x := x14.body.b.a) (y := x14.body.b.b) (b14 rfl) ?_
    cases hh : (List.range m).any (diffAt q q') with
    | true =>
      obtain ⟨p, h1, h2, h3⟩ := any_first _ _ hh
      refine exec_seq_x (x := x14.body.b.b.a) (y := x14.body.b.b.b) (exec_seq (x := x14.body.b.b.a.a) (y := .block 0 (.loop L14)) cc14 (exec_block (e := .r) ?_)) (by simp)
      exact exec_loop_up (S14 q q' m m) p (fun i hi => exec_seq (x := L14.a) (y := L14.b) (l14a (by omega)) (exec_seq (x := L14.b.a) (y := L14.b.b) (exec_block (id := 1) (x := L14.b.a.i) (e := .n) (l14b hq hq' (by omega) (by omega) (h3 i hi))) (l14e (by omega) hm))) (exec_seq (x := L14.a) (y := L14.b) (l14a h1) (exec_seq_x (x := L14.b.a) (y := L14.b.b) (exec_block (id := 1) (x := L14.b.a.i) (e := .r) (l14r hq hq' h1 h1 h2)) (by simp [XE.unblock]))) (by simp [XE.unblock]) 0 (by omega)
    | false =>
      have h3 := any_none _ _ hh
      refine exec_seq (x := x14.body.b.b.a) (y := x14.body.b.b.b) (exec_seq (x := x14.body.b.b.a.a) (y := .block 0 (.loop L14)) cc14 (exec_block (e := .x 0) ?_)) (d14 (q := q) (q' := q') (m := m) (m' := m))
      exact exec_loop_up (S14 q q' m m) m (fun i hi => exec_seq (x := L14.a) (y := L14.b) (l14a (by omega)) (exec_seq (x := L14.b.a) (y := L14.b.b) (exec_block (id := 1) (x := L14.b.a.i) (e := .n) (l14b hq hq' (by omega) (by omega) (h3 i hi))) (l14e (by omega) hm))) (exec_seq_x (x := L14.a) (y := L14.b) l14x (by simp)) (by simp) 0 (by omega)
  · rw [decide_eq_false h, Bool.false_and]
    exact exec_seq_x (x := x14.body.b.a) (y := x14.body.b.b) (b14r h) (by simp)
def gSame (args : List AV) (h : Nat → Option HO) : Option (Bool × TV × List Nat) := match args with
  | [s, t] => match srcOf (.av s) h .i64 2, srcOf (.av t) h .i64 2 with
    | some (vc, q, m, rd), some (vc', q', m', rd') => some (vc && (vc' && bndL m), B (sameP q m q' m'), rd ++ rd')
    | _, _ => none
  | _ => none
theorem gSame_fp : PureFp gSame := by
  intro args h h' q hg hf
  unfold gSame at hg ⊢
  split at hg
  · split at hg
    · rename_i hs ht
      cases hg
      rw [srcOf_fp hs fun id hid => hf id (List.mem_append.2 (.inl hid)), srcOf_fp ht fun id hid => hf id (List.mem_append.2 (.inr hid))]
    · cases hg
  · cases hg
theorem ok14 : SpecOK PP (compC T) 14 (pureS gSame) := by
  refine spec_pure tokP o14 fun ctx m h w args vals u rd base hH hargs hg => ?_
  unfold gSame at hg
  split at hg
  · rename_i s t
    split at hg
    · rename_i vc q m' rd' vc' q' m2 rd2 hs ht
      simp only [Option.some.injEq, Prod.mk.injEq, Bool.and_eq_true] at hg
      obtain ⟨⟨rfl, rfl, hm⟩, rfl, rfl⟩ := hg
      match vals, hargs with
      | [v1, v2], ⟨ha1, ha2, _⟩ =>
        obtain ⟨mb, k1, k2, k3, k4⟩ := view_slice hH ha1 hs
        obtain ⟨mb', r1, r2, r3, r4⟩ := view_slice hH ha2 ht
        exact ⟨mm2 mb mb', H2 q q', [.s (.sl 0 0 2 m'), .s (.sl 1 0 2 m2)], shown_val (ts := [(4, ⟨true, B (sameP q m' q' m2)⟩)]) (ro2 k1 k2 r1 r2) ⟨k3 (mm2 mb mb') 0 rfl, r3 (mm2 mb mb') 1 rfl, trivial⟩ (by kernel_rfl) (body14 k4 r4 (by simpa [bndL] using hm)) (fun _ => rfl) (by kernel_rfl) (by kernel_rfl)⟩
    · cases hg
  · cases hg
end Go.Proofs.Yteekkjfjpoaihaa.Eng
namespace Go.Proofs.Yteekkjfjpoaihaa.Eng
open Go Go.Proofs
def L9 : List (Nat × Spec) := [(53, sparrows), (54, spRch), (51, pureS (gRel fun f => B (transB f)))]
theorem L9_ok : SpecsL L9 := specsL_cons ok53 sparrows_fp o53 (specsL_cons ok54 spRch_fp o54 (specsL_cons ok51 (pureS_fp (gRel_fp _)) o51 (fun p hp => absurd hp (by simp))))
noncomputable abbrev g9 : Cal → Option Spec := specsΓ L9
theorem env9 : EnvOK PP T g9 := envL L9_ok
def X55 : XC := x55.body.b.b.b.a.i.i.i
def M55 : XC := X55.b.b.b.a.b.i.i
def N55 : XC := X55.b.b.b.b.b.i.i
abbrev GL (n : Nat) (l : Nat → Bool) : HO := ⟨false, .row 115 [.int .i64 (Int.ofNat n)] 49 l⟩
abbrev R70 (o : Nat → Bool) : HO := ⟨false, .row 70 [] 49 o⟩
abbrev IV (q : List Int) : HO := ⟨false, .ivec 77 .i64 2 q⟩
abbrev sl55 : List (Nat × Slot) := [(2, g1S 0), (3, ⟨true, B false⟩), (4, g1S 1), (5, g1S 2)]
abbrev S55 (n : Nat) (o l : Nat → Bool) : St := mkSt sl55 [R70 ff, R70 o, GL n l] 3 []
abbrev A55 (n : Nat) (o l : Nat → Bool) : St := mkSt (sl55 ++ [(6, lsS 3 (arrowsL n l).length)]) [R70 ff, R70 o, GL n l, IV (flat (arrowsL n l))] 4 []
theorem a55 {n : Nat} {f : Nat → Bool} : Exec PP T none x55.nt 0 x55.body.a (startSt [.s (.ptr 0 0 0)] [RG n f]) .n (mkSt [(0, g1S 0), (2, g1S 1), (3, ⟨true, B false⟩)] [RG n f, R70 ff] 2 []) := by
  refine exec_orun env0 false 60 [] [0, 1] (fun _ => rfl) (by kernel_rfl) (by kernel_rfl) (by kernel_rfl) (by kernel_rfl)
theorem b55 {n : Nat} {f : Nat → Bool} : Exec PP T none x55.nt 0 x55.body.b.a (mkSt [(0, g1S 0), (2, g1S 1), (3, ⟨true, B false⟩)] [RG n f, R70 ff] 2 []) .n (mkSt [(0, g1S 0), (2, g1S 1), (3, ⟨true, B false⟩), (4, g1S 2)] [RG n f, R70 ff, R70 ff] 3 []) := by
  refine exec_orun env0 false 60 [] [0, 1, 2] (fun _ => rfl) (by kernel_rfl) (by kernel_rfl) (by kernel_rfl) (by kernel_rfl)
theorem cc55 {n : Nat} {f : Nat → Bool} : Exec PP T none x55.nt 0 x55.body.b.b.a (mkSt [(0, g1S 0), (2, g1S 1), (3, ⟨true, B false⟩), (4, g1S 2)] [RG n f, R70 ff, R70 ff] 3 []) .n (S55 n ff f) := by
  refine exec_orun env0 false 60 [] [1, 2, 3] (fun _ => rfl) (by kernel_rfl) (by kernel_rfl) (by kernel_rfl) (by kernel_rfl)
theorem r55a {n : Nat} {o l : Nat → Bool} (hn : n ≤ 7) : Exec PP T none x55.nt 0 X55.a (S55 n o l) .n (A55 n o l) := by
  refine exec_orun env9 false 60 [] [0, 1, 2, 3] (fun _ => rfl) (by kernel_rfl) (by kernel_rfl) (by kernel_rfl) ?_
  rw [(show obOf (orun g9 false 60 X55.a (S55 n o l) []) = (decide (0 ≤ Int.ofNat n) && decide (Int.ofNat n ≤ 7) && true && true && true) from by kernel_rfl)]
  simp
  omega
theorem r55x {n : Nat} {o l : Nat → Bool} (h : (arrowsL n l).length = 0) : Exec PP T none x55.nt 0 X55.b.a (A55 n o l) (.x 0) (S55 n o l) := by
  refine exec_orun env9 false 60 [true] [0, 1, 2] (fun _ => rfl) (by kernel_rfl) (by kernel_rfl) (by kernel_rfl) ?_
  rw [(show obOf (orun g9 false 60 X55.b.a (A55 n o l) [true]) = (Int.ofNat (arrowsL n l).length == 0 && true) from by kernel_rfl)]
  simp [h]
theorem r55b {n : Nat} {o l : Nat → Bool} (h : ¬ (arrowsL n l).length = 0) : Exec PP T none x55.nt 0 X55.b.a (A55 n o l) .n (A55 n o l) := by
  refine exec_orun env9 false 60 [false] [0, 1, 2, 3] (fun _ => rfl) (by kernel_rfl) (by kernel_rfl) (by kernel_rfl) ?_
  rw [(show obOf (orun g9 false 60 X55.b.a (A55 n o l) [false]) = (!Int.ofNat (arrowsL n l).length == 0 && true) from by kernel_rfl)]
  simp at h ⊢
  exact h
/-- the first arrow -/
def fstX (n : Nat) (l : Nat → Bool) : Nat := ((flat (arrowsL n l)).getD (0 + (0 + 0) * 2 + 0) 0).toNat
def fstY (n : Nat) (l : Nat → Bool) : Nat := ((flat (arrowsL n l)).getD (0 + (0 + 0) * 2 + 0 + 1) 0).toNat
def clsO (n : Nat) (l : Nat → Bool) : List (Nat × Nat) := rchL n l (fstX n l) (fstY n l)
abbrev B55 (n : Nat) (o l : Nat → Bool) (q : List Int) (m : Nat) : St := mkSt (sl55 ++ [(7, lsS 3 m)]) [R70 ff, R70 o, GL n l, IV q] 4 []
theorem r55c {n : Nat} {o l : Nat → Bool} (hn : n ≤ 7) (h : ¬ (arrowsL n l).length = 0) (h0 : 0 ≤ (flat (arrowsL n l)).getD (0 + (0 + 0) * 2 + 0) 0 ∧ (flat (arrowsL n l)).getD (0 + (0 + 0) * 2 + 0) 0 < 7) (h1 : 0 ≤ (flat (arrowsL n l)).getD (0 + (0 + 0) * 2 + 0 + 1) 0 ∧ (flat (arrowsL n l)).getD (0 + (0 + 0) * 2 + 0 + 1) 0 < 7) : Exec PP T none x55.nt 0 X55.b.b.a (A55 n o l) .n (B55 n o l (flatN (clsO n l)) (clsO n l).length) := by
  refine exec_orun env9 false 60 [] [0, 1, 2, 4] (fun _ => rfl) (by kernel_rfl) (by kernel_rfl) (by kernel_rfl) ?_
  rw [(show obOf (orun g9 false 60 X55.b.b.a (A55 n o l) []) = (decide (0 < Int.ofNat (arrowsL n l).length) && (decide (2 ≤ (flat (arrowsL n l)).length) && (decide (0 ≤ (flat (arrowsL n l)).getD 0 0) && (decide ((flat (arrowsL n l)).getD 0 0 < 7) && (decide (0 ≤ (flat (arrowsL n l)).getD 1 0) && (decide ((flat (arrowsL n l)).getD 1 0 < 7) && (decide (0 ≤ Int.ofNat n) && decide (Int.ofNat n ≤ 7))))) && true && true && true))) from by kernel_rfl)]
  have := flat_len (arrowsL n l)
  simp at h0 h1
  simp [h0, h1]
  omega
abbrev C55 (n : Nat) (o l : Nat → Bool) (q : List Int) (m i : Nat) : St := mkSt (sl55 ++ [(7, lsS 3 m), (27, lsS 3 m), (28, ⟨true, I m⟩), (29, ⟨true, I i⟩)]) [R70 ff, R70 o, GL n l, IV q] 4 []
abbrev C55' (n : Nat) (o l : Nat → Bool) (q : List Int) (m i : Nat) : St := mkSt (sl55 ++ [(7, lsS 3 m), (27, lsS 3 m), (28, ⟨true, I m⟩), (29, ⟨true, I i⟩), (30, ⟨true, B (decide (Int.ofNat i < Int.ofNat m))⟩)]) [R70 ff, R70 o, GL n l, IV q] 4 []
theorem m55i {n : Nat} {o l : Nat → Bool} {q : List Int} {m : Nat} : Exec PP T none x55.nt 0 X55.b.b.b.a.a (B55 n o l q m) .n (C55 n o l q m 0) := by
  refine exec_orun env0 false 60 [] [0, 1, 2, 3] (fun _ => rfl) (by kernel_rfl) (by kernel_rfl) (by kernel_rfl) (by kernel_rfl)
theorem m55a {n : Nat} {o l : Nat → Bool} {q : List Int} {m i : Nat} : Exec PP T none x55.nt 0 M55.a (C55 n o l q m i) .n (C55' n o l q m i) := by
  refine exec_orun env0 false 60 [] [0, 1, 2, 3] (fun _ => rfl) (by kernel_rfl) (by kernel_rfl) (by kernel_rfl) (by kernel_rfl)
theorem m55b {n : Nat} {o l : Nat → Bool} {q : List Int} {m i : Nat} (hi : i < m) : Exec PP T none x55.nt 0 M55.b.a (C55' n o l q m i) .n (C55 n o l q m i) := by
  refine exec_orun env0 false 60 [true] [0, 1, 2, 3] (fun _ => rfl) (by kernel_rfl) (by kernel_rfl) (by kernel_rfl) ?_
  rw [(show obOf (orun g0 false 60 M55.b.a (C55' n o l q m i) [true]) = (decide (Int.ofNat i < Int.ofNat m) && true) from by kernel_rfl)]
  simp
  omega
theorem m55x {n : Nat} {o l : Nat → Bool} {q : List Int} {m : Nat} : Exec PP T none x55.nt 0 M55.b.a (C55' n o l q m m) (.x 2) (B55 n o l q m) := by
  refine exec_orun env0 false 60 [false] [0, 1, 2, 3] (fun _ => rfl) (by kernel_rfl) (by kernel_rfl) (by kernel_rfl) ?_
  rw [(show obOf (orun g0 false 60 M55.b.a (C55' n o l q m m) [false]) = (!decide (Int.ofNat m < Int.ofNat m) && true) from by kernel_rfl)]
  simp
theorem m55e {n : Nat} {o l : Nat → Bool} {q : List Int} {m i : Nat} (hi : i < 1000) : Exec PP T none x55.nt 0 M55.b.b.b (C55 n o l q m i) .n (C55 n o l q m (i + 1)) := by
  refine exec_orun env0 false 60 [] [0, 1, 2, 3] (fun _ => rfl) (by kernel_rfl) (by kernel_rfl) (by kernel_rfl) ?_
  rw [(show obOf (orun g0 false 60 M55.b.b.b (C55 n o l q m i) []) = (rng64 (Int.ofNat i.succ) && true) from by kernel_rfl)]
  simp [rng64]
  omega
abbrev qA (q : List Int) (i : Nat) : Int := q.getD (0 + (0 + i) * 2 + 0) 0
abbrev qB (q : List Int) (i : Nat) : Int := q.getD (0 + (0 + i) * 2 + 0 + 1) 0
theorem m55y {n : Nat} {o l : Nat → Bool} {q : List Int} {m i : Nat} (hq : q.length = m * 2) (hi : i < m) (ha : 0 ≤ qA q i ∧ qA q i < 7) (hb : 0 ≤ qB q i ∧ qB q i < 7) : Exec PP T none x55.nt 0 M55.b.b.a.i (C55 n o l q m i) .n (C55 n (relS o (qA q i) (qB q i)) l q m i) := by
  refine exec_orun env0 false 60 [] [0, 1, 2, 3] (fun _ => rfl) (by kernel_rfl) (by kernel_rfl) (by kernel_rfl) ?_
  rw [(show obOf (orun g0 false 60 M55.b.b.a.i (C55 n o l q m i) []) = (decide (0 ≤ Int.ofNat i) && decide (Int.ofNat i < Int.ofNat m) && (decide (((0 + (0 + i) * 2).add 0).succ.succ ≤ q.length) && true) && (decide (0 ≤ q.getD (0 + (0 + i) * 2 + 0) 0) && decide (q.getD (0 + (0 + i) * 2 + 0) 0 < 7) && (decide (0 ≤ q.getD ((0 + (0 + i) * 2).add 0).succ 0) && decide (q.getD ((0 + (0 + i) * 2).add 0).succ 0 < 7) && (decide (0 + (0 + (q.getD (0 + (0 + i) * 2 + 0) 0).toNat * 7 + (q.getD ((0 + (0 + i) * 2).add 0).succ 0).toNat * 1) < 49) && true && true && true)) && true)) from by kernel_rfl)]
  simp at ha hb
  simp [ha, hb]
  omega
abbrev D55 (n : Nat) (o l : Nat → Bool) (q : List Int) (m i : Nat) : St := mkSt (sl55 ++ [(40, lsS 3 m), (41, ⟨true, I m⟩), (42, ⟨true, I i⟩)]) [R70 ff, R70 o, GL n l, IV q] 4 []
abbrev D55' (n : Nat) (o l : Nat → Bool) (q : List Int) (m i : Nat) : St := mkSt (sl55 ++ [(40, lsS 3 m), (41, ⟨true, I m⟩), (42, ⟨true, I i⟩), (43, ⟨true, B (decide (Int.ofNat i < Int.ofNat m))⟩)]) [R70 ff, R70 o, GL n l, IV q] 4 []
theorem n55i {n : Nat} {o l : Nat → Bool} {q : List Int} {m : Nat} : Exec PP T none x55.nt 0 X55.b.b.b.b.a (B55 n o l q m) .n (D55 n o l q m 0) := by
  refine exec_orun env0 false 60 [] [0, 1, 2, 3] (fun _ => rfl) (by kernel_rfl) (by kernel_rfl) (by kernel_rfl) (by kernel_rfl)
theorem n55a {n : Nat} {o l : Nat → Bool} {q : List Int} {m i : Nat} : Exec PP T none x55.nt 0 N55.a (D55 n o l q m i) .n (D55' n o l q m i) := by
  refine exec_orun env0 false 60 [] [0, 1, 2, 3] (fun _ => rfl) (by kernel_rfl) (by kernel_rfl) (by kernel_rfl) (by kernel_rfl)
theorem n55b {n : Nat} {o l : Nat → Bool} {q : List Int} {m i : Nat} (hi : i < m) : Exec PP T none x55.nt 0 N55.b.a (D55' n o l q m i) .n (D55 n o l q m i) := by
  refine exec_orun env0 false 60 [true] [0, 1, 2, 3] (fun _ => rfl) (by kernel_rfl) (by kernel_rfl) (by kernel_rfl) ?_
  rw [(show obOf (orun g0 false 60 N55.b.a (D55' n o l q m i) [true]) = (decide (Int.ofNat i < Int.ofNat m) && true) from by kernel_rfl)]
  simp
  omega
theorem n55x {n : Nat} {o l : Nat → Bool} {q : List Int} {m : Nat} : Exec PP T none x55.nt 0 N55.b.a (D55' n o l q m m) (.x 4) (S55 n o l) := by
  refine exec_orun env0 false 60 [false] [0, 1, 2] (fun _ => rfl) (by kernel_rfl) (by kernel_rfl) (by kernel_rfl) ?_
  rw [(show obOf (orun g0 false 60 N55.b.a (D55' n o l q m m) [false]) = (!decide (Int.ofNat m < Int.ofNat m) && true) from by kernel_rfl)]
  simp
theorem n55e {n : Nat} {o l : Nat → Bool} {q : List Int} {m i : Nat} (hi : i < 1000) : Exec PP T none x55.nt 0 N55.b.b.b (D55 n o l q m i) .n (D55 n o l q m (i + 1)) := by
  refine exec_orun env0 false 60 [] [0, 1, 2, 3] (fun _ => rfl) (by kernel_rfl) (by kernel_rfl) (by kernel_rfl) ?_
  rw [(show obOf (orun g0 false 60 N55.b.b.b (D55 n o l q m i) []) = (rng64 (Int.ofNat i.succ) && true) from by kernel_rfl)]
  simp [rng64]
  omega
abbrev E55 (n : Nat) (o l : Nat → Bool) (q : List Int) (m i : Nat) (a b : Int) : St := mkSt (sl55 ++ [(12, g1S 4), (40, lsS 3 m), (41, ⟨true, I m⟩), (42, ⟨true, I i⟩)]) [R70 ff, R70 o, GL n l, IV q, ⟨false, .row 77 [.int .i64 a, .int .i64 b] 0 ff⟩] 5 []
theorem n55y {n : Nat} {o l : Nat → Bool} {q : List Int} {m i : Nat} (hq : q.length = m * 2) (hi : i < m) : Exec PP T none x55.nt 0 N55.b.b.a.i.a (D55 n o l q m i) .n (E55 n o l q m i (qA q i) (qB q i)) := by
  refine exec_orun env0 false 60 [] [0, 1, 2, 3, 4] (fun _ => rfl) (by kernel_rfl) (by kernel_rfl) (by kernel_rfl) ?_
  rw [(show obOf (orun g0 false 60 N55.b.b.a.i.a (D55 n o l q m i) []) = (decide (0 ≤ Int.ofNat i) && decide (Int.ofNat i < Int.ofNat m) && (decide (((0 + (0 + i) * 2).add 0).succ.succ ≤ q.length) && true)) from by kernel_rfl)]
  simp
  omega
def cutS (f : Nat → Bool) (a b : Int) : Nat → Bool := fun j => bif j.beq (1 - [(SV.int .i64 0)].length + (0 + b.toNat * 7 + a.toNat * 1)) then false else bif j.beq (1 - [(SV.int .i64 0)].length + (0 + a.toNat * 7 + b.toNat * 1)) then false else f j
theorem n55c {n : Nat} {o l : Nat → Bool} {q : List Int} {m i : Nat} {a b : Int} (ha : 0 ≤ a ∧ a < 7) (hb : 0 ≤ b ∧ b < 7) (h : at7 o b.toNat a.toNat = false) : Exec PP T none x55.nt 0 N55.b.b.a.i.b (E55 n o l q m i a b) .n (D55 n o (cutS l a b) q m i) := by
  refine exec_orun env0 false 60 [false] [0, 1, 2, 3] (fun _ => rfl) (by kernel_rfl) (by kernel_rfl) (by kernel_rfl) ?_
  rw [(show obOf (orun g0 false 60 N55.b.b.a.i.b (E55 n o l q m i a b) [false]) = (decide (0 ≤ b) && decide (b < 7) && (decide (0 ≤ a) && decide (a < 7) && (decide (0 + (0 + b.toNat * 7 + a.toNat * 1) < 49) && true)) && true && (!o (0 + (0 + b.toNat * 7 + a.toNat * 1)) && true) && (decide (0 ≤ a) && decide (a < 7) && (decide (0 ≤ b) && decide (b < 7) && (decide (0 + (0 + a.toNat * 7 + b.toNat * 1) < 49) && true && true && (decide (0 ≤ b) && decide (b < 7) && (decide (0 ≤ a) && decide (a < 7) && (decide (0 + (0 + b.toNat * 7 + a.toNat * 1) < 49) && true && true && true))))) && true)) from by kernel_rfl)]
  unfold at7 at h
  simp [h]
  omega
theorem n55r {n : Nat} {o l : Nat → Bool} {q : List Int} {m i : Nat} {a b : Int} (ha : 0 ≤ a ∧ a < 7) (hb : 0 ≤ b ∧ b < 7) (h : at7 o b.toNat a.toNat = true) : Exec PP T none x55.nt 0 N55.b.b.a.i.b (E55 n o l q m i a b) .r (mkSt [(2, g1S 0), (3, ⟨true, B false⟩)] [R70 ff] 1 []) := by
  refine exec_orun env0 false 60 [true] [0] (fun _ => rfl) (by kernel_rfl) (by kernel_rfl) (by kernel_rfl) ?_
  rw [(show obOf (orun g0 false 60 N55.b.b.a.i.b (E55 n o l q m i a b) [true]) = (decide (0 ≤ b) && decide (b < 7) && (decide (0 ≤ a) && decide (a < 7) && (decide (0 + (0 + b.toNat * 7 + a.toNat * 1) < 49) && true)) && true && (o (0 + (0 + b.toNat * 7 + a.toNat * 1)) && true)) from by kernel_rfl)]
  unfold at7 at h
  simp [h]
  omega
theorem d55 {n : Nat} {o l : Nat → Bool} : Exec PP T none x55.nt 0 x55.body.b.b.b.b (S55 n o l) .r (mkSt [(2, g1S 0), (3, ⟨true, B (transB o)⟩)] [R70 o] 1 []) := by
  refine exec_orun env9 false 60 [] [0] (fun _ => rfl) (by kernel_rfl) (by kernel_rfl) (by kernel_rfl) ?_
  rw [(show obOf (orun g9 false 60 x55.body.b.b.b.b (S55 n o l) []) = (true && true && true) from by kernel_rfl)]
  simp
theorem rng7 {x : Nat} (h : x < 7) : 0 ≤ Int.ofNat x ∧ Int.ofNat x < 7 := ⟨by simp, by simp; omega⟩
def orS (o : Nat → Bool) (L : List (Nat × Nat)) : Nat → Bool := L.foldl (fun o p => relS o (Int.ofNat p.1) (Int.ofNat p.2)) o
def cutL (l : Nat → Bool) (L : List (Nat × Nat)) : Nat → Bool := L.foldl (fun l p => cutS l (Int.ofNat p.1) (Int.ofNat p.2)) l
theorem take_succ {L : List (Nat × Nat)} {i : Nat} (hi : i < L.length) : L.take (i + 1) = L.take i ++ [L.getD i (0, 0)] := by
  rw [List.take_succ]
  simp [hi]
theorem orS_succ {o : Nat → Bool} {L : List (Nat × Nat)} {i : Nat} (hi : i < L.length) : orS o (L.take (i + 1)) = relS (orS o (L.take i)) (Int.ofNat (L.getD i (0, 0)).1) (Int.ofNat (L.getD i (0, 0)).2) := by
  unfold orS
  rw [take_succ hi, List.foldl_append]
  rfl
theorem cutL_succ {o : Nat → Bool} {L : List (Nat × Nat)} {i : Nat} (hi : i < L.length) : cutL o (L.take (i + 1)) = cutS (cutL o (L.take i)) (Int.ofNat (L.getD i (0, 0)).1) (Int.ofNat (L.getD i (0, 0)).2) := by
  unfold cutL
  rw [take_succ hi, List.foldl_append]
  rfl
theorem flatN_at {L : List (Nat × Nat)} {i : Nat} (hi : i < L.length) : qA (flatN L) i = Int.ofNat (L.getD i (0, 0)).1 ∧ qB (flatN L) i = Int.ofNat (L.getD i (0, 0)).2 := by
  have hp : L[i]? = some (L.getD i (0, 0)) := by simp [hi]
  have := flatN_get hp
  show (flatN L).getD (0 + (0 + i) * 2 + 0) 0 = _ ∧ (flatN L).getD (0 + (0 + i) * 2 + 0 + 1) 0 = _
  rw [show 0 + (0 + i) * 2 + 0 = i * 2 by omega]
  exact this
/-- an arrow of a class whose turned one is there -/
def clashA (o : Nat → Bool) (L : List (Nat × Nat)) (i : Nat) : Bool := at7 o (L.getD i (0, 0)).2 (L.getD i (0, 0)).1
theorem loopM {n : Nat} {o l : Nat → Bool} {L : List (Nat × Nat)} (hL : ∀ p ∈ L, p.1 < 7 ∧ p.2 < 7) (hl : L.length ≤ 49) : Exec PP T none x55.nt 0 X55.b.b.b.a (B55 n o l (flatN L) L.length) .n (B55 n (orS o L) l (flatN L) L.length) := by
  have e0 : orS o L = orS o (L.take L.length) := by rw [List.take_length]
  rw [e0]
  refine exec_seq (x := X55.b.b.b.a.a) (y := .block 2 (.loop M55)) m55i (exec_block (e := .x 2) ?_)
  refine exec_loop_up (fun i => C55 n (orS o (L.take i)) l (flatN L) L.length i) L.length (fun i hi => ?_) (exec_seq (x := M55.a) (y := M55.b) m55a (exec_seq_x (x := M55.b.a) (y := M55.b.b) m55x (by simp))) (by simp) 0 (by omega)
  obtain ⟨e1, e2⟩ := flatN_at hi
  have hr := hL (L.getD i (0, 0)) (by simp [hi])
  have key := m55y (n := n) (o := orS o (L.take i)) (l := l) (q := flatN L) (m := L.length) (i := i) (flatN_len L) hi (by rw [e1]; exact rng7 hr.1) (by rw [e2]; exact rng7 hr.2)
  rw [e1, e2, ← orS_succ hi] at key
  exact exec_seq (x := M55.a) (y := M55.b) m55a (exec_seq (x := M55.b.a) (y := M55.b.b) (m55b hi) (exec_seq (x := M55.b.b.a) (y := M55.b.b.b) (exec_block (id := 3) (x := M55.b.b.a.i) (e := .n) key) (m55e (by omega))))
theorem stepN {n : Nat} {o l : Nat → Bool} {L : List (Nat × Nat)} (hL : ∀ p ∈ L, p.1 < 7 ∧ p.2 < 7) (hl : L.length ≤ 49) {i : Nat} (hi : i < L.length) (h : clashA o L i = false) : Exec PP T none x55.nt 0 N55 (D55 n o (cutL l (L.take i)) (flatN L) L.length i) .n (D55 n o (cutL l (L.take (i + 1))) (flatN L) L.length (i + 1)) := by
  obtain ⟨e1, e2⟩ := flatN_at hi
  have hr := hL (L.getD i (0, 0)) (by simp [hi])
  have k1 := n55y (n := n) (o := o) (l := cutL l (L.take i)) (q := flatN L) (m := L.length) (i := i) (flatN_len L) hi
  rw [e1, e2] at k1
  have k2 := n55c (n := n) (o := o) (l := cutL l (L.take i)) (q := flatN L) (m := L.length) (i := i) (a := Int.ofNat (L.getD i (0, 0)).1) (b := Int.ofNat (L.getD i (0, 0)).2) (rng7 hr.1) (rng7 hr.2) h
  rw [← cutL_succ hi] at k2
  exact exec_seq (x := N55.a) (y := N55.b) n55a (exec_seq (x := N55.b.a) (y := N55.b.b) (n55b hi) (exec_seq (x := N55.b.b.a) (y := N55.b.b.b) (exec_block (id := 5) (x := N55.b.b.a.i) (e := .n) (exec_seq (x := N55.b.b.a.i.a) (y := N55.b.b.a.i.b) k1 k2)) (n55e (by omega))))
theorem loopN {n : Nat} {o l : Nat → Bool} {L : List (Nat × Nat)} (hL : ∀ p ∈ L, p.1 < 7 ∧ p.2 < 7) (hl : L.length ≤ 49) (h : (List.range L.length).any (clashA o L) = false) : Exec PP T none x55.nt 0 X55.b.b.b.b (B55 n o l (flatN L) L.length) .n (S55 n o (cutL l L)) := by
  have h3 := any_none _ _ h
  have e0 : cutL l L = cutL l (L.take L.length) := by rw [List.take_length]
  rw [e0]
  refine exec_seq (x := X55.b.b.b.b.a) (y := .block 4 (.loop N55)) n55i (exec_block (e := .x 4) ?_)
  exact exec_loop_up (fun i => D55 n o (cutL l (L.take i)) (flatN L) L.length i) L.length (fun i hi => stepN hL hl hi (h3 i hi)) (exec_seq (x := N55.a) (y := N55.b) n55a (exec_seq_x (x := N55.b.a) (y := N55.b.b) n55x (by simp))) (by simp) 0 (by omega)
theorem loopNr {n : Nat} {o l : Nat → Bool} {L : List (Nat × Nat)} (hL : ∀ p ∈ L, p.1 < 7 ∧ p.2 < 7) (hl : L.length ≤ 49) (h : (List.range L.length).any (clashA o L) = true) : Exec PP T none x55.nt 0 X55.b.b.b.b (B55 n o l (flatN L) L.length) .r (mkSt [(2, g1S 0), (3, ⟨true, B false⟩)] [R70 ff] 1 []) := by
  obtain ⟨p, h1, h2, h3⟩ := any_first _ _ h
  refine exec_seq (x := X55.b.b.b.b.a) (y := .block 4 (.loop N55)) n55i (exec_block (e := .r) ?_)
  refine exec_loop_up (fun i => D55 n o (cutL l (L.take i)) (flatN L) L.length i) p (fun i hi => stepN hL hl (by omega) (h3 i hi)) ?_ (by simp [XE.unblock]) 0 (by omega)
  obtain ⟨e1, e2⟩ := flatN_at h1
  have hr := hL (L.getD p (0, 0)) (by simp [h1])
  have k1 := n55y (n := n) (o := o) (l := cutL l (L.take p)) (q := flatN L) (m := L.length) (i := p) (flatN_len L) h1
  rw [e1, e2] at k1
  exact exec_seq (x := N55.a) (y := N55.b) n55a (exec_seq (x := N55.b.a) (y := N55.b.b) (n55b h1) (exec_seq_x (x := N55.b.b.a) (y := N55.b.b.b) (exec_block (id := 5) (x := N55.b.b.a.i) (e := .r) (exec_seq (x := N55.b.b.a.i.a) (y := N55.b.b.a.i.b) k1 (n55r (rng7 hr.1) (rng7 hr.2) h2))) (by simp [XE.unblock])))
end Go.Proofs.Yteekkjfjpoaihaa.Eng
namespace Go.Proofs.Yteekkjfjpoaihaa.Eng
open Go Go.Proofs
theorem mem_rowL {g : Nat → Nat → Bool} {a b : Nat} {p : Int × Int} : p ∈ rowL g a b ↔ ∃ y, y < b ∧ g a y = true ∧ p = (Int.ofNat a, Int.ofNat y) := by
  unfold rowL
  simp only [List.mem_map, List.mem_filter, List.mem_range]
  constructor
  · rintro ⟨y, ⟨h1, h2⟩, rfl⟩; exact ⟨y, h1, h2, rfl⟩
  · rintro ⟨y, h1, h2, rfl⟩; exact ⟨y, ⟨h1, h2⟩, rfl⟩
theorem mem_listL {g : Nat → Nat → Bool} {n a : Nat} {p : Int × Int} : p ∈ listL g n a ↔ ∃ x y, x < a ∧ y < n ∧ g x y = true ∧ p = (Int.ofNat x, Int.ofNat y) := by
  unfold listL
  simp only [List.mem_flatMap, List.mem_range, mem_rowL]
  constructor
  · rintro ⟨x, h0, y, h1, h2, h3⟩; exact ⟨x, y, h0, h1, h2, h3⟩
  · rintro ⟨x, y, h0, h1, h2, h3⟩; exact ⟨x, h0, y, h1, h2, h3⟩
theorem rowL_le {g g' : Nat → Nat → Bool} {a : Nat} : ∀ {b : Nat}, (∀ y, y < b → g' a y = true → g a y = true) → (rowL g' a b).length ≤ (rowL g a b).length
  | 0, _ => by simp [rowL]
  | b + 1, h => by
    have ih := rowL_le (b := b) fun y hy => h y (by omega)
    cases h1 : g' a b with
    | true =>
      rw [rowL_t h1, rowL_t (h b (by omega) h1)]
      simp
      exact ih
    | false =>
      rw [rowL_f h1]
      cases h2 : g a b with
      | true => rw [rowL_t h2]; simp; omega
      | false => rw [rowL_f h2]; exact ih
theorem rowL_lt {g g' : Nat → Nat → Bool} {a y : Nat} (hg : g a y = true) (hg' : g' a y = false) : ∀ {b : Nat}, (∀ y, y < b → g' a y = true → g a y = true) → y < b → (rowL g' a b).length < (rowL g a b).length
  | 0, _, hy => by omega
  | b + 1, h, hy => by
    by_cases e : y = b
    · subst e
      rw [rowL_f hg', rowL_t hg]
      have := rowL_le (b := y) fun z hz => h z (by omega)
      simp
      omega
    · have ih := rowL_lt hg hg' (b := b) (fun z hz => h z (by omega)) (by omega)
      cases h1 : g' a b with
      | true =>
        rw [rowL_t h1, rowL_t (h b (by omega) h1)]
        simp
        exact ih
      | false =>
        rw [rowL_f h1]
        cases h2 : g a b with
        | true => rw [rowL_t h2]; simp; omega
        | false => rw [rowL_f h2]; exact ih
theorem listL_le {g g' : Nat → Nat → Bool} {n : Nat} : ∀ {a : Nat}, (∀ x y, x < a → y < n → g' x y = true → g x y = true) → (listL g' n a).length ≤ (listL g n a).length
  | 0, _ => by simp [listL]
  | a + 1, h => by
    rw [listL_succ, listL_succ, List.length_append, List.length_append]
    have := listL_le (a := a) fun x y hx => h x y (by omega)
    have := rowL_le (a := a) (b := n) fun y hy => h a y (by omega) hy
    omega
theorem listL_lt {g g' : Nat → Nat → Bool} {n x y : Nat} (hy : y < n) (hg : g x y = true) (hg' : g' x y = false) : ∀ {a : Nat}, (∀ x y, x < a → y < n → g' x y = true → g x y = true) → x < a → (listL g' n a).length < (listL g n a).length
  | 0, _, hx => by omega
  | a + 1, h, hx => by
    rw [listL_succ, listL_succ, List.length_append, List.length_append]
    have h1 := listL_le (a := a) fun x y hx => h x y (by omega)
    have h2 := rowL_le (a := a) (b := n) fun y hy => h a y (by omega) hy
    by_cases e : x = a
    · subst e
      have := rowL_lt hg hg' (b := n) (fun y hy => h x y (by omega) hy) hy
      omega
    · have := listL_lt hy hg hg' (a := a) (fun x y hx => h x y (by omega)) (by omega)
      omega
theorem beq_pair {a b x y : Nat} : ((a, b) == (x, y)) = (Nat.beq a x && Nat.beq b y) := by
  rw [Bool.eq_iff_iff, Bool.and_eq_true, beq_iff_eq, Prod.mk.injEq]
  exact ⟨fun ⟨h1, h2⟩ => ⟨beqT h1, beqT h2⟩, fun ⟨h1, h2⟩ => ⟨Nat.eq_of_beq_eq_true h1, Nat.eq_of_beq_eq_true h2⟩⟩
theorem at7_cutS {l : Nat → Bool} {a b x y : Nat} (ha : a < 7) (hb : b < 7) (hx : x < 7) (hy : y < 7) : at7 (cutS l (Int.ofNat a) (Int.ofNat b)) x y = (at7 l x y && (!((x, y) == (a, b)) && !((y, x) == (a, b)))) := by
  unfold at7 cutS
  simp only [List.length_cons, List.length_nil, beq_pair]
  by_cases h1 : x = b ∧ y = a
  · obtain ⟨rfl, rfl⟩ := h1
    rw [beqT (by simp), cond_true, beqT (show y = y from rfl), beqT (show x = x from rfl)]
    simp
  · rw [beqF (by simp; omega), cond_false]
    by_cases h2 : x = a ∧ y = b
    · obtain ⟨rfl, rfl⟩ := h2
      rw [beqT (by simp), cond_true, beqT (show x = x from rfl), beqT (show y = y from rfl)]
      simp
    · rw [beqF (by simp; omega), cond_false]
      have e1 : (Nat.beq x a && Nat.beq y b) = false := by
        cases hh : (Nat.beq x a && Nat.beq y b) with
        | false => rfl
        | true =>
          rw [Bool.and_eq_true] at hh
          exact absurd ⟨Nat.eq_of_beq_eq_true hh.1, Nat.eq_of_beq_eq_true hh.2⟩ h2
      have e2 : (Nat.beq y a && Nat.beq x b) = false := by
        cases hh : (Nat.beq y a && Nat.beq x b) with
        | false => rfl
        | true =>
          rw [Bool.and_eq_true] at hh
          exact absurd ⟨Nat.eq_of_beq_eq_true hh.2, Nat.eq_of_beq_eq_true hh.1⟩ h1
      rw [e1, e2]
      simp
theorem at7_cutL : ∀ {L : List (Nat × Nat)} {l : Nat → Bool}, (∀ p ∈ L, p.1 < 7 ∧ p.2 < 7) → ∀ {x y : Nat}, x < 7 → y < 7 → at7 (cutL l L) x y = (at7 l x y && (!(L.contains (x, y)) && !(L.contains (y, x))))
  | [], l, _, x, y, hx, hy => by simp [cutL]
  | (a, b) :: L, l, h, x, y, hx, hy => by
    have hp := h (a, b) (by simp)
    show at7 (cutL (cutS l (Int.ofNat a) (Int.ofNat b)) L) x y = _
    rw [at7_cutL (fun p hp => h p (by simp [hp])) hx hy, at7_cutS hp.1 hp.2 hx hy, List.contains_cons, List.contains_cons]
    cases at7 l x y <;> cases (x, y) == (a, b) <;> cases (y, x) == (a, b) <;> cases L.contains (x, y) <;> cases L.contains (y, x) <;> rfl
theorem at7_relS7 {o : Nat → Bool} {a b x y : Nat} (ha : a < 7) (hb : b < 7) (hx : x < 7) (hy : y < 7) : at7 (relS o (Int.ofNat a) (Int.ofNat b)) x y = (at7 o x y || ((x, y) == (a, b))) := by
  rw [at7_relS (rng7 ha) (rng7 hb) hx hy]
  congr 1
  rw [beq_pair, Bool.eq_iff_iff]
  simp
  omega
theorem at7_orS : ∀ {L : List (Nat × Nat)} {o : Nat → Bool}, (∀ p ∈ L, p.1 < 7 ∧ p.2 < 7) → ∀ {x y : Nat}, x < 7 → y < 7 → at7 (orS o L) x y = (at7 o x y || L.contains (x, y))
  | [], o, _, x, y, hx, hy => by simp [orS]
  | (a, b) :: L, o, h, x, y, hx, hy => by
    have hp := h (a, b) (by simp)
    show at7 (orS (relS o (Int.ofNat a) (Int.ofNat b)) L) x y = _
    rw [at7_orS (fun p hp => h p (by simp [hp])) hx hy, at7_relS7 hp.1 hp.2 hx hy, List.contains_cons]
    cases at7 o x y <;> cases (x, y) == (a, b) <;> cases L.contains (x, y) <;> rfl
/-- the class holds its arrow -/
theorem pushL_mem {l : List (Nat × Nat)} {p q : Nat × Nat} (h : q ∈ l) : q ∈ pushL l p := by
  unfold pushL
  cases l.contains p with
  | true => exact h
  | false => exact List.mem_append.2 (.inl h)
theorem stepL_mem {f : Nat → Bool} {a b c : Nat} {l : List (Nat × Nat)} {q : Nat × Nat} (h : q ∈ l) : q ∈ stepL f a b c l := by
  unfold stepL
  cases cnd1 f a b c <;> cases cnd2 f a b c
  · exact h
  · exact pushL_mem h
  · exact pushL_mem h
  · exact pushL_mem (pushL_mem h)
theorem forcedL_mem {f : Nat → Bool} {a b : Nat} {l : List (Nat × Nat)} {q : Nat × Nat} (h : q ∈ l) : ∀ c, q ∈ forcedL f a b l c
  | 0 => pushL_mem h
  | c + 1 => stepL_mem (forcedL_mem h c)
theorem lstI_mem {n : Nat} {f : Nat → Bool} {a b : Nat} : ∀ i, (a, b) ∈ lstI n f a b i
  | 0 => by simp [lstI]
  | i + 1 => forcedL_mem (lstI_mem i) n
theorem rchL_mem {n : Nat} {f : Nat → Bool} {a b : Nat} : (a, b) ∈ rchL n f a b := lstI_mem _
/-- the first arrow -/
theorem fst_spec {n : Nat} {l : Nat → Bool} (h : ¬ (arrowsL n l).length = 0) : (flat (arrowsL n l)).getD (0 + (0 + 0) * 2 + 0) 0 = Int.ofNat (fstX n l) ∧ (flat (arrowsL n l)).getD (0 + (0 + 0) * 2 + 0 + 1) 0 = Int.ofNat (fstY n l) ∧ fstX n l < n ∧ fstY n l < n ∧ at7 l (fstX n l) (fstY n l) = true := by
  cases hl : arrowsL n l with
  | nil => rw [hl] at h; exact absurd rfl h
  | cons p r =>
    have hm : p ∈ arrowsL n l := by rw [hl]; simp
    obtain ⟨x, y, hx, hy, hg, rfl⟩ := mem_listL.1 hm
    have e1 : (flat (arrowsL n l)).getD (0 + (0 + 0) * 2 + 0) 0 = Int.ofNat x := by rw [hl]; rfl
    have e2 : (flat (arrowsL n l)).getD (0 + (0 + 0) * 2 + 0 + 1) 0 = Int.ofNat y := by rw [hl]; rfl
    have f1 : fstX n l = x := by unfold fstX; rw [e1]; rfl
    have f2 : fstY n l = y := by unfold fstY; rw [e2]; rfl
    rw [← hl, e1, e2, f1, f2]
    exact ⟨rfl, rfl, hx, hy, hg⟩
theorem cls_ok {n : Nat} {l : Nat → Bool} (hn : n ≤ 7) (h : ¬ (arrowsL n l).length = 0) : Inv (rchS n l (fstX n l) (fstY n l)) (clsO n l) := by
  obtain ⟨_, _, h1, h2, _⟩ := fst_spec h
  exact rch_inv (by omega) (by omega) hn
theorem cls_len {n : Nat} {l : Nat → Bool} (hn : n ≤ 7) (h : ¬ (arrowsL n l).length = 0) : (clsO n l).length ≤ 49 := by
  have := (cls_ok hn h).short
  rw [(cls_ok hn h).m] at this
  exact this
theorem less_arrows {n : Nat} {l : Nat → Bool} (hn : n ≤ 7) (h : ¬ (arrowsL n l).length = 0) : (arrowsL n (cutL l (clsO n l))).length < (arrowsL n l).length := by
  obtain ⟨_, _, h1, h2, h3⟩ := fst_spec h
  have hr := (cls_ok hn h).rng
  refine listL_lt (x := fstX n l) (y := fstY n l) h2 h3 ?_ (fun x y hx hy hg => ?_) h1
  · show at7 (cutL l (clsO n l)) (fstX n l) (fstY n l) = false
    have hm : (clsO n l).contains (fstX n l, fstY n l) = true := List.contains_iff_mem.2 rchL_mem
    rw [at7_cutL hr (by omega) (by omega), hm]
    simp
  · have hg : at7 (cutL l (clsO n l)) x y = true := hg
    rw [at7_cutL hr (by omega) (by omega), Bool.and_eq_true] at hg
    exact hg.1
def og (n : Nat) (f : Nat → Bool) : Nat → (Nat → Bool) × (Nat → Bool)
  | 0 => (ff, f)
  | i + 1 => (orS (og n f i).1 (clsO n (og n f i).2), cutL (og n f i).2 (clsO n (og n f i).2))
def emptyAt (n : Nat) (f : Nat → Bool) (i : Nat) : Bool := Nat.beq (arrowsL n (og n f i).2).length 0
def failAt (n : Nat) (f : Nat → Bool) (i : Nat) : Bool := (List.range (clsO n (og n f i).2).length).any (clashA (orS (og n f i).1 (clsO n (og n f i).2)) (clsO n (og n f i).2))
def endAt (n : Nat) (f : Nat → Bool) (i : Nat) : Bool := emptyAt n f i || failAt n f i
def stopG (n : Nat) (f : Nat → Bool) : Nat := ((List.range 50).find? (endAt n f)).getD 50
theorem og_len {n : Nat} {f : Nat → Bool} (hn : n ≤ 7) : ∀ i, (∀ j, j < i → emptyAt n f j = false) → (arrowsL n (og n f i).2).length + i ≤ 49
  | 0, _ => by
    have := listL_len (gg53 n (og n f 0).2) n n
    have : n * n ≤ 7 * 7 := Nat.mul_le_mul hn hn
    show (listL _ n n).length + 0 ≤ 49
    omega
  | i + 1, h => by
    have ih := og_len hn i fun j hj => h j (by omega)
    have he : ¬ (arrowsL n (og n f i).2).length = 0 := fun e => by
      have := h i (by omega)
      unfold emptyAt at this
      rw [beqT e] at this; cases this
    have := less_arrows hn he
    show (arrowsL n (cutL _ _)).length + (i + 1) ≤ 49
    omega
theorem stopG_spec {n : Nat} {f : Nat → Bool} (hn : n ≤ 7) : endAt n f (stopG n f) = true ∧ ∀ j, j < stopG n f → endAt n f j = false := by
  unfold stopG
  cases hf : (List.range 50).find? (endAt n f) with
  | none =>
    have h := List.find?_range_eq_none.1 hf
    have h2 : ∀ j, j < 50 → emptyAt n f j = false := fun j hj => by
      have := h j hj
      simp [endAt] at this
      exact this.1
    have := og_len (f := f) hn 50 h2
    omega
  | some i =>
    obtain ⟨h1, h2, h3⟩ := List.find?_range_eq_some.1 hf
    exact ⟨h1, fun j hj => by simpa using h3 j hj⟩
theorem step55 {n : Nat} {o l : Nat → Bool} (hn : n ≤ 7) (h : ¬ (arrowsL n l).length = 0) (hc : (List.range (clsO n l).length).any (clashA (orS o (clsO n l)) (clsO n l)) = false) : Exec PP T none x55.nt 0 (.block 1 X55) (S55 n o l) .n (S55 n (orS o (clsO n l)) (cutL l (clsO n l))) := by
  obtain ⟨e1, e2, h1, h2, _⟩ := fst_spec h
  have hr := (cls_ok hn h).rng
  have hl := cls_len hn h
  refine exec_block (id := 1) (x := X55) (e := .n) (exec_seq (x := X55.a) (y := X55.b) (r55a hn) (exec_seq (x := X55.b.a) (y := X55.b.b) (r55b h) (exec_seq (x := X55.b.b.a) (y := X55.b.b.b) (r55c hn h (by rw [e1]; exact rng7 (by omega)) (by rw [e2]; exact rng7 (by omega))) (exec_seq (x := X55.b.b.b.a) (y := X55.b.b.b.b) (loopM hr hl) (loopN hr hl hc)))))
theorem step55r {n : Nat} {o l : Nat → Bool} (hn : n ≤ 7) (h : ¬ (arrowsL n l).length = 0) (hc : (List.range (clsO n l).length).any (clashA (orS o (clsO n l)) (clsO n l)) = true) : Exec PP T none x55.nt 0 (.block 1 X55) (S55 n o l) .r (mkSt [(2, g1S 0), (3, ⟨true, B false⟩)] [R70 ff] 1 []) := by
  obtain ⟨e1, e2, h1, h2, _⟩ := fst_spec h
  have hr := (cls_ok hn h).rng
  have hl := cls_len hn h
  refine exec_block (id := 1) (x := X55) (e := .r) (exec_seq (x := X55.a) (y := X55.b) (r55a hn) (exec_seq (x := X55.b.a) (y := X55.b.b) (r55b h) (exec_seq (x := X55.b.b.a) (y := X55.b.b.b) (r55c hn h (by rw [e1]; exact rng7 (by omega)) (by rw [e2]; exact rng7 (by omega))) (exec_seq (x := X55.b.b.b.a) (y := X55.b.b.b.b) (loopM hr hl) (loopNr hr hl hc)))))
theorem step55x {n : Nat} {o l : Nat → Bool} (hn : n ≤ 7) (h : (arrowsL n l).length = 0) : Exec PP T none x55.nt 0 (.block 1 X55) (S55 n o l) (.x 0) (S55 n o l) :=
  exec_block (id := 1) (x := X55) (e := .x 0) (exec_seq (x := X55.a) (y := X55.b) (r55a hn) (exec_seq_x (x := X55.b.a) (y := X55.b.b) (r55x h) (by simp)))
/-- what orient answers -/
def oriOk (n : Nat) (f : Nat → Bool) : Bool := emptyAt n f (stopG n f) && transB (og n f (stopG n f)).1
def oriR (n : Nat) (f : Nat → Bool) : Nat → Bool := bif emptyAt n f (stopG n f) then (og n f (stopG n f)).1 else ff
theorem body55 {n : Nat} {f : Nat → Bool} (hn : n ≤ 7) : Exec PP T none x55.nt 0 x55.body (startSt [.s (.ptr 0 0 0)] [RG n f]) .r (mkSt [(2, g1S 0), (3, ⟨true, B (oriOk n f)⟩)] [R70 (oriR n f)] 1 []) := by
  obtain ⟨h1, h2⟩ := stopG_spec (f := f) hn
  have hloop : ∀ {e : XE} {S' : St}, Exec PP T none x55.nt 0 (.block 1 X55) (S55 n (og n f (stopG n f)).1 (og n f (stopG n f)).2) e S' → e ≠ .n → Exec PP T none x55.nt 0 (.loop (.block 1 X55)) (S55 n ff f) e S' := fun hx he =>
    exec_loop_up (fun i => S55 n (og n f i).1 (og n f i).2) (stopG n f) (fun i hi => by
      have := h2 i hi
      unfold endAt at this
      rw [Bool.or_eq_false_iff] at this
      refine step55 hn (fun e => ?_) this.2
      have h := this.1
      unfold emptyAt at h
      rw [beqT e] at h; cases h) hx he 0 (by omega)
  refine exec_seq (x := x55.body.a) (y := x55.body.b) a55 (exec_seq (x := x55.body.b.a) (y := x55.body.b.b) b55 (exec_seq (x := x55.body.b.b.a) (y := x55.body.b.b.b) cc55 ?_))
  unfold oriOk oriR
  cases he : emptyAt n f (stopG n f) with
  | true =>
    rw [Bool.true_and, cond_true]
    have h0 : (arrowsL n (og n f (stopG n f)).2).length = 0 := Nat.eq_of_beq_eq_true he
    exact exec_seq (x := x55.body.b.b.b.a) (y := x55.body.b.b.b.b) (exec_block (id := 0) (x := .loop (.block 1 X55)) (e := .x 0) (hloop (step55x hn h0) (by simp))) (d55 (n := n) (l := (og n f (stopG n f)).2))
  | false =>
    rw [Bool.false_and, cond_false]
    have hf : failAt n f (stopG n f) = true := by
      unfold endAt at h1
      rw [he, Bool.false_or] at h1
      exact h1
    have h0 : ¬ (arrowsL n (og n f (stopG n f)).2).length = 0 := fun e => by
      unfold emptyAt at he
      rw [beqT e] at he; cases he
    exact exec_seq_x (x := x55.body.b.b.b.a) (y := x55.body.b.b.b.b) (exec_block (id := 0) (x := .loop (.block 1 X55)) (e := .r) (hloop (step55r hn h0 hf) (by simp))) (by simp [XE.unblock])
def gOrient (args : List AV) (h : Nat → Option HO) : Option (Bool × TV × List Nat) := match args with
  | [.s (.ptr g 0 0)] => match h g with
    | some ⟨_, .row 115 [.int .i64 n] 49 f⟩ => some (decide (0 ≤ n) && decide (n ≤ 7), .tup [.pb [] 49 (oriR n.toNat f), .s (.bool (oriOk n.toNat f))], [g])
    | _ => none
  | _ => none
theorem gOrient_fp : PureFp gOrient := by
  intro args h h' q hg hf
  unfold gOrient at hg ⊢
  split at hg
  case h_2 => cases hg
  split at hg
  case h_2 => cases hg
  rename_i hgg
  cases hg
  simp only [hf _ (List.mem_singleton.2 rfl), hgg]
theorem ok55 : SpecOK PP (compC T) 55 (pureS gOrient) := by
  refine spec_pure tokP o55 fun ctx m h w args vals u rd base hH hargs hg => ?_
  unfold gOrient at hg
  split at hg
  case h_2 => cases hg
  rename_i g
  split at hg
  case h_2 => cases hg
  rename_i ro n f hgg
  simp only [Option.some.injEq, Prod.mk.injEq, Bool.and_eq_true, decide_eq_true_eq] at hg
  obtain ⟨⟨h4, h5⟩, rfl, rfl⟩ := hg
  obtain ⟨n, rfl⟩ : ∃ k : Nat, n = Int.ofNat k := ⟨n.toNat, by simp; omega⟩
  match vals, hargs with
  | [v1], ⟨ha1, _⟩ =>
    obtain ⟨mb, k1, k2, k3⟩ := view_row hH ha1 hgg (eqB_refl 49 f)
    exact ⟨mm1 mb, [RG n f], [.s (.ptr 0 0 0)], shown_valH (hs' := [R70 (oriR n f)]) (ro1 k1 k2) ⟨k3 (mm1 mb) 0 rfl, trivial⟩ (by kernel_rfl) (body55 (by simp at h5; omega)) (fun _ => rfl) (by kernel_rfl) (by kernel_rfl)⟩
end Go.Proofs.Yteekkjfjpoaihaa.Eng
namespace Go.Proofs.Yteekkjfjpoaihaa.Eng
open Go Go.Proofs
/-- a function of an int and a slice of pairs that makes one list of ints, two a pair -/
def intPairsL (c : Int → List Int → Nat → Bool) (v : Int → List Int → Nat → TV) (ty : TypeId) (o : Int → List Int → Nat → List Int) : Spec where
  run := fun args h base => match args with
    | [.s (.int .i64 n), s] => match srcOf (.av s) h .i64 2 with
      | some (vc, q, m, rd) => some ⟨vc && (bndL m && c n q m), (v n q m).ren (renN [0] base), [], [⟨false, .ivec ty .i64 2 (o n q m)⟩], some rd⟩
      | none => none
    | _ => none
theorem intPairsL_fp {c : Int → List Int → Nat → Bool} {v : Int → List Int → Nat → TV} {ty : TypeId} {o : Int → List Int → Nat → List Int} : SpecFp (intPairsL c v ty o) := by
  intro args h h' base e hr hf
  simp only [intPairsL] at hr ⊢
  split at hr
  · split at hr
    · rename_i hs
      cases hr
      simp only [srcOf_fp hs hf]
    · cases hr
  · cases hr
theorem intPairsL_ok {f : FuncId} {x : XFn} (hx : FunOK PP T f x) {c : Int → List Int → Nat → Bool} {v : Int → List Int → Nat → TV} {ty : TypeId} {o : Int → List Int → Nat → List Int} (t : Int → List Int → Nat → List (Nat × Slot)) (hlen : Nat.ble 2 x.nt = true)
    (hb : ∀ n q m, q.length = m * 2 → m ≤ 1000000000 → c n q m = true → Exec PP T none x.nt 0 x.body (startSt (A40 n m) (H1 q)) .r (mkSt (t n q m) [⟨false, .ivec ty .i64 2 (o n q m)⟩] 1 []))
    (hres : ∀ n q m, resV (mkSt (t n q m) [⟨false, .ivec ty .i64 2 (o n q m)⟩] 1 []).sl.get (mkSt (t n q m) [⟨false, .ivec ty .i64 2 (o n q m)⟩] 1 []).hp.get x.res = some (true, v n q m)) (hids : ∀ n q m, (v n q m).ids.all (Nat.beq 0) = true) : SpecOK PP (compC T) f (intPairsL c v ty o) := by
  refine spec_gen tokP hx fun ctx m h w args vals base e hH hargs hr hvc => ?_
  simp only [intPairsL] at hr
  split at hr
  · rename_i n s
    split at hr
    · rename_i vc q m' rd hs
      cases hr
      simp only [Bool.and_eq_true] at hvc
      obtain ⟨rfl, hm, he⟩ := hvc
      match vals, hargs with
      | [v1, v2], ⟨ha1, ha2, _⟩ =>
        obtain ⟨mb, k1, k2, k3, k4⟩ := view_slice hH ha2 hs
        exact ⟨rfl, mm1 mb, H1 q, A40 n m', shown_new (tv := v n q m') (o := .ivec ty .i64 2 (o n q m')) (ro1 k1 k2) ⟨ha1, k3 (mm1 mb) 0 rfl, trivial⟩ hlen (hb n q m' k4 (by simpa [bndL] using hm) he) (fun _ => rfl) (hres n q m') (hids n q m') rfl rfl rfl (fun _ => rfl)⟩
    · cases hr
  · cases hr
theorem err0_rng {n : Int} {q : List Int} {m : Nat} (h : err0 n q m = true) : 0 ≤ n ∧ n ≤ 7 := by
  unfold err0 checkP at h
  cases h1 : (decide (n < 1) || decide (n > 7)) with
  | true => rw [h1] at h; cases h
  | false => simp at h1; omega
def L10 : List (Nat × Spec) := [(48, spOpen), (55, pureS gOrient), (56, spTold)]
theorem L10_ok : SpecsL L10 := specsL_cons ok48 spOpen_fp o48 (specsL_cons ok55 (pureS_fp gOrient_fp) o55 (specsL_cons ok56 spTold_fp o56 (fun p hp => absurd hp (by simp))))
noncomputable abbrev g10 : Cal → Option Spec := specsΓ L10
theorem env10 : EnvOK PP T g10 := envL L10_ok
def oriY (n : Int) (q : List Int) (m : Nat) : Bool := err0 n q m && oriOk n.toNat (nearF q m)
def oriN (n : Int) (q : List Int) (m : Nat) : Bool := err0 n q m && !(oriOk n.toNat (nearF q m))
def oriL (n : Int) (q : List Int) (m : Nat) : List (Int × Int) := toldL (oriR n.toNat (nearF q m))
theorem y10 {n : Int} {q : List Int} {m : Nat} (hq : q.length = m * 2) (hm : m ≤ 1000000000) (hc : oriY n q m = true) : Exec PP T none x10.nt 0 x10.body (startSt (A40 n m) (H1 q)) .r (mkSt [(4, lsS 0 (oriL n q m).length), (5, ⟨true, B true⟩), (6, ⟨true, I 0⟩)] [⟨false, .ivec 38 .i64 2 (flat (oriL n q m))⟩] 1 []) := by
  unfold oriY at hc
  rw [Bool.and_eq_true] at hc
  obtain ⟨h0, h7⟩ := err0_rng hc.1
  have key : Exec PP T none x10.nt 0 x10.body (startSt (A40 n m) (H1 q)) .r (mkSt [(4, lsS 0 (oriL n (List.take (m * 2) (List.drop 0 q)) m).length), (5, ⟨true, B true⟩), (6, ⟨true, I 0⟩)] [⟨false, .ivec 38 .i64 2 (flat (oriL n (List.take (m * 2) (List.drop 0 q)) m))⟩] 1 []) := by
    refine exec_orun env10 false 90 [false, false] [18] (fun _ => rfl) (by kernel_rfl) (by kernel_rfl) (by kernel_rfl) ?_
    rw [(show obOf (orun g10 false 90 x10.body (startSt (A40 n m) (H1 q)) [false, false]) = (decide ((0 + m) * 2 ≤ q.length) && (decide (m ≤ 1000000000) && checkP n (List.take (m * 2) q) m == 0) && true && true && true && (decide (0 ≤ n) && decide (n ≤ 7) && true && (!!oriOk n.toNat (nearF (List.take (m * 2) q) m) && true && true))) from by kernel_rfl)]
    try rw [tk0 hq]
    have h1 := hc.1
    simp only [err0] at h1
    simp at h1
    simp [hq, hm, h1, h0, h7, hc.2]
  rw [tk hq] at key
  exact key
theorem n10 {n : Int} {q : List Int} {m : Nat} (hq : q.length = m * 2) (hm : m ≤ 1000000000) (hc : oriN n q m = true) : Exec PP T none x10.nt 0 x10.body (startSt (A40 n m) (H1 q)) .r (mkSt [(4, ⟨true, .av (.s .nils)⟩), (5, ⟨true, B false⟩), (6, ⟨true, I 0⟩)] [] 0 []) := by
  unfold oriN at hc
  rw [Bool.and_eq_true] at hc
  obtain ⟨h0, h7⟩ := err0_rng hc.1
  refine exec_orun env10 false 90 [false, true] [] (fun _ => rfl) (by kernel_rfl) (by kernel_rfl) (by kernel_rfl) ?_
  rw [(show obOf (orun g10 false 90 x10.body (startSt (A40 n m) (H1 q)) [false, true]) = (decide ((0 + m) * 2 ≤ q.length) && (decide (m ≤ 1000000000) && checkP n (List.take (m * 2) q) m == 0) && true && true && true && (decide (0 ≤ n) && decide (n ≤ 7) && true && (!oriOk n.toNat (nearF (List.take (m * 2) q) m) && true))) from by kernel_rfl)]
  try rw [tk0 hq]
  have h1 := hc.1
  simp only [err0] at h1
  simp at h1
  have h2 := hc.2
  simp at h2
  simp [hq, hm, h1, h0, h7, h2]
noncomputable abbrev sp10Y : Spec := intPairsL oriY (fun n q m => .tup [.s (.sl 0 0 2 (oriL n q m).length), .s (.bool true), .s (.int .i64 0)]) 38 fun n q m => flat (oriL n q m)
theorem ok10Y : SpecOK PP (compC T) 10 sp10Y := intPairsL_ok o10 (fun n q m => [(4, lsS 0 (oriL n q m).length), (5, ⟨true, B true⟩), (6, ⟨true, I 0⟩)]) (by kernel_rfl) (fun n q m hq hm hc => y10 hq hm hc) (fun n q m => by kernel_rfl) (fun n q m => by kernel_rfl)
theorem ok10N : SpecOK PP (compC T) 10 (pureS (intPairsX 0 oriN fun _ _ _ => .tup [.s .nils, .s (.bool false), .s (.int .i64 0)])) :=
  intPairsX_ok o10 0 oriN (fun n q m => [(4, ⟨true, .av (.s .nils)⟩), (5, ⟨true, B false⟩), (6, ⟨true, I 0⟩)]) _ (by kernel_rfl) (fun n q m hq hm hc => n10 hq hm hc) (fun n q m => by kernel_rfl) (fun n q m => by kernel_rfl)
def L12 : List (Nat × Spec) := [(60, pureS gNone), (61, pureS (gRel fun f => .av (.pb [] 49 (turnR f)))), (56, spTold)]
theorem L12_ok : SpecsL L12 := specsL_cons ok60 (pureS_fp gNone_fp) o60 (specsL_cons ok61 (pureS_fp (gRel_fp _)) o61 (specsL_cons ok56 spTold_fp o56 (fun p hp => absurd hp (by simp))))
noncomputable abbrev g12 : Cal → Option Spec := specsΓ L12
theorem env12 : EnvOK PP T g12 := envL L12_ok
theorem y12 {n : Int} {q : List Int} {m : Nat} {f : Nat → Bool} (h : eqB 49 f ff = false) : Exec PP T none x12.nt 0 x12.body.b.b (M12 n q m f 0) .r (mkSt [(4, lsS 0 (toldL (turnR f)).length), (5, ⟨true, I 0⟩)] [⟨false, .ivec 38 .i64 2 (flat (toldL (turnR f)))⟩] 1 []) := by
  refine exec_orun env12 false 90 [false] [18] (fun _ => rfl) (by kernel_rfl) (by kernel_rfl) (by kernel_rfl) ?_
  rw [(show obOf (orun g12 false 90 x12.body.b.b (M12 n q m f 0) [false]) = (true && true && ((!false != eqB 49 f fun x => false) && true) && true) from by kernel_rfl)]
  have h' : (eqB 49 f fun _ => false) = false := h
  simp [h']
theorem n12 {n : Int} {q : List Int} {m : Nat} {f : Nat → Bool} (h : eqB 49 f ff = true) : Exec PP T none x12.nt 0 x12.body.b.b (M12 n q m f 0) .r (mkSt [(4, ⟨true, .av (.s .nils)⟩), (5, ⟨true, I 0⟩)] [] 0 []) := by
  refine exec_orun env12 false 90 [true] [] (fun _ => rfl) (by kernel_rfl) (by kernel_rfl) (by kernel_rfl) ?_
  rw [(show obOf (orun g12 false 90 x12.body.b.b (M12 n q m f 0) [true]) = (true && true && ((false != eqB 49 f fun x => false) && true)) from by kernel_rfl)]
  have h' : (eqB 49 f fun _ => false) = true := h
  simp [h']
def turY (n : Int) (q : List Int) (m : Nat) : Bool := orderE n q m == 0 && !(eqB 49 (orderF n q m) ff)
def turN (n : Int) (q : List Int) (m : Nat) : Bool := orderE n q m == 0 && eqB 49 (orderF n q m) ff
def turL (n : Int) (q : List Int) (m : Nat) : List (Int × Int) := toldL (turnR (orderF n q m))
noncomputable abbrev sp12Y : Spec := intPairsL turY (fun n q m => .tup [.s (.sl 0 0 2 (turL n q m).length), .s (.int .i64 0)]) 38 fun n q m => flat (turL n q m)
theorem ok12Y : SpecOK PP (compC T) 12 sp12Y := intPairsL_ok o12 (fun n q m => [(4, lsS 0 (turL n q m).length), (5, ⟨true, I 0⟩)]) (by kernel_rfl) (fun n q m hq hm hc => (by
    unfold turY at hc
    simp only [Bool.and_eq_true, beq_iff_eq, Bool.not_eq_true'] at hc
    have hb := b12 (n := n) hq hm
    rw [hc.1] at hb
    exact exec_seq (x := x12.body.a) (y := x12.body.b) a12 (exec_seq (x := x12.body.b.a) (y := x12.body.b.b) hb (y12 hc.2)))) (fun n q m => by kernel_rfl) (fun n q m => by kernel_rfl)
theorem ok12N : SpecOK PP (compC T) 12 (pureS (intPairsX 0 turN fun _ _ _ => .tup [.s .nils, .s (.int .i64 0)])) :=
  intPairsX_ok o12 0 turN (fun n q m => [(4, ⟨true, .av (.s .nils)⟩), (5, ⟨true, I 0⟩)]) _ (by kernel_rfl) (fun n q m hq hm hc => (by
    unfold turN at hc
    simp only [Bool.and_eq_true, beq_iff_eq] at hc
    have hb := b12 (n := n) hq hm
    rw [hc.1] at hb
    exact exec_seq (x := x12.body.a) (y := x12.body.b) a12 (exec_seq (x := x12.body.b.a) (y := x12.body.b.b) hb (n12 hc.2)))) (fun n q m => by kernel_rfl) (fun n q m => by kernel_rfl)
end Go.Proofs.Yteekkjfjpoaihaa.Eng
namespace Go.Proofs.Yteekkjfjpoaihaa.Eng
open Go Go.Proofs
def L7 : XC := x7.body.b.b.b.a.b.i.i
def M7 : XC := L7.b.a.i.b.i.i
def K7 : XC := M7.b.a.i.b.i.i
abbrev sl7 (n m k : Nat) : List (Nat × Slot) := [(0, ⟨true, I n⟩), (1, sl0 m), (8, lsS 1 k)]
abbrev G7 (q l : List Int) : List HO := [⟨true, .xvec .i64 2 q⟩, ⟨false, .ivec 38 .i64 2 l⟩]
abbrev S7 (n : Nat) (q : List Int) (m : Nat) (l : List Int) (k a : Nat) : St := mkSt (sl7 n m k ++ [(9, ⟨true, I a⟩)]) (G7 q l) 2 []
abbrev U7 (n : Nat) (q : List Int) (m : Nat) (l : List Int) (k a b : Nat) : St := mkSt (sl7 n m k ++ [(9, ⟨true, I a⟩), (10, ⟨true, I b⟩)]) (G7 q l) 2 []
abbrev V7 (n : Nat) (q : List Int) (m : Nat) (l : List Int) (k a b i : Nat) : St := mkSt (sl7 n m k ++ [(9, ⟨true, I a⟩), (10, ⟨true, I b⟩), (11, ⟨true, I i⟩)]) (G7 q l) 2 []
abbrev W7 (n : Nat) (q : List Int) (m : Nat) (l : List Int) (k a b i : Nat) (c d : Int) : St := mkSt (sl7 n m k ++ [(9, ⟨true, I a⟩), (10, ⟨true, I b⟩), (11, ⟨true, I i⟩), (12, ⟨true, I c⟩), (13, ⟨true, I d⟩)]) (G7 q l) 2 []
/-- a remainder as the program takes it -/
def umod (x k : Int) : Int := IntKind.i64.wrap ((IntKind.u64.wrap x).tmod (IntKind.u64.wrap k))
theorem umod_rng (x : Int) {k : Nat} (h : 0 < k) (h7 : k ≤ 7) : 0 ≤ umod x (Int.ofNat k) ∧ umod x (Int.ofNat k) < Int.ofNat k := by
  have e1 : IntKind.u64.wrap (Int.ofNat k) = Int.ofNat k := by
    simp only [IntKind.wrap, IntKind.signed, IntKind.bits, Bool.false_and, Bool.false_eq_true, if_false, Int.ofNat_eq_natCast]
    omega
  have e2 : 0 ≤ IntKind.u64.wrap x := by
    simp only [IntKind.wrap, IntKind.signed, IntKind.bits, Bool.false_and, Bool.false_eq_true, if_false]
    omega
  have e3 : 0 ≤ (IntKind.u64.wrap x).tmod (Int.ofNat k) := Int.tmod_nonneg _ e2
  have e4 : (IntKind.u64.wrap x).tmod (Int.ofNat k) < Int.ofNat k := Int.tmod_lt_of_pos _ (by simp; omega)
  have e5 : umod x (Int.ofNat k) = (IntKind.u64.wrap x).tmod (Int.ofNat k) := by
    unfold umod
    rw [e1]
    generalize (IntKind.u64.wrap x).tmod (Int.ofNat k) = y at e3 e4
    have : y < 7 := by
      have : Int.ofNat k ≤ 7 := by simp; omega
      omega
    have hy : y % 2 ^ 64 = y := by omega
    simp only [IntKind.wrap, IntKind.signed, IntKind.bits, hy]
    rw [if_neg (by simp; omega)]
  rw [e5]
  exact ⟨e3, e4⟩
/-- how many nodes tame leaves -/
def tamN (n : Int) (k : Nat) : Nat := (1 + umod n (Int.ofNat k)).toNat
theorem tamN_eq (n : Int) {k : Nat} (h : 0 < k) (h7 : k ≤ 7) : 1 + umod n (Int.ofNat k) = Int.ofNat (tamN n k) ∧ 1 ≤ tamN n k ∧ tamN n k ≤ k := by
  have := umod_rng n h h7
  unfold tamN
  simp only [Int.ofNat_eq_natCast] at this ⊢
  omega
theorem a7 {n : Int} {q : List Int} {m k : Nat} : Exec PP T none x7.nt 0 x7.body.a (startSt [.s (.int .i64 n), .s (.sl 0 0 2 m), .s (.int .i64 (Int.ofNat k))] (H1 q)) .n (mkSt [(0, ⟨true, I n⟩), (1, sl0 m), (2, ⟨true, I (Int.ofNat k)⟩)] (H1 q) 1 []) := by
  refine exec_orun env0 false 60 [] [0] (fun _ => rfl) (by kernel_rfl) (by kernel_rfl) (by kernel_rfl) (by kernel_rfl)
theorem u7 {n : Int} {q : List Int} {m k : Nat} (h : 0 < k) (h7 : k ≤ 7) : Exec PP T none x7.nt 0 x7.body.b.a (mkSt [(0, ⟨true, I n⟩), (1, sl0 m), (2, ⟨true, I (Int.ofNat k)⟩)] (H1 q) 1 []) .n (mkSt [(0, ⟨true, I (tamN n k)⟩), (1, sl0 m)] (H1 q) 1 []) := by
  obtain ⟨e, h1, h2⟩ := tamN_eq n h h7
  have key : Exec PP T none x7.nt 0 x7.body.b.a (mkSt [(0, ⟨true, I n⟩), (1, sl0 m), (2, ⟨true, I (Int.ofNat k)⟩)] (H1 q) 1 []) .n (mkSt [(0, ⟨true, I (1 + umod n (Int.ofNat k))⟩), (1, sl0 m)] (H1 q) 1 []) := by
    refine exec_orun env0 false 60 [] [0] (fun _ => rfl) (by kernel_rfl) (by kernel_rfl) (by kernel_rfl) ?_
    rw [(show obOf (orun g0 false 60 x7.body.b.a (mkSt [(0, ⟨true, I n⟩), (1, sl0 m), (2, ⟨true, I (Int.ofNat k)⟩)] (H1 q) 1 []) []) = (decide (IntKind.u64.wrap (Int.ofNat k) ≠ 0) && (rng64 (1 + umod n (Int.ofNat k)) && true)) from by kernel_rfl)]
    have e1 : IntKind.u64.wrap (Int.ofNat k) = Int.ofNat k := by
      simp only [IntKind.wrap, IntKind.signed, IntKind.bits, Bool.false_and, Bool.false_eq_true, if_false, Int.ofNat_eq_natCast]
      omega
    rw [e, e1, rng64_eq]
    simp
    omega
  rw [e] at key
  exact key
theorem v7 {n : Nat} {q : List Int} {m : Nat} : Exec PP T none x7.nt 0 x7.body.b.b.a (mkSt [(0, ⟨true, I n⟩), (1, sl0 m)] (H1 q) 1 []) .n (mkSt [(8, lsS 1 0), (0, ⟨true, I n⟩), (1, sl0 m)] (G7 q []) 2 []) := by
  have key : Exec PP T none x7.nt 0 x7.body.b.b.a (mkSt [(0, ⟨true, I n⟩), (1, sl0 m)] (H1 q) 1 []) .n (mkSt [(0, ⟨true, I n⟩), (1, sl0 m), (8, ⟨true, .av (.s .nils)⟩)] (H1 q) 1 []) := by
    refine exec_orun env0 false 60 [] [0] (fun _ => rfl) (by kernel_rfl) (by kernel_rfl) (by kernel_rfl) (by kernel_rfl)
  exact key.post (weak_nil 8 38 .i64 2 rfl rfl rfl)
theorem w7 {n : Nat} {q : List Int} {m : Nat} : Exec PP T none x7.nt 0 x7.body.b.b.b.a.a (mkSt [(8, lsS 1 0), (0, ⟨true, I n⟩), (1, sl0 m)] (G7 q []) 2 []) .n (S7 n q m [] 0 0) := by
  refine exec_orun env0 false 60 [] [0, 1] (fun _ => rfl) (by kernel_rfl) (by kernel_rfl) (by kernel_rfl) (by kernel_rfl)
theorem l7a {n : Nat} {q : List Int} {m : Nat} {l : List Int} {k a : Nat} (h : a < n) : Exec PP T none x7.nt 0 L7.a (S7 n q m l k a) .n (S7 n q m l k a) := by
  refine exec_orun env0 false 60 [true] [0, 1] (fun _ => rfl) (by kernel_rfl) (by kernel_rfl) (by kernel_rfl) ?_
  rw [(show obOf (orun g0 false 60 L7.a (S7 n q m l k a) [true]) = (decide (Int.ofNat a < Int.ofNat n) && true) from by kernel_rfl)]
  simp
  omega
theorem l7x {n : Nat} {q : List Int} {m : Nat} {l : List Int} {k : Nat} : Exec PP T none x7.nt 0 L7.a (S7 n q m l k n) (.x 0) (S7 n q m l k n) := by
  refine exec_orun env0 false 60 [false] [0, 1] (fun _ => rfl) (by kernel_rfl) (by kernel_rfl) (by kernel_rfl) ?_
  rw [(show obOf (orun g0 false 60 L7.a (S7 n q m l k n) [false]) = (!decide (Int.ofNat n < Int.ofNat n) && true) from by kernel_rfl)]
  simp
theorem l7b {n : Nat} {q : List Int} {m : Nat} {l : List Int} {k a : Nat} (h : a < 7) : Exec PP T none x7.nt 0 L7.b.a.i.a (S7 n q m l k a) .n (U7 n q m l k a (a + 1)) := by
  refine exec_orun env0 false 60 [] [0, 1] (fun _ => rfl) (by kernel_rfl) (by kernel_rfl) (by kernel_rfl) ?_
  rw [(show obOf (orun g0 false 60 L7.b.a.i.a (S7 n q m l k a) []) = (rng64 (Int.ofNat a.succ) && true) from by kernel_rfl)]
  simp [rng64]
  omega
theorem l7e {n : Nat} {q : List Int} {m : Nat} {l : List Int} {k a b : Nat} (h : a < 7) : Exec PP T none x7.nt 0 L7.b.b (U7 n q m l k a b) .n (S7 n q m l k (a + 1)) := by
  refine exec_orun env0 false 60 [] [0, 1] (fun _ => rfl) (by kernel_rfl) (by kernel_rfl) (by kernel_rfl) ?_
  rw [(show obOf (orun g0 false 60 L7.b.b (U7 n q m l k a b) []) = (rng64 (Int.ofNat a.succ) && true) from by kernel_rfl)]
  simp [rng64]
  omega
theorem m7a {n : Nat} {q : List Int} {m : Nat} {l : List Int} {k a b : Nat} (h : b < n) : Exec PP T none x7.nt 0 M7.a (U7 n q m l k a b) .n (U7 n q m l k a b) := by
  refine exec_orun env0 false 60 [true] [0, 1] (fun _ => rfl) (by kernel_rfl) (by kernel_rfl) (by kernel_rfl) ?_
  rw [(show obOf (orun g0 false 60 M7.a (U7 n q m l k a b) [true]) = (decide (Int.ofNat b < Int.ofNat n) && true) from by kernel_rfl)]
  simp
  omega
theorem m7x {n : Nat} {q : List Int} {m : Nat} {l : List Int} {k a : Nat} : Exec PP T none x7.nt 0 M7.a (U7 n q m l k a n) (.x 2) (U7 n q m l k a n) := by
  refine exec_orun env0 false 60 [false] [0, 1] (fun _ => rfl) (by kernel_rfl) (by kernel_rfl) (by kernel_rfl) ?_
  rw [(show obOf (orun g0 false 60 M7.a (U7 n q m l k a n) [false]) = (!decide (Int.ofNat n < Int.ofNat n) && true) from by kernel_rfl)]
  simp
theorem m7b {n : Nat} {q : List Int} {m : Nat} {l : List Int} {k a b : Nat} : Exec PP T none x7.nt 0 M7.b.a.i.a (U7 n q m l k a b) .n (V7 n q m l k a b 0) := by
  refine exec_orun env0 false 60 [] [0, 1] (fun _ => rfl) (by kernel_rfl) (by kernel_rfl) (by kernel_rfl) (by kernel_rfl)
theorem m7e {n : Nat} {q : List Int} {m : Nat} {l : List Int} {k a b : Nat} (h : b < 7) : Exec PP T none x7.nt 0 M7.b.b (U7 n q m l k a b) .n (U7 n q m l k a (b + 1)) := by
  refine exec_orun env0 false 60 [] [0, 1] (fun _ => rfl) (by kernel_rfl) (by kernel_rfl) (by kernel_rfl) ?_
  rw [(show obOf (orun g0 false 60 M7.b.b (U7 n q m l k a b) []) = (rng64 (Int.ofNat b.succ) && true) from by kernel_rfl)]
  simp [rng64]
  omega
theorem k7a {n : Nat} {q : List Int} {m : Nat} {l : List Int} {k a b i : Nat} (h : i < m) (h2 : i < 25) : Exec PP T none x7.nt 0 K7.a (V7 n q m l k a b i) .n (V7 n q m l k a b i) := by
  refine exec_orun env0 false 60 [true] [0, 1] (fun _ => rfl) (by kernel_rfl) (by kernel_rfl) (by kernel_rfl) ?_
  rw [(show obOf (orun g0 false 60 K7.a (V7 n q m l k a b i) [true]) = ((!decide (Int.ofNat i < Int.ofNat m) == true || true) && ((!decide (Int.ofNat i < Int.ofNat m) == true || decide (Int.ofNat i < Int.ofNat m) == true && true && true) && ((bif decide (Int.ofNat i < Int.ofNat m) then decide (Int.ofNat i < Int.ofNat m) == true else true) && true && true)) && ((bif decide (Int.ofNat i < Int.ofNat m) then decide (Int.ofNat i < 25) else false) && true)) from by kernel_rfl)]
  simp [h]
  omega
theorem k7x {n : Nat} {q : List Int} {m : Nat} {l : List Int} {k a b i : Nat} (h : ¬ (i < m ∧ i < 25)) : Exec PP T none x7.nt 0 K7.a (V7 n q m l k a b i) (.x 4) (U7 n q m l k a b) := by
  refine exec_orun env0 false 60 [false] [0, 1] (fun _ => rfl) (by kernel_rfl) (by kernel_rfl) (by kernel_rfl) ?_
  rw [(show obOf (orun g0 false 60 K7.a (V7 n q m l k a b i) [false]) = ((!decide (Int.ofNat i < Int.ofNat m) == true || true) && ((!decide (Int.ofNat i < Int.ofNat m) == true || decide (Int.ofNat i < Int.ofNat m) == true && true && true) && ((bif decide (Int.ofNat i < Int.ofNat m) then decide (Int.ofNat i < Int.ofNat m) == true else true) && true && true)) && ((!bif decide (Int.ofNat i < Int.ofNat m) then decide (Int.ofNat i < 25) else false) && true)) from by kernel_rfl)]
  by_cases h1 : i < m
  · simp [h1]; omega
  · simp [h1]
theorem k7b {n : Nat} {q : List Int} {m : Nat} {l : List Int} {k a b i : Nat} (hq : q.length = m * 2) (hn : 0 < n) (hn7 : n ≤ 7) (h : i < m) : Exec PP T none x7.nt 0 K7.b.a.i.a (V7 n q m l k a b i) .n (W7 n q m l k a b i (umod (q.getD (0 + ((0 + i) * 2 + 0)) 0) (Int.ofNat n)) (umod (q.getD (0 + ((0 + i) * 2 + 1)) 0) (Int.ofNat n))) := by
  refine exec_orun env0 false 60 [] [0, 1] (fun _ => rfl) (by kernel_rfl) (by kernel_rfl) (by kernel_rfl) ?_
  rw [(show obOf (orun g0 false 60 K7.b.a.i.a (V7 n q m l k a b i) []) = (decide (0 ≤ Int.ofNat i) && decide (Int.ofNat i < Int.ofNat m) && (decide (0 + ((0 + i) * 2 + 0) < q.length) && (decide (IntKind.u64.wrap (Int.ofNat n) ≠ 0) && (decide (0 ≤ Int.ofNat i) && decide (Int.ofNat i < Int.ofNat m) && (decide (0 + ((0 + i) * 2 + 1) < q.length) && (decide (IntKind.u64.wrap (Int.ofNat n) ≠ 0) && true))))) && true) from by kernel_rfl)]
  have e1 : IntKind.u64.wrap (Int.ofNat n) = Int.ofNat n := by
    simp only [IntKind.wrap, IntKind.signed, IntKind.bits, Bool.false_and, Bool.false_eq_true, if_false, Int.ofNat_eq_natCast]
    omega
  try rw [e1]
  simp
  omega
def hitC (a b : Nat) (c d : Int) : Bool := min c d == Int.ofNat a && max c d == Int.ofNat b
theorem k7n {n : Nat} {q : List Int} {m : Nat} {l : List Int} {k a b i : Nat} {c d : Int} (h : hitC a b c d = false) : Exec PP T none x7.nt 0 K7.b.a.i.b (W7 n q m l k a b i c d) .n (V7 n q m l k a b i) := by
  refine exec_orun env0 false 60 [false] [0, 1] (fun _ => rfl) (by kernel_rfl) (by kernel_rfl) (by kernel_rfl) ?_
  rw [(show obOf (orun g0 false 60 K7.b.a.i.b (W7 n q m l k a b i c d) [false]) = ((!(min c d == Int.ofNat a) == true || true) && ((!(min c d == Int.ofNat a) == true || true) && ((!(min c d == Int.ofNat a) == true || (min c d == Int.ofNat a) == true && ((min c d == Int.ofNat a) == true && true) && true) && ((!(min c d == Int.ofNat a) == true || true) && ((!(min c d == Int.ofNat a) == true || (min c d == Int.ofNat a) == true && ((min c d == Int.ofNat a) == true && true) && true) && ((bif min c d == Int.ofNat a then (min c d == Int.ofNat a) == true else true) && true && true))))) && ((!bif min c d == Int.ofNat a then max c d == Int.ofNat b else false) && true)) from by kernel_rfl)]
  unfold hitC at h
  revert h
  cases min c d == Int.ofNat a <;> cases max c d == Int.ofNat b <;> simp
theorem k7t {n : Nat} {q : List Int} {m : Nat} {l : List Int} {k a b i : Nat} {c d : Int} (hl : l.length = k * 2) (hk : k ≤ 100) (h : hitC a b c d = true) : Exec PP T none x7.nt 0 K7.b.a.i.b (W7 n q m l k a b i c d) (.x 4) (U7 n q m (List.take (k * 2) l ++ [Int.ofNat a, Int.ofNat b]) (k + 1) a b) := by
  refine exec_orun env0 false 60 [true] [0, 3] (fun _ => rfl) (by kernel_rfl) (by kernel_rfl) (by kernel_rfl) ?_
  rw [(show obOf (orun g0 false 60 K7.b.a.i.b (W7 n q m l k a b i c d) [true]) = ((!(min c d == Int.ofNat a) == true || true) && ((!(min c d == Int.ofNat a) == true || true) && ((!(min c d == Int.ofNat a) == true || (min c d == Int.ofNat a) == true && ((min c d == Int.ofNat a) == true && true) && true) && ((!(min c d == Int.ofNat a) == true || true) && ((!(min c d == Int.ofNat a) == true || (min c d == Int.ofNat a) == true && ((min c d == Int.ofNat a) == true && true) && true) && ((bif min c d == Int.ofNat a then (min c d == Int.ofNat a) == true else true) && true && true))))) && ((bif min c d == Int.ofNat a then max c d == Int.ofNat b else false) && (decide (2 ≤ Nat.succ 1) && decide (k * 2 ≤ l.length) && decide (k.succ ≤ 1000000000) && true && true && true && true))) from by kernel_rfl)]
  unfold hitC at h
  rw [Bool.and_eq_true] at h
  simp only [h.1, h.2]
  simp [hl]
  omega
theorem k7e {n : Nat} {q : List Int} {m : Nat} {l : List Int} {k a b i : Nat} (h : i < 25) : Exec PP T none x7.nt 0 K7.b.b (V7 n q m l k a b i) .n (V7 n q m l k a b (i + 1)) := by
  refine exec_orun env0 false 60 [] [0, 1] (fun _ => rfl) (by kernel_rfl) (by kernel_rfl) (by kernel_rfl) ?_
  rw [(show obOf (orun g0 false 60 K7.b.b (V7 n q m l k a b i) []) = (rng64 (Int.ofNat i.succ) && true) from by kernel_rfl)]
  simp [rng64]
  omega
theorem d7 {n : Nat} {q : List Int} {m : Nat} {l : List Int} {k : Nat} : Exec PP T none x7.nt 0 x7.body.b.b.b.b (S7 n q m l k n) .r (mkSt [(6, ⟨true, I n⟩), (7, lsS 0 k)] [⟨false, .ivec 38 .i64 2 l⟩] 1 []) := by
  refine exec_orun env0 false 60 [] [1] (fun _ => rfl) (by kernel_rfl) (by kernel_rfl) (by kernel_rfl) (by kernel_rfl)
end Go.Proofs.Yteekkjfjpoaihaa.Eng
namespace Go.Proofs.Yteekkjfjpoaihaa.Eng
open Go Go.Proofs
def hitA (n : Nat) (q : List Int) (a b i : Nat) : Bool := hitC a b (umod (q.getD (0 + ((0 + i) * 2 + 0)) 0) (Int.ofNat n)) (umod (q.getD (0 + ((0 + i) * 2 + 1)) 0) (Int.ofNat n))
def hitF (n : Nat) (q : List Int) (m a b : Nat) : Bool := (List.range (min m 25)).any (hitA n q a b)
def tamG (n : Nat) (q : List Int) (m a b : Nat) : Bool := decide (a < b) && hitF n q m a b
theorem first_hit (p : Nat → Bool) : ∀ (n : Nat), (List.range n).any p = true → ∃ j, j < n ∧ p j = true ∧ ∀ i, i < j → p i = false := by
  intro n
  induction n with
  | zero => simp
  | succ n ih =>
    intro h
    by_cases h1 : (List.range n).any p = true
    · obtain ⟨j, h2, h3, h4⟩ := ih h1
      exact ⟨j, by omega, h3, h4⟩
    · rw [List.range_succ, List.any_append] at h
      simp only [Bool.not_eq_true] at h1
      rw [h1] at h
      simp at h
      refine ⟨n, by omega, h, fun i hi => ?_⟩
      rw [List.any_eq_false] at h1
      simpa using h1 i (by simpa using hi)
/-- one step of the search -/
theorem k7 {n : Nat} {q : List Int} {m : Nat} {l : List Int} {k a b i : Nat} (hq : q.length = m * 2) (hn : 0 < n) (hn7 : n ≤ 7) (h : i < m) (h2 : i < 25) (hf : hitA n q a b i = false) : Exec PP T none x7.nt 0 K7 (V7 n q m l k a b i) .n (V7 n q m l k a b (i + 1)) :=
  exec_seq (x := K7.a) (y := K7.b) (k7a h h2) (exec_seq (x := K7.b.a) (y := K7.b.b) (exec_block (id := 5) (x := K7.b.a.i) (e := .n) (exec_seq (x := K7.b.a.i.a) (y := K7.b.a.i.b) (k7b hq hn hn7 h) (k7n hf))) (k7e h2))
theorem k7h {n : Nat} {q : List Int} {m : Nat} {l : List Int} {k a b i : Nat} (hq : q.length = m * 2) (hl : l.length = k * 2) (hk : k ≤ 100) (hn : 0 < n) (hn7 : n ≤ 7) (h : i < m) (h2 : i < 25) (hf : hitA n q a b i = true) : Exec PP T none x7.nt 0 K7 (V7 n q m l k a b i) (.x 4) (U7 n q m (List.take (k * 2) l ++ [Int.ofNat a, Int.ofNat b]) (k + 1) a b) :=
  exec_seq (x := K7.a) (y := K7.b) (k7a h h2) (exec_seq_x (x := K7.b.a) (y := K7.b.b) (exec_block (id := 5) (x := K7.b.a.i) (e := .x 4) (exec_seq (x := K7.b.a.i.a) (y := K7.b.a.i.b) (k7b hq hn hn7 h) (k7t hl hk hf))) (by simp))
theorem k7L {n : Nat} {q : List Int} {m : Nat} {l : List Int} {k a b : Nat} (hq : q.length = m * 2) (hn : 0 < n) (hn7 : n ≤ 7) (hf : hitF n q m a b = false) : Exec PP T none x7.nt 0 (.loop K7) (V7 n q m l k a b 0) (.x 4) (U7 n q m l k a b) := by
  unfold hitF at hf
  rw [List.any_eq_false] at hf
  exact exec_loop_up (fun i => V7 n q m l k a b i) (min m 25) (fun i hi => k7 hq hn hn7 (by omega) (by omega) (by simpa using hf i (by simpa using hi))) (exec_seq_x (x := K7.a) (y := K7.b) (k7x (by omega)) (by simp)) (by simp) 0 (by omega)
theorem k7H {n : Nat} {q : List Int} {m : Nat} {l : List Int} {k a b : Nat} (hq : q.length = m * 2) (hl : l.length = k * 2) (hk : k ≤ 100) (hn : 0 < n) (hn7 : n ≤ 7) (hf : hitF n q m a b = true) : Exec PP T none x7.nt 0 (.loop K7) (V7 n q m l k a b 0) (.x 4) (U7 n q m (List.take (k * 2) l ++ [Int.ofNat a, Int.ofNat b]) (k + 1) a b) := by
  obtain ⟨j, h1, h2, h3⟩ := first_hit _ _ hf
  exact exec_loop_up (fun i => V7 n q m l k a b i) j (fun i hi => k7 hq hn hn7 (by omega) (by omega) (h3 i hi)) (k7h hq hl hk hn hn7 (by omega) (by omega) h2) (by simp) 0 (by omega)
abbrev sU7 (n : Nat) (q : List Int) (m a b : Nat) : St := U7 n q m (flat (midL (tamG n q m) n a b)) (midL (tamG n q m) n a b).length a b
abbrev sS7 (n : Nat) (q : List Int) (m a : Nat) : St := S7 n q m (flat (listL (tamG n q m) n a)) (listL (tamG n q m) n a).length a
theorem m7 {n : Nat} {q : List Int} {m a b : Nat} (hq : q.length = m * 2) (hn : 0 < n) (hn7 : n ≤ 7) (ha : a < 7) (hb : b < n) (hlo : a < b) : Exec PP T none x7.nt 0 M7 (sU7 n q m a b) .n (sU7 n q m a (b + 1)) := by
  have hl := midL_len (g := tamG n q m) (n := n) (a := a) (b := b) (by omega) hn7 (by omega)
  have hf := flat_len (midL (tamG n q m) n a b)
  show Exec PP T none x7.nt 0 M7 _ .n (U7 n q m (flat (midL (tamG n q m) n a (b + 1))) (midL (tamG n q m) n a (b + 1)).length a (b + 1))
  cases h : hitF n q m a b with
  | false =>
    have hg : tamG n q m a b = false := by unfold tamG; rw [h]; simp
    rw [midL_f hg]
    exact exec_seq (x := M7.a) (y := M7.b) (m7a hb) (exec_seq (x := M7.b.a) (y := M7.b.b) (exec_block (id := 3) (x := M7.b.a.i) (e := .n) (exec_seq (x := M7.b.a.i.a) (y := .block 4 (.loop K7)) m7b (exec_block (e := .x 4) (k7L hq hn hn7 h)))) (m7e (by omega)))
  | true =>
    have hg : tamG n q m a b = true := by unfold tamG; rw [h]; simp [hlo]
    rw [midL_tl hg, midL_tf hg]
    exact exec_seq (x := M7.a) (y := M7.b) (m7a hb) (exec_seq (x := M7.b.a) (y := M7.b.b) (exec_block (id := 3) (x := M7.b.a.i) (e := .n) (exec_seq (x := M7.b.a.i.a) (y := .block 4 (.loop K7)) m7b (exec_block (e := .x 4) (k7H hq hf hl hn hn7 h)))) (m7e (by omega)))
theorem l7 {n : Nat} {q : List Int} {m a : Nat} (hq : q.length = m * 2) (hn : 0 < n) (hn7 : n ≤ 7) (ha : a < n) : Exec PP T none x7.nt 0 L7 (sS7 n q m a) .n (sS7 n q m (a + 1)) := by
  show Exec PP T none x7.nt 0 L7 _ .n (S7 n q m (flat (listL (tamG n q m) n (a + 1))) (listL (tamG n q m) n (a + 1)).length (a + 1))
  rw [← midL_end]
  refine exec_seq (x := L7.a) (y := L7.b) (l7a ha) (exec_seq (x := L7.b.a) (y := L7.b.b) (exec_block (id := 1) (x := L7.b.a.i) (e := .n) (exec_seq (x := L7.b.a.i.a) (y := .block 2 (.loop M7)) (l7b (by omega)) (exec_block (e := .x 2) ?_))) (l7e (b := n) (by omega)))
  have h0 : midL (tamG n q m) n a (a + 1) = listL (tamG n q m) n a := midL_lo fun j hj => (by unfold tamG; simp; omega)
  rw [← h0]
  exact exec_loop_from (fun b => sU7 n q m a b) (a + 1) n (fun b hlo hb => m7 hq hn hn7 (by omega) hb (by omega)) (exec_seq_x (x := M7.a) (y := M7.b) m7x (by simp)) (by simp) (by omega)
def tamL (n : Int) (q : List Int) (m k : Nat) : List (Int × Int) := listL (tamG (tamN n k) q m) (tamN n k) (tamN n k)
theorem body7 {n : Int} {q : List Int} {m k : Nat} (hq : q.length = m * 2) (hk : 0 < k) (hk7 : k ≤ 7) : Exec PP T none x7.nt 0 x7.body (startSt [.s (.int .i64 n), .s (.sl 0 0 2 m), .s (.int .i64 (Int.ofNat k))] (H1 q)) .r (mkSt [(6, ⟨true, I (tamN n k)⟩), (7, lsS 0 (tamL n q m k).length)] [⟨false, .ivec 38 .i64 2 (flat (tamL n q m k))⟩] 1 []) := by
  obtain ⟨_, h1, h2⟩ := tamN_eq n hk hk7
  refine exec_seq (x := x7.body.a) (y := x7.body.b) a7 (exec_seq (x := x7.body.b.a) (y := x7.body.b.b) (u7 hk hk7) (exec_seq (x := x7.body.b.b.a) (y := x7.body.b.b.b) v7 (exec_seq (x := x7.body.b.b.b.a) (y := x7.body.b.b.b.b) (exec_seq (x := x7.body.b.b.b.a.a) (y := .block 0 (.loop L7)) w7 (exec_block (e := .x 0) ?_)) (d7 (q := q) (m := m)))))
  exact exec_loop_up (fun a => sS7 (tamN n k) q m a) (tamN n k) (fun a ha => l7 hq (by omega) (by omega) ha) (exec_seq_x (x := L7.a) (y := L7.b) l7x (by simp)) (by simp) 0 (by omega)
/-- tame, where at most seven nodes are asked for -/
def spTame : Spec where
  run := fun args h base => match args with
    | [.s (.int .i64 n), s, .s (.int .i64 k)] => match srcOf (.av s) h .i64 2 with
      | some (vc, q, m, rd) => some ⟨vc && (decide (0 < k) && decide (k ≤ 7)), .tup [.s (.int .i64 (Int.ofNat (tamN n k.toNat))), .s (.sl base 0 2 (tamL n q m k.toNat).length)], [], [⟨false, .ivec 38 .i64 2 (flat (tamL n q m k.toNat))⟩], some rd⟩
      | none => none
    | _ => none
theorem spTame_fp : SpecFp spTame := by
  intro args h h' base e hr hf
  simp only [spTame] at hr ⊢
  split at hr
  · split at hr
    · rename_i hs
      cases hr
      simp only [srcOf_fp hs hf]
    · cases hr
  · cases hr
theorem ok7 : SpecOK PP (compC T) 7 spTame := by
  refine spec_gen tokP o7 fun ctx m h w args vals base e hH hargs hr hvc => ?_
  simp only [spTame] at hr
  split at hr
  · rename_i n s k
    split at hr
    · rename_i vc q m' rd hs
      cases hr
      simp only [Bool.and_eq_true, decide_eq_true_eq] at hvc
      obtain ⟨rfl, hk1, hk2⟩ := hvc
      obtain ⟨k, rfl⟩ : ∃ j : Nat, k = Int.ofNat j := ⟨k.toNat, by simp; omega⟩
      match vals, hargs with
      | [v1, v2, v3], ⟨ha1, ha2, ha3, _⟩ =>
        obtain ⟨mb, k1, k2, k3, k4⟩ := view_slice hH ha2 hs
        exact ⟨rfl, mm1 mb, H1 q, [.s (.int .i64 n), .s (.sl 0 0 2 m'), .s (.int .i64 (Int.ofNat k))], shown_new (tv := .tup [.s (.int .i64 (Int.ofNat (tamN n k))), .s (.sl 0 0 2 (tamL n q m' k).length)]) (o := .ivec 38 .i64 2 (flat (tamL n q m' k))) (ro1 k1 k2) ⟨ha1, k3 (mm1 mb) 0 rfl, ha3, trivial⟩ (by kernel_rfl) (body7 k4 (by simpa using hk1) (by simp at hk2; omega)) (fun _ => rfl) (by kernel_rfl) (by kernel_rfl) rfl rfl rfl (fun _ => rfl)⟩
    · cases hr
  · cases hr
end Go.Proofs.Yteekkjfjpoaihaa.Eng
namespace Go.Proofs.Yteekkjfjpoaihaa.Eng
open Go Go.Proofs
theorem eqC_key (p a : Nat × Nat) : eqC (.ints 2) (keyN p) (keyN a) = (p == a) := by
  show ([Int.ofNat p.1, Int.ofNat p.2] == [Int.ofNat a.1, Int.ofNat a.2]) = _
  rw [beq_two]
  rw [Bool.eq_iff_iff]
  obtain ⟨p1, p2⟩ := p
  obtain ⟨a1, a2⟩ := a
  simp
  omega
end Go.Proofs.Yteekkjfjpoaihaa.Eng
namespace Go.Proofs.Yteekkjfjpoaihaa.Eng
open Go Go.Proofs
def ofN (p : Nat × Nat) : Int × Int := (Int.ofNat p.1, Int.ofNat p.2)
def pairsN (g : Nat → Nat → Bool) (n a : Nat) : List (Nat × Nat) := (List.range a).flatMap fun x => ((List.range n).filter (g x)).map fun y => (x, y)
theorem listL_pairs (g : Nat → Nat → Bool) (n a : Nat) : listL g n a = (pairsN g n a).map ofN := by
  unfold listL pairsN rowL
  rw [List.map_flatMap]
  congr 1
  funext x
  rw [List.map_map]
  rfl
theorem flat_ofN (L : List (Nat × Nat)) : flat (L.map ofN) = flatN L := by
  unfold flat flatN
  rw [List.flatMap_map]
  rfl
theorem mem_pairsN {g : Nat → Nat → Bool} {n a : Nat} {p : Nat × Nat} : p ∈ pairsN g n a ↔ p.1 < a ∧ p.2 < n ∧ g p.1 p.2 = true := by
  unfold pairsN
  simp only [List.mem_flatMap, List.mem_range, List.mem_map, List.mem_filter]
  constructor
  · rintro ⟨x, h1, y, ⟨h2, h3⟩, rfl⟩; exact ⟨h1, h2, h3⟩
  · rintro ⟨h1, h2, h3⟩; exact ⟨p.1, h1, p.2, ⟨h2, h3⟩, rfl⟩
/-- the arrows as pairs of numbers -/
def arrN (n : Nat) (f : Nat → Bool) : List (Nat × Nat) := pairsN (gg53 n f) n n
theorem arrN_len {n : Nat} {f : Nat → Bool} : (arrowsL n f).length = (arrN n f).length := by
  unfold arrowsL arrN
  rw [listL_pairs, List.length_map]
theorem mem_arrN {n : Nat} {f : Nat → Bool} {p : Nat × Nat} : p ∈ arrN n f ↔ p.1 < n ∧ p.2 < n ∧ at7 f p.1 p.2 = true := mem_pairsN
def clsT (n : Nat) (f : Nat → Bool) (s : List (Nat × Nat) × Nat) (p : Nat × Nat) : List (Nat × Nat) × Nat := bif s.1.contains p then s else ((rchL n f p.1 p.2).foldl pushL s.1, s.2 + 1)
end Go.Proofs.Yteekkjfjpoaihaa.Eng
namespace Go.Proofs.Yteekkjfjpoaihaa.Eng
open Go Go.Proofs
def FreeR (es : List (Nat × Nat)) (r : Nat → Bool) : Prop := ∀ p ∈ es, at7 r p.1 p.2 = false ∧ at7 r p.2 p.1 = false
def EdgeL (es : List (Nat × Nat)) : Prop := es.Nodup ∧ ∀ p ∈ es, p.1 < p.2 ∧ p.2 < 7
theorem EdgeL.tail {p : Nat × Nat} {es : List (Nat × Nat)} (h : EdgeL (p :: es)) : EdgeL es := ⟨(List.nodup_cons.1 h.1).2, fun q hq => h.2 q (by simp [hq])⟩
theorem FreeR.set {a b : Nat} {es : List (Nat × Nat)} {r : Nat → Bool} (he : EdgeL ((a, b) :: es)) (h : FreeR ((a, b) :: es) r) : FreeR es (relS r (Int.ofNat a) (Int.ofNat b)) ∧ FreeR es (relS r (Int.ofNat b) (Int.ofNat a)) := by
  have hab := he.2 (a, b) (by simp)
  have key : ∀ p ∈ es, (p.1, p.2) ≠ (a, b) ∧ (p.2, p.1) ≠ (a, b) := fun p hp => by
    have h1 := he.2 p (by simp [hp])
    have h2 := (List.nodup_cons.1 he.1).1
    refine ⟨fun e => h2 (by rw [← e]; exact hp), fun e => ?_⟩
    simp only [Prod.mk.injEq] at e
    simp at hab
    omega
  constructor
  · intro p hp
    have h1 := he.2 p (by simp [hp])
    have hf := h p (by simp [hp])
    obtain ⟨k1, k2⟩ := key p hp
    simp at hab
    constructor
    · rw [at7_relS7 (by omega) (by omega) (by omega) (by omega), hf.1]
      simpa using k1
    · rw [at7_relS7 (by omega) (by omega) (by omega) (by omega), hf.2]
      simpa using k2
  · intro p hp
    have h1 := he.2 p (by simp [hp])
    have hf := h p (by simp [hp])
    obtain ⟨k1, k2⟩ := key p hp
    simp at hab
    constructor
    · rw [at7_relS7 (by omega) (by omega) (by omega) (by omega), hf.1]
      simp at k2 ⊢
      omega
    · rw [at7_relS7 (by omega) (by omega) (by omega) (by omega), hf.2]
      simp at k1 ⊢
      omega
end Go.Proofs.Yteekkjfjpoaihaa.Eng
namespace Go.Proofs.Yteekkjfjpoaihaa.Eng
open Go Go.Proofs
abbrev IW (q : List Int) : HO := ⟨false, .ivec 38 .i64 2 q⟩
theorem pairsN_succ (g : Nat → Nat → Bool) (n a : Nat) : pairsN g n (a + 1) = pairsN g n a ++ ((List.range n).filter (g a)).map fun y => (a, y) := by
  unfold pairsN
  rw [List.range_succ, List.flatMap_append]
  simp
end Go.Proofs.Yteekkjfjpoaihaa.Eng
namespace Go.Proofs.Yteekkjfjpoaihaa.Eng
open Go Go.Proofs
/-- kinds of arguments -/
inductive PK where
  | int
  | sl (sz : Nat)
  | pr
  | bs (n : Nat)
  | gr (ty : TypeId) (n : Nat)
  | two (sz : Nat)
  | rb (ty : TypeId) (sz k : Nat)
/-- arguments, as plain data -/
inductive PA where
  | int (a : Int)
  | sl (sz : Nat) (q : List Int) (m : Nat)
  | pr (a b : Int)
  | bs (n : Nat) (f : Nat → Bool)
  | gr (ty : TypeId) (n : Nat) (a : Int) (f : Nat → Bool)
  | two (sz : Nat) (q q' : List Int) (m m' : Nat)
  | rb (ty : TypeId) (sz k : Nat) (f : Nat → Bool)
def rdA (h : Nat → Option HO) : PK → AV → Option (Bool × PA × List Nat)
  | .int, .s (.int .i64 a) => some (true, .int a, [])
  | .sl sz, v => match srcOf (.av v) h .i64 sz with
    | some (vc, q, m, rd) => some (vc && bndL m, .sl sz q m, rd)
    | none => none
  | .pr, .pb [.int .i64 a, .int .i64 b] 0 _ => some (true, .pr a b, [])
  | .bs n, .pb [] n' f => if n = n' then some (true, .bs n f, []) else none
  | .gr ty n, .s (.ptr g 0 0) => match h g with
    | some ⟨_, .row ty' [.int .i64 a] n' f⟩ => if ty = ty' ∧ n = n' then some (true, .gr ty n a f, [g]) else none
    | _ => none
  | .two sz, .pb [x, y] 0 _ => match srcOf (.av (.s x)) h .i64 sz, srcOf (.av (.s y)) h .i64 sz with
    | some (vc, q, m, rd), some (vc', q', m', rd') => some (vc && bndL m && (vc' && bndL m'), .two sz q q' m m', rd ++ rd')
    | _, _ => none
  | .rb ty sz k, .s (.sl g 0 sz' k') => match h g with
    | some ⟨_, .row ty' [] n f⟩ => if ty = ty' ∧ sz = sz' ∧ k = k' ∧ n = k * sz then some (true, .rb ty sz k f, [g]) else none
    | _ => none
  | _, _ => none
def rdAs (h : Nat → Option HO) : List PK → List AV → Option (Bool × List PA × List Nat)
  | [], [] => some (true, [], [])
  | k :: ks, v :: vs => match rdA h k v, rdAs h ks vs with
    | some (b, p, rd), some (b', ps, rd') => some (b && b', p :: ps, rd ++ rd')
    | _, _ => none
  | _, _ => none
def PA.objs : PA → List AO
  | .sl sz q _ => [.xvec .i64 sz q]
  | .gr ty n a f => [.row ty [.int .i64 a] n f]
  | .two sz q q' _ _ => [.xvec .i64 sz q, .xvec .i64 sz q']
  | .rb ty sz k f => [.row ty [] (k * sz) f]
  | _ => []
def PA.av (i : Nat) : PA → AV
  | .int a => .s (.int .i64 a)
  | .sl sz _ m => .s (.sl i 0 sz m)
  | .pr a b => .pb [.int .i64 a, .int .i64 b] 0 ff
  | .bs n f => .pb [] n f
  | .gr _ _ _ _ => .s (.ptr i 0 0)
  | .two sz _ _ m m' => .pb [.sl i 0 sz m, .sl (i + 1) 0 sz m'] 0 ff
  | .rb _ sz k _ => .s (.sl i 0 sz k)
def argsP : Nat → List PA → List AV
  | _, [] => []
  | i, p :: r => p.av i :: argsP (i + p.objs.length) r
def heapP : List PA → List HO
  | [] => []
  | p :: r => p.objs.map (fun o => ⟨true, o⟩) ++ heapP r
def PA.fit : PK → PA → Prop
  | .int, .int _ => True
  | .sl sz, .sl sz' q m => sz' = sz ∧ q.length = m * sz ∧ m ≤ 1000000000
  | .pr, .pr _ _ => True
  | .bs n, .bs n' _ => n' = n
  | .gr ty n, .gr ty' n' _ _ => ty' = ty ∧ n' = n
  | .rb ty sz k, .rb ty' sz' k' _ => ty' = ty ∧ sz' = sz ∧ k' = k
  | .two sz, .two sz' q q' m m' => sz' = sz ∧ (q.length = m * sz ∧ m ≤ 1000000000) ∧ q'.length = m' * sz ∧ m' ≤ 1000000000
  | _, _ => False
def Fits : List PK → List PA → Prop
  | [], [] => True
  | k :: ks, p :: ps => p.fit k ∧ Fits ks ps
  | _, _ => False
/-- what hangs on what is looked at -/
theorem rdA_fp {h h' : Nat → Option HO} {k : PK} {v : AV} {q : Bool × PA × List Nat} (hr : rdA h k v = some q) (hf : ∀ id ∈ q.2.2, h' id = h id) : rdA h' k v = some q := by
  unfold rdA at hr ⊢
  split at hr
  · exact hr
  · split at hr
    · rename_i hs
      cases hr
      simp only [srcOf_fp hs hf]
    · cases hr
  · exact hr
  · exact hr
  · split at hr
    · rename_i hg
      split at hr
      · rename_i hc
        cases hr
        simp only [hf _ (List.mem_singleton.2 rfl), hg, if_pos hc]
      · cases hr
    · cases hr
  · split at hr
    · rename_i hs ht
      cases hr
      simp only [srcOf_fp hs fun id hid => hf id (List.mem_append.2 (.inl hid)), srcOf_fp ht fun id hid => hf id (List.mem_append.2 (.inr hid))]
    · cases hr
  · split at hr
    · rename_i hg
      split at hr
      · rename_i hc
        cases hr
        simp only [hf _ (List.mem_singleton.2 rfl), hg, if_pos hc]
      · cases hr
    · cases hr
  · cases hr
theorem rdAs_fp {h h' : Nat → Option HO} : ∀ {ks : List PK} {vs : List AV} {q : Bool × List PA × List Nat}, rdAs h ks vs = some q → (∀ id ∈ q.2.2, h' id = h id) → rdAs h' ks vs = some q := by
  intro ks
  induction ks with
  | nil => intro vs q hr hf; cases vs <;> exact hr
  | cons k ks ih =>
    intro vs q hr hf
    cases vs with
    | nil => exact hr
    | cons v vs =>
      simp only [rdAs] at hr ⊢
      split at hr
      · rename_i h1 h2
        cases hr
        rw [rdA_fp h1 fun id hid => hf id (List.mem_append.2 (.inl hid)), ih h2 fun id hid => hf id (List.mem_append.2 (.inr hid))]
      · cases hr
section
variable {cmp : Cmp}
/-- blocks for objects that are only read -/
def Blk (cmp : Cmp) (w : World) (mbs : List MB) (os : List AO) : Prop := mbs.length = os.length ∧ ∀ (j : Nat) o mb, os[j]? = some o → mbs[j]? = some mb → (∀ m' : MM, OR cmp m' mb o w) ∧ ∀ b, mb.b = some b → b < w.heap.size
def Sits (mbs : List MB) (m : MM) (i : Nat) : Prop := ∀ (j : Nat) mb, mbs[j]? = some mb → m (i + j) = some mb
theorem blk_nil {w : World} : Blk cmp w [] [] := ⟨rfl, fun j o mb h => by simp at h⟩
theorem blk_one {w : World} {mb : MB} {o : AO} (h1 : ∀ m' : MM, OR cmp m' mb o w) (h2 : ∀ b, mb.b = some b → b < w.heap.size) : Blk cmp w [mb] [o] := ⟨rfl, fun j o' mb' h h' => by
  cases j with
  | zero => simp at h h'; subst h; subst h'; exact ⟨h1, h2⟩
  | succ j => simp at h⟩
theorem blk_append {w : World} {ms ms' : List MB} {os os' : List AO} (h : Blk cmp w ms os) (h' : Blk cmp w ms' os') : Blk cmp w (ms ++ ms') (os ++ os') := ⟨by simp [h.1, h'.1], fun j o mb k k' => by
  by_cases hj : j < os.length
  · rw [List.getElem?_append_left hj] at k
    rw [List.getElem?_append_left (by rw [h.1]; exact hj)] at k'
    exact h.2 j o mb k k'
  · rw [List.getElem?_append_right (by omega)] at k
    rw [List.getElem?_append_right (by rw [h.1]; omega), h.1] at k'
    exact h'.2 _ o mb k k'⟩
theorem Sits.left {ms ms' : List MB} {m : MM} {i : Nat} (h : Sits (ms ++ ms') m i) : Sits ms m i := fun j mb hj => h j mb (by
  have := (List.getElem?_eq_some_iff.1 hj).1
  rw [List.getElem?_append_left this]; exact hj)
theorem Sits.right {ms ms' : List MB} {m : MM} {i : Nat} (h : Sits (ms ++ ms') m i) : Sits ms' m (i + ms.length) := fun j mb hj => by
  have := h (ms.length + j) mb (by rw [List.getElem?_append_right (by omega), show ms.length + j - ms.length = j by omega]; exact hj)
  rw [← Nat.add_assoc] at this
  exact this
theorem Sits.one {mb : MB} {m : MM} {i : Nat} (h : Sits [mb] m i) : m i = some mb := by simpa using h 0 mb rfl
theorem view_arg {ctx : Ctx} {m : MM} {h : Nat → Option HO} {w : World} (hH : HRel cmp ctx m h w) {k : PK} {a : AV} {v : Value} {pa : PA} {rd : List Nat} (hv : AR m a v) (hr : rdA h k a = some (true, pa, rd)) :
    pa.fit k ∧ ∃ mbs : List MB, Blk cmp w mbs pa.objs ∧ ∀ (m' : MM) i, Sits mbs m' i → AR m' (pa.av i) v := by
  unfold rdA at hr
  split at hr
  · simp only [Option.some.injEq, Prod.mk.injEq, true_and] at hr
    obtain ⟨rfl, _⟩ := hr
    exact ⟨trivial, [], blk_nil, fun m' i _ => hv⟩
  · split at hr
    · rename_i hs
      simp only [Option.some.injEq, Prod.mk.injEq, Bool.and_eq_true] at hr
      obtain ⟨⟨rfl, hb⟩, rfl, _⟩ := hr
      obtain ⟨mb, k1, k2, k3, k4⟩ := view_slice hH hv hs
      exact ⟨⟨rfl, k4, by simpa [bndL] using hb⟩, [mb], blk_one k1 k2, fun m' i hi => k3 m' i hi.one⟩
    · cases hr
  · simp only [Option.some.injEq, Prod.mk.injEq, true_and] at hr
    obtain ⟨rfl, _⟩ := hr
    refine ⟨trivial, [], blk_nil, fun m' i _ => ?_⟩
    obtain ⟨cs, e1, vs, e2, e3, e4⟩ := hv
    refine ⟨cs, e1, vs, ?_, e3, by simpa [bcells] using e4⟩
    match vs, e2 with
    | [u1, u2], ⟨p1, p2, _⟩ => exact ⟨p1, p2, trivial⟩
  · split at hr
    · rename_i hn
      simp only [Option.some.injEq, Prod.mk.injEq, true_and] at hr
      obtain ⟨rfl, _⟩ := hr
      subst hn
      exact ⟨rfl, [], blk_nil, fun m' i _ => pb0_any hv⟩
    · cases hr
  · split at hr
    · rename_i hg
      split at hr
      · rename_i hc
        obtain ⟨rfl, rfl⟩ := hc
        simp only [Option.some.injEq, Prod.mk.injEq, true_and] at hr
        obtain ⟨rfl, _⟩ := hr
        obtain ⟨mb, k1, k2, k3⟩ := view_row hH hv hg (eqB_refl _ _)
        exact ⟨⟨rfl, rfl⟩, [mb], blk_one k1 k2, fun m' i hi => k3 m' i hi.one⟩
      · cases hr
    · cases hr
  · split at hr
    · rename_i hs ht
      simp only [Option.some.injEq, Prod.mk.injEq, Bool.and_eq_true] at hr
      obtain ⟨⟨⟨rfl, hb⟩, rfl, hb'⟩, rfl, _⟩ := hr
      obtain ⟨cs, e1, vs, e2, e3, e4⟩ := hv
      match vs, e2 with
      | [u1, u2], ⟨p1, p2, _⟩ =>
        obtain ⟨mb, k1, k2, k3, k4⟩ := view_slice (s := .s _) hH p1 hs
        obtain ⟨mb', r1, r2, r3, r4⟩ := view_slice (s := .s _) hH p2 ht
        refine ⟨⟨rfl, ⟨k4, by simpa [bndL] using hb⟩, r4, by simpa [bndL] using hb'⟩, [mb, mb'], blk_append (ms := [mb]) (os := [_]) (blk_one k1 k2) (blk_one r1 r2), fun m' i hi => ?_⟩
        exact ⟨cs, e1, [u1, u2], ⟨k3 m' i (hi.left (ms := [mb])).one, r3 m' (i + 1) (hi.right (ms := [mb])).one, trivial⟩, e3, by simpa [bcells] using e4⟩
    · cases hr
  · split at hr
    · rename_i hg
      split at hr
      · rename_i hc
        obtain ⟨rfl, rfl, rfl, rfl⟩ := hc
        simp only [Option.some.injEq, Prod.mk.injEq, true_and] at hr
        obtain ⟨rfl, _⟩ := hr
        obtain ⟨mb, h1, h2, h3, _⟩ := hH.obj _ _ hg
        obtain ⟨b, cs, g1, g2, g3, vs, g4, g5, g6⟩ := h2
        obtain ⟨mb', q1, q2, q3⟩ := hv
        rw [h1] at q1
        cases q1
        refine ⟨⟨rfl, rfl, rfl⟩, [mb], blk_one (fun m' => ⟨b, cs, g1, g2, g3, vs, ?_, g5, g6⟩) (fun b' hb' => h3 rfl b' hb'), fun m' i hi => ⟨mb, hi.one, q2, q3⟩⟩
        match vs, g4 with
        | [], _ => trivial
      · cases hr
    · cases hr
  · cases hr
theorem heapP_cons (p : PA) (r : List PA) : heapP (p :: r) = p.objs.map (fun o => ⟨true, o⟩) ++ heapP r := rfl
def objsP (pas : List PA) : List AO := pas.flatMap PA.objs
theorem heapP_eq : ∀ pas : List PA, heapP pas = (objsP pas).map fun o => ⟨true, o⟩
  | [] => rfl
  | p :: r => by rw [heapP_cons, heapP_eq r]; simp [objsP]
theorem view_args {ctx : Ctx} {m : MM} {h : Nat → Option HO} {w : World} (hH : HRel cmp ctx m h w) : ∀ {ks : List PK} {args : List AV} {vals : List Value} {pas : List PA} {rd : List Nat}, All2 (AR m) args vals → rdAs h ks args = some (true, pas, rd) →
    Fits ks pas ∧ ∃ mbs : List MB, Blk cmp w mbs (objsP pas) ∧ ∀ (m' : MM) i, Sits mbs m' i → All2 (AR m') (argsP i pas) vals := by
  intro ks
  induction ks with
  | nil =>
    intro args vals pas rd ha hr
    cases args with
    | nil =>
      simp only [rdAs, Option.some.injEq, Prod.mk.injEq, true_and] at hr
      obtain ⟨rfl, _⟩ := hr
      cases vals with
      | nil => exact ⟨trivial, [], blk_nil, fun _ _ _ => trivial⟩
      | cons _ _ => exact ha.elim
    | cons a args => simp [rdAs] at hr
  | cons k ks ih =>
    intro args vals pas rd ha hr
    cases args with
    | nil => simp [rdAs] at hr
    | cons a args =>
      cases vals with
      | nil => exact ha.elim
      | cons v vals =>
        simp only [rdAs] at hr
        split at hr
        · rename_i h1 h2
          simp only [Option.some.injEq, Prod.mk.injEq, Bool.and_eq_true] at hr
          obtain ⟨⟨rfl, rfl⟩, rfl, _⟩ := hr
          obtain ⟨f1, mb1, b1, s1⟩ := view_arg hH ha.1 h1
          obtain ⟨f2, mb2, b2, s2⟩ := ih ha.2 h2
          refine ⟨⟨f1, f2⟩, mb1 ++ mb2, by simpa [objsP] using blk_append b1 b2, fun m' i hi => ⟨s1 m' i hi.left, ?_⟩⟩
          have := s2 m' _ hi.right
          rw [b1.1] at this
          exact this
        · cases hr
end
/-- a contract of a function of plain data: the arguments' kinds, the condition, the answer, the new objects -/
def genS (ks : List PK) (c : List PA → Bool) (v : List PA → TV) (news : List PA → List HO) : Spec where
  run := fun args h base => match rdAs h ks args with
    | some (vc, pas, rd) => some ⟨vc && c pas, (v pas).ren (renN (List.range (news pas).length) base), [], (news pas).map fun ho => ho.ren (renN (List.range (news pas).length) base), some rd⟩
    | none => none
theorem genS_fp {ks : List PK} {c : List PA → Bool} {v : List PA → TV} {news : List PA → List HO} : SpecFp (genS ks c v news) := by
  intro args h h' base e hr hf
  simp only [genS] at hr ⊢
  split at hr
  · rename_i hs
    cases hr
    rw [rdAs_fp hs hf]
  · cases hr
/-- what a run must show -/
def GenRun (x : XFn) (pas : List PA) (tv : TV) (hs : List HO) : Prop :=
  ∃ ts nx ex, Exec PP T none x.nt 0 x.body (startSt (argsP 0 pas) (heapP pas)) ex (mkSt ts hs nx []) ∧ (ex ≠ .n → ex = .r) ∧ resV (mkSt ts hs nx []).sl.get (mkSt ts hs nx []).hp.get x.res = some (true, tv) ∧
    tv.ids.all (fun j => Nat.blt j hs.length) = true ∧ hs.all (fun ho => !ho.ro && ho.live && !ho.o.isLoop && ho.o.ids.all fun j => Nat.blt j hs.length) = true
theorem argsP_len : ∀ {ks : List PK} {pas : List PA} {i : Nat}, Fits ks pas → (argsP i pas).length = ks.length
  | [], [], _, _ => rfl
  | _ :: _, _ :: _, _, h => by simp [argsP, argsP_len h.2]
  | [], _ :: _, _, h => h.elim
  | _ :: _, [], _, h => h.elim
theorem ok_gen {f : FuncId} {x : XFn} (hx : FunOK PP T f x) {ks : List PK} {c : List PA → Bool} {v : List PA → TV} {news : List PA → List HO} (hlen : Nat.ble ks.length x.nt = true)
    (hrun : ∀ pas, Fits ks pas → c pas = true → GenRun x pas (v pas) (news pas)) : SpecOK PP (compC T) f (genS ks c v news) := by
  refine spec_gen tokP hx fun ctx m hh w args vals base e hH hargs hr hvc => ?_
  simp only [genS] at hr
  split at hr
  · rename_i vc pas rd hs
    cases hr
    simp only [Bool.and_eq_true] at hvc
    obtain ⟨rfl, hc⟩ := hvc
    obtain ⟨hf, mbs, hb, hsit⟩ := view_args hH hargs hs
    obtain ⟨ts, nx, ex, r1, r2, r3, r4, r5⟩ := hrun pas hf hc
    refine ⟨rfl, fun j => mbs[j]?, heapP pas, argsP 0 pas, ?_⟩
    refine shown_news (hs' := news pas) ⟨fun j ho hj => ?_, fun j hj => ?_⟩ (hsit _ 0 fun j mb hj => by rw [Nat.zero_add]; exact hj) (by rw [argsP_len hf]; exact hlen) r1 r2 r3 r4 r5
    · rw [heapP_eq, List.getElem?_map] at hj
      cases ho' : (objsP pas)[j]? with
      | none => rw [ho'] at hj; cases hj
      | some o =>
        rw [ho'] at hj
        cases hj
        have hl := (List.getElem?_eq_some_iff.1 ho').1
        obtain ⟨mb, hm⟩ : ∃ mb, mbs[j]? = some mb := ⟨_, List.getElem?_eq_getElem (by rw [hb.1]; exact hl)⟩
        obtain ⟨k1, k2⟩ := hb.2 j o _ ho' hm
        exact ⟨rfl, _, hm, k1 _, k2⟩
    · rw [heapP_eq, List.length_map] at hj
      exact List.getElem?_eq_none (by rw [hb.1]; exact hj)
  · cases hr
end Go.Proofs.Yteekkjfjpoaihaa.Eng

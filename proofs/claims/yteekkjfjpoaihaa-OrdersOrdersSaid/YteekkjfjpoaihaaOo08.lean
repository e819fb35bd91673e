/- A part of the proof of ordersOrders_holds. -/
import Derived.Test.YteekkjfjpoaihaaOo07
set_option linter.all false
namespace Go.Proofs.Yteekkjfjpoaihaa.Eng
open Go Go.Proofs
theorem alGet_filter {t u : Nat} (hu : ¬ t = u) {s : Slot} : ∀ {ts : List (Nat × Slot)}, alGet (ts.filter fun p => !(Nat.beq p.1 t)) u = some s → alGet ts u = some s
  | [], h => h
  | p :: ts, h => by
    rw [alGet_cons]
    by_cases hp : p.1 = t
    · rw [beqF (show ¬ p.1 = u by omega), cond_false]
      rw [List.filter_cons_of_neg (by rw [beqT hp]; simp)] at h
      exact alGet_filter hu h
    · rw [List.filter_cons_of_pos (by rw [beqF hp]; rfl), alGet_cons] at h
      by_cases hpu : p.1 = u
      · rw [beqT hpu, cond_true] at h ⊢; exact h
      · rw [beqF hpu, cond_false] at h ⊢; exact alGet_filter hu h
section
variable {P : Program} {T : Tab} {r : Option Nat} {nt kp : Nat}
/-- a nil slice seen as an empty one, with an object of its own -/
theorem weak_nil {ts ts' : List (Nat × Slot)} {hs : List HO} {nx nx' : Nat} {df : List Nat} (t : Nat) (ty : TypeId) (k : IntKind) (sz : Nat) (ht : alGet ts t = some ⟨true, .av (.s .nils)⟩)
    (hts : ts' = (t, ⟨true, .av (.s (.sl hs.length 0 sz 0))⟩) :: ts.filter (fun p => !(Nat.beq p.1 t))) (_hnx : nx' = nx + 1) : Weak T kp (mkSt ts hs nx df) (mkSt ts' (hs ++ [⟨false, .ivec ty k sz []⟩]) nx' df) := by
  intro ctx nt m a w hR
  have h0 : m hs.length = none := hR.heap.dom _ (by rw [mkSt_hp]; simp)
  let m' : MM := fun j => if j = hs.length then some ⟨none, 0, 0⟩ else m j
  have hle : m.le m' := fun id mb hm => by
    show (if id = hs.length then _ else m id) = _
    rw [if_neg (fun e => by rw [e, h0] at hm; cases hm)]
    exact hm
  have hn : m' hs.length = some ⟨none, 0, 0⟩ := if_pos rfl
  have hother : ∀ j, j ≠ hs.length → m' j = m j := fun j hj => if_neg hj
  have hget : ∀ j, (mkSt ts' (hs ++ [⟨false, .ivec ty k sz []⟩]) nx' df).hp.get j = if j = hs.length then some ⟨false, .ivec ty k sz []⟩ else (mkSt ts hs nx df).hp.get j := fun j => by
    rw [mkSt_hp, mkSt_hp]
    by_cases hj : j = hs.length
    · subst hj; simp
    · rw [if_neg hj]
      by_cases hl : j < hs.length
      · rw [List.getElem?_append_left hl]
      · rw [List.getElem?_eq_none (by simp; omega), List.getElem?_eq_none (by omega)]
  refine ⟨m', hle.toK kp, ⟨fun u s hs' => ?_, hR.size, ⟨fun id ho hid => ?_, fun id id' ho ho' mb mb' b hne hid hid' hro hl hl' hm hm' hb => ?_, fun id hid => ?_, hR.heap.os, hR.heap.tape, hR.heap.output, hR.heap.size, hR.heap.same0⟩, ?_⟩⟩
  · have hs' : alGet ts' u = some s := hs'
    rw [hts, alGet_cons] at hs'
    by_cases hu : t = u
    · subst hu
      rw [beqT rfl, cond_true] at hs'
      cases hs'
      obtain ⟨h1, h2⟩ := hR.slot t _ ht
      have h1 : (a.tmps.getD t undef) = .slice none 0 0 := h1 rfl
      exact ⟨fun _ => ⟨_, hn, Nat.le_refl _, .inl ⟨rfl, h1, rfl, rfl, rfl⟩⟩, h2⟩
    · rw [beqF hu, cond_false] at hs'
      have : alGet ts u = some s := alGet_filter hu hs'
      obtain ⟨h1, h2⟩ := hR.slot u s this
      exact ⟨fun c => (h1 c).le hle, h2⟩
  · rw [hget] at hid
    by_cases hj : id = hs.length
    · rw [if_pos hj] at hid
      cases hid
      subst hj
      exact ⟨_, hn, .inl ⟨rfl, rfl, rfl⟩, fun _ b hb => (by cases hb), fun _ _ b hb => (by cases hb)⟩
    · rw [if_neg hj] at hid
      obtain ⟨mb, g1, g2, g3, g4⟩ := hR.heap.obj id ho hid
      exact ⟨mb, hle _ _ g1, g2.le hle, g3, g4⟩
  · rw [hget] at hid hid'
    by_cases hj : id = hs.length
    · subst hj
      rw [hn] at hm
      cases hm
      cases hb
    · by_cases hj' : id' = hs.length
      · subst hj'
        rw [hn] at hm'
        cases hm'
        intro h; cases h
      · rw [if_neg hj] at hid
        rw [if_neg hj'] at hid'
        rw [hother _ hj] at hm
        rw [hother _ hj'] at hm'
        exact hR.heap.dist id id' ho ho' mb mb' b hne hid hid' hro hl hl' hm hm' hb
  · rw [hget] at hid
    by_cases hj : id = hs.length
    · rw [if_pos hj] at hid; cases hid
    · rw [if_neg hj] at hid
      rw [hother _ hj]
      exact hR.heap.dom id hid
  · exact All2.mono (fun id d ⟨mb, b, e1, e2, e3⟩ => ⟨mb, b, hle _ _ e1, e2, e3⟩) hR.df
end
theorem exec_loop_from {P : Program} {T : Tab} {r : Option Nat} {nt kp : Nat} {x : XC} (S : Nat → St) (lo n : Nat) {e : XE} {S' : St} (h : ∀ i, lo ≤ i → i < n → Exec P T r nt kp x (S i) .n (S (i + 1))) (hl : Exec P T r nt kp x (S n) e S') (he : e ≠ .n) (hlo : lo ≤ n) : Exec P T r nt kp (.loop x) (S lo) e S' := by
  have := exec_loop_up (P := P) (T := T) (r := r) (nt := nt) (kp := kp) (x := x) (fun j => S (lo + j)) (n - lo) (fun i hi => h (lo + i) (by omega) (by omega)) (by show Exec _ _ _ _ _ _ (S (lo + (n - lo))) _ _; rw [show lo + (n - lo) = n by omega]; exact hl) he 0 (by omega)
  exact this
def flat (l : List (Int × Int)) : List Int := l.flatMap fun p => [p.1, p.2]
theorem flat_len (l : List (Int × Int)) : (flat l).length = l.length * 2 := by
  unfold flat
  induction l with
  | nil => rfl
  | cons a l ih => rw [List.flatMap_cons, List.length_append, ih]; simp; omega
theorem flat_app (l : List (Int × Int)) (a b : Int) : flat (l ++ [(a, b)]) = flat l ++ [a, b] := by
  simp [flat, List.flatMap_append]
def rowL (g : Nat → Nat → Bool) (a b : Nat) : List (Int × Int) := ((List.range b).filter (g a)).map fun j : Nat => (Int.ofNat a, Int.ofNat j)
def listL (g : Nat → Nat → Bool) (n a : Nat) : List (Int × Int) := (List.range a).flatMap fun x => rowL g x n
theorem rowL_t {g : Nat → Nat → Bool} {a b : Nat} (h : g a b = true) : rowL g a (b + 1) = rowL g a b ++ [(Int.ofNat a, Int.ofNat b)] := by
  simp [rowL, List.range_succ, List.filter_append, h]
theorem rowL_f {g : Nat → Nat → Bool} {a b : Nat} (h : g a b = false) : rowL g a (b + 1) = rowL g a b := by
  simp [rowL, List.range_succ, List.filter_append, h]
theorem listL_succ (g : Nat → Nat → Bool) (n a : Nat) : listL g n (a + 1) = listL g n a ++ rowL g a n := by
  simp [listL, List.range_succ, List.flatMap_append]
theorem rowL_len (g : Nat → Nat → Bool) (a b : Nat) : (rowL g a b).length ≤ b := by
  simp only [rowL, List.length_map]
  have := List.length_filter_le (g a) (List.range b)
  simpa using this
theorem listL_len (g : Nat → Nat → Bool) (n : Nat) : ∀ a, (listL g n a).length ≤ a * n
  | 0 => by simp [listL]
  | a + 1 => by
    rw [listL_succ, List.length_append, Nat.succ_mul]
    have := listL_len g n a
    have := rowL_len g a n
    omega
/-- what has been gathered inside -/
def midL (g : Nat → Nat → Bool) (n a b : Nat) : List (Int × Int) := listL g n a ++ rowL g a b
theorem midL_len {g : Nat → Nat → Bool} {n a b : Nat} (ha : a ≤ 7) (hn : n ≤ 7) (hb : b ≤ 7) : (midL g n a b).length ≤ 100 := by
  unfold midL
  rw [List.length_append]
  have h1 := listL_len g n a
  have h2 := rowL_len g a b
  have : a * n ≤ 7 * 7 := Nat.mul_le_mul ha hn
  omega
theorem midL_f {g : Nat → Nat → Bool} {n a b : Nat} (h : g a b = false) : midL g n a (b + 1) = midL g n a b := by unfold midL; rw [rowL_f h]
theorem midL_tl {g : Nat → Nat → Bool} {n a b : Nat} (h : g a b = true) : (midL g n a (b + 1)).length = (midL g n a b).length + 1 := by unfold midL; rw [rowL_t h]; simp; omega
theorem midL_tf {g : Nat → Nat → Bool} {n a b : Nat} (h : g a b = true) : flat (midL g n a (b + 1)) = List.take ((midL g n a b).length * 2) (flat (midL g n a b)) ++ [Int.ofNat a, Int.ofNat b] := by
  rw [← flat_len, List.take_length]
  unfold midL
  rw [rowL_t h, ← List.append_assoc, flat_app]
theorem midL_0 {g : Nat → Nat → Bool} {n a : Nat} : midL g n a 0 = listL g n a := by simp [midL, rowL]
theorem midL_lo {g : Nat → Nat → Bool} {n a b : Nat} (h : ∀ j, j < b → g a j = false) : midL g n a b = listL g n a := by
  have : rowL g a b = [] := by
    unfold rowL
    rw [List.map_eq_nil_iff, List.filter_eq_nil_iff]
    intro j hj
    rw [h j (List.mem_range.1 hj)]
    simp
  unfold midL
  rw [this, List.append_nil]
theorem midL_end {g : Nat → Nat → Bool} {n a : Nat} : midL g n a n = listL g n (a + 1) := by rw [listL_succ]; rfl
abbrev lsS (k : Nat) (m : Nat) : Slot := ⟨true, .av (.s (.sl k 0 2 m))⟩
theorem exec_eq {P : Program} {T : Tab} {r : Option Nat} {nt kp : Nat} {c : XC} {S S1 S2 : St} {e : XE} (h : Exec P T r nt kp c S e S1) (hs : S1 = S2) : Exec P T r nt kp c S e S2 := hs ▸ h
def L56 : XC := x56.body.b.b.a.b.i.i
def M56 : XC := L56.b.b.a.i.b.b.i.i
abbrev S56 (f : Nat → Bool) (m : Nat) (q : List Int) (a : Nat) : St := mkSt [(1, g1S 0), (3, lsS 1 m), (6, ⟨true, I a⟩)] [⟨false, .row 70 [] 49 f⟩, ⟨false, .ivec 38 .i64 2 q⟩] 2 []
abbrev P56 (f : Nat → Bool) (m : Nat) (q : List Int) (a : Nat) : St := mkSt [(1, g1S 0), (3, lsS 1 m), (6, ⟨true, I a⟩), (7, ⟨true, B (decide (Int.ofNat a < 7))⟩)] [⟨false, .row 70 [] 49 f⟩, ⟨false, .ivec 38 .i64 2 q⟩] 2 []
abbrev U56 (f : Nat → Bool) (m : Nat) (q : List Int) (a b : Nat) : St := mkSt [(1, g1S 0), (3, lsS 1 m), (4, ⟨true, I a⟩), (6, ⟨true, I a⟩), (9, ⟨true, I b⟩)] [⟨false, .row 70 [] 49 f⟩, ⟨false, .ivec 38 .i64 2 q⟩] 2 []
abbrev K56 (f : Nat → Bool) (m : Nat) (q : List Int) (a : Nat) : St := mkSt [(1, g1S 0), (3, lsS 1 m), (4, ⟨true, I a⟩), (6, ⟨true, I a⟩)] [⟨false, .row 70 [] 49 f⟩, ⟨false, .ivec 38 .i64 2 q⟩] 2 []
abbrev W56 (f : Nat → Bool) (m : Nat) (q : List Int) (a b : Nat) : St := mkSt [(1, g1S 0), (3, lsS 1 m), (4, ⟨true, I a⟩), (6, ⟨true, I a⟩), (9, ⟨true, I b⟩), (5, ⟨true, I b⟩)] [⟨false, .row 70 [] 49 f⟩, ⟨false, .ivec 38 .i64 2 q⟩] 2 []
theorem l56a {f : Nat → Bool} {m : Nat} {q : List Int} {a : Nat} : Exec PP T none x56.nt 0 L56.a (S56 f m q a) .n (P56 f m q a) := by
  refine exec_orun env0 false 60 [] [0, 1] (fun _ => rfl) (by kernel_rfl) (by kernel_rfl) (by kernel_rfl) ?_
  rw [(show obOf (orun g0 false 60 L56.a (S56 f m q a) []) = (true) from by kernel_rfl)]
theorem l56b {f : Nat → Bool} {m : Nat} {q : List Int} {a : Nat} (ha : a < 7) : Exec PP T none x56.nt 0 L56.b.a (P56 f m q a) .n (S56 f m q a) := by
  refine exec_orun env0 false 60 [true] [0, 1] (fun _ => rfl) (by kernel_rfl) (by kernel_rfl) (by kernel_rfl) ?_
  rw [(show obOf (orun g0 false 60 L56.b.a (P56 f m q a) [true]) = (decide (Int.ofNat a < 7) && true) from by kernel_rfl)]
  simp
  omega
theorem l56x {f : Nat → Bool} {m : Nat} {q : List Int} {a : Nat} (ha : ¬ a < 7) : Exec PP T none x56.nt 0 L56.b.a (P56 f m q a) (.x 0) (S56 f m q a) := by
  refine exec_orun env0 false 60 [false] [0, 1] (fun _ => rfl) (by kernel_rfl) (by kernel_rfl) (by kernel_rfl) ?_
  rw [(show obOf (orun g0 false 60 L56.b.a (P56 f m q a) [false]) = (!decide (Int.ofNat a < 7) && true) from by kernel_rfl)]
  simp
  omega
theorem l56c {f : Nat → Bool} {m : Nat} {q : List Int} {a : Nat} : Exec PP T none x56.nt 0 L56.b.b.a.i.a (S56 f m q a) .n (K56 f m q a) := by
  refine exec_orun env0 false 60 [] [0, 1] (fun _ => rfl) (by kernel_rfl) (by kernel_rfl) (by kernel_rfl) ?_
  rw [(show obOf (orun g0 false 60 L56.b.b.a.i.a (S56 f m q a) []) = (true) from by kernel_rfl)]
theorem l56d {f : Nat → Bool} {m : Nat} {q : List Int} {a : Nat} (ha : a < 8) : Exec PP T none x56.nt 0 L56.b.b.a.i.b.a (K56 f m q a) .n (U56 f m q a 0) := by
  refine exec_orun env0 false 60 [] [0, 1] (fun _ => rfl) (by kernel_rfl) (by kernel_rfl) (by kernel_rfl) ?_
  rw [(show obOf (orun g0 false 60 L56.b.b.a.i.b.a (K56 f m q a) []) = (true) from by kernel_rfl)]
  try simp [rng64]
  try omega
theorem l56e {f : Nat → Bool} {m : Nat} {q : List Int} {a : Nat} {b : Nat} (ha : a < 8) : Exec PP T none x56.nt 0 L56.b.b.b (U56 f m q a b) .n (S56 f m q (a + 1)) := by
  refine exec_orun env0 false 60 [] [0, 1] (fun _ => rfl) (by kernel_rfl) (by kernel_rfl) (by kernel_rfl) ?_
  rw [(show obOf (orun g0 false 60 L56.b.b.b (U56 f m q a b) []) = (rng64 (Int.ofNat a.succ) && true) from by kernel_rfl)]
  simp [rng64]
  omega
abbrev Q56 (f : Nat → Bool) (m : Nat) (q : List Int) (a b : Nat) : St := mkSt [(1, g1S 0), (3, lsS 1 m), (4, ⟨true, I a⟩), (6, ⟨true, I a⟩), (9, ⟨true, I b⟩), (10, ⟨true, B (decide (Int.ofNat b < 7))⟩)] [⟨false, .row 70 [] 49 f⟩, ⟨false, .ivec 38 .i64 2 q⟩] 2 []
theorem m56a {f : Nat → Bool} {m : Nat} {q : List Int} {a : Nat} {b : Nat} : Exec PP T none x56.nt 0 M56.a (U56 f m q a b) .n (Q56 f m q a b) := by
  refine exec_orun env0 false 60 [] [0, 1] (fun _ => rfl) (by kernel_rfl) (by kernel_rfl) (by kernel_rfl) ?_
  rw [(show obOf (orun g0 false 60 M56.a (U56 f m q a b) []) = (true) from by kernel_rfl)]
theorem m56b {f : Nat → Bool} {m : Nat} {q : List Int} {a : Nat} {b : Nat} (hb : b < 7) : Exec PP T none x56.nt 0 M56.b.a (Q56 f m q a b) .n (U56 f m q a b) := by
  refine exec_orun env0 false 60 [true] [0, 1] (fun _ => rfl) (by kernel_rfl) (by kernel_rfl) (by kernel_rfl) ?_
  rw [(show obOf (orun g0 false 60 M56.b.a (Q56 f m q a b) [true]) = (decide (Int.ofNat b < 7) && true) from by kernel_rfl)]
  simp
  omega
theorem m56x {f : Nat → Bool} {m : Nat} {q : List Int} {a : Nat} {b : Nat} (hb : ¬ b < 7) : Exec PP T none x56.nt 0 M56.b.a (Q56 f m q a b) (.x 2) (U56 f m q a b) := by
  refine exec_orun env0 false 60 [false] [0, 1] (fun _ => rfl) (by kernel_rfl) (by kernel_rfl) (by kernel_rfl) ?_
  rw [(show obOf (orun g0 false 60 M56.b.a (Q56 f m q a b) [false]) = (!decide (Int.ofNat b < 7) && true) from by kernel_rfl)]
  simp
  omega
theorem m56e {f : Nat → Bool} {m : Nat} {q : List Int} {a : Nat} {b : Nat} (hb : b < 8) : Exec PP T none x56.nt 0 M56.b.b.b (U56 f m q a b) .n (U56 f m q a (b + 1)) := by
  refine exec_orun env0 false 60 [] [0, 1] (fun _ => rfl) (by kernel_rfl) (by kernel_rfl) (by kernel_rfl) ?_
  rw [(show obOf (orun g0 false 60 M56.b.b.b (U56 f m q a b) []) = (rng64 (Int.ofNat b.succ) && true) from by kernel_rfl)]
  simp [rng64]
  omega
theorem y56a {f : Nat → Bool} {m : Nat} {q : List Int} {a : Nat} {b : Nat} : Exec PP T none x56.nt 0 M56.b.b.a.i.a (U56 f m q a b) .n (W56 f m q a b) := by
  refine exec_orun env0 false 60 [] [0, 1] (fun _ => rfl) (by kernel_rfl) (by kernel_rfl) (by kernel_rfl) ?_
  rw [(show obOf (orun g0 false 60 M56.b.b.a.i.a (U56 f m q a b) []) = (true) from by kernel_rfl)]
theorem y56f {f : Nat → Bool} {m : Nat} {q : List Int} {a : Nat} {b : Nat} (ha : a < 7) (hb : b < 7) (h : at7 f a b = false) : Exec PP T none x56.nt 0 M56.b.b.a.i.b (W56 f m q a b) .n (U56 f m q a b) := by
  refine exec_orun env0 false 60 [false] [0, 1] (fun _ => rfl) (by kernel_rfl) (by kernel_rfl) (by kernel_rfl) ?_
  rw [(show obOf (orun g0 false 60 M56.b.b.a.i.b (W56 f m q a b) [false]) = (decide (0 ≤ Int.ofNat a) && decide (Int.ofNat a < 7) && (decide (0 ≤ Int.ofNat b) && decide (Int.ofNat b < 7) && (decide (0 + (0 + a * 7 + b * 1) < 49) && true)) && (!f (0 + (0 + a * 7 + b * 1)) && true)) from by kernel_rfl)]
  unfold at7 at h
  simp [h]
  omega
theorem y56t {f : Nat → Bool} {m : Nat} {q : List Int} {a : Nat} {b : Nat} (hq : q.length = m * 2) (hm : m ≤ 100) (ha : a < 7) (hb : b < 7) (h : at7 f a b = true) : Exec PP T none x56.nt 0 M56.b.b.a.i.b (W56 f m q a b) .n (mkSt [(1, g1S 0), (3, lsS 1 (m + 1)), (4, ⟨true, I a⟩), (6, ⟨true, I a⟩), (9, ⟨true, I b⟩)] [⟨false, .row 70 [] 49 f⟩, ⟨false, .ivec 38 .i64 2 (List.take (m * 2) q ++ [Int.ofNat a, Int.ofNat b])⟩] 2 []) := by
  refine exec_orun env0 false 60 [true] [0, 3] (fun _ => rfl) (by kernel_rfl) (by kernel_rfl) (by kernel_rfl) ?_
  rw [(show obOf (orun g0 false 60 M56.b.b.a.i.b (W56 f m q a b) [true]) = (decide (0 ≤ Int.ofNat a) && decide (Int.ofNat a < 7) && (decide (0 ≤ Int.ofNat b) && decide (Int.ofNat b < 7) && (decide (0 + (0 + a * 7 + b * 1) < 49) && true)) && (f (0 + (0 + a * 7 + b * 1)) && (decide (2 ≤ Nat.succ 1) && decide (m * 2 ≤ q.length) && decide (m.succ ≤ 1000000000) && true && true && true))) from by kernel_rfl)]
  unfold at7 at h
  simp [h, hq]
  omega
abbrev gg56 (f : Nat → Bool) : Nat → Nat → Bool := fun a b => at7 f a b
abbrev sU56 (f : Nat → Bool) (n' a b : Nat) : St := U56 f (midL (gg56 f) n' a b).length (flat (midL (gg56 f) n' a b)) a b
abbrev sS56 (f : Nat → Bool) (n' a : Nat) : St := S56 f (listL (gg56 f) n' a).length (flat (listL (gg56 f) n' a)) a
theorem m56 {f : Nat → Bool} {n' a b : Nat} (ha : a < 7) (hb : b < 7) (hb7 : b < 7) (hn' : n' ≤ 7) : Exec PP T none x56.nt 0 M56 (sU56 f n' a b) .n (sU56 f n' a (b + 1)) := by
  have hl := midL_len (g := (gg56 f)) (n := n') (a := a) (b := b) (by omega) hn' (by omega)
  have hf := flat_len (midL (gg56 f) n' a b)
  show Exec PP T none x56.nt 0 M56 _ .n (U56 f (midL (gg56 f) n' a (b + 1)).length (flat (midL (gg56 f) n' a (b + 1))) a (b + 1))
  cases h : at7 f a b with
  | false =>
    rw [midL_f h]
    exact exec_seq (x := M56.a) (y := M56.b) m56a (exec_seq (x := M56.b.a) (y := M56.b.b) (m56b hb) (exec_seq (x := M56.b.b.a) (y := M56.b.b.b) (exec_block (id := 3) (x := M56.b.b.a.i) (e := .n) (exec_seq (x := M56.b.b.a.i.a) (y := M56.b.b.a.i.b) y56a (y56f ha hb7 h))) (m56e (by omega))))
  | true =>
    rw [midL_tl h, midL_tf h]
    exact exec_seq (x := M56.a) (y := M56.b) m56a (exec_seq (x := M56.b.a) (y := M56.b.b) (m56b hb) (exec_seq (x := M56.b.b.a) (y := M56.b.b.b) (exec_block (id := 3) (x := M56.b.b.a.i) (e := .n) (exec_seq (x := M56.b.b.a.i.a) (y := M56.b.b.a.i.b) y56a (y56t hf hl ha hb7 h))) (m56e (by omega))))
theorem l56 {f : Nat → Bool} {a : Nat} (ha : a < 7) (hn' : 7 ≤ 7) : Exec PP T none x56.nt 0 L56 (sS56 f 7 a) .n (sS56 f 7 (a + 1)) := by
  show Exec PP T none x56.nt 0 L56 _ .n (S56 f (listL (gg56 f) 7 (a + 1)).length (flat (listL (gg56 f) 7 (a + 1))) (a + 1))
  rw [← midL_end]
  refine exec_seq (x := L56.a) (y := L56.b) l56a (exec_seq (x := L56.b.a) (y := L56.b.b) (l56b ha) (exec_seq (x := L56.b.b.a) (y := L56.b.b.b) (exec_block (id := 1) (x := L56.b.b.a.i) (e := .n) (exec_seq (x := L56.b.b.a.i.a) (y := L56.b.b.a.i.b) l56c (exec_seq (x := L56.b.b.a.i.b.a) (y := .block 2 (.loop M56)) (l56d (by omega))
    (exec_block (e := .x 2) ?_)))) (l56e (b := 7) (by omega))))
  have h0 : midL (gg56 f) 7 a 0 = listL (gg56 f) 7 a := midL_0
  rw [← h0]
  exact exec_loop_from (fun b => sU56 f 7 a b) 0 7 (fun b hlo hb => m56 (by omega) hb (by omega) hn') (exec_seq (x := M56.a) (y := M56.b) m56a (exec_seq_x (x := M56.b.a) (y := M56.b.b) (m56x (by omega)) (by simp))) (by simp) (by omega)
theorem a56 {f : Nat → Bool} : Exec PP T none x56.nt 0 x56.body.a (startSt [.pb [] 49 f] []) .n (mkSt [(1, g1S 0)] [⟨false, .row 70 [] 49 f⟩] 1 []) := by
  refine exec_orun env0 false 60 [] [0] (fun _ => rfl) (by kernel_rfl) (by kernel_rfl) (by kernel_rfl) (by kernel_rfl)
theorem a56' {f : Nat → Bool} : Exec PP T none x56.nt 0 x56.body.b.a (mkSt [(1, g1S 0)] [⟨false, .row 70 [] 49 f⟩] 1 []) .n (mkSt [(3, lsS 1 0), (1, g1S 0)] [⟨false, .row 70 [] 49 f⟩, ⟨false, .ivec 38 .i64 2 []⟩] 2 []) := by
  have key : Exec PP T none x56.nt 0 x56.body.b.a (mkSt [(1, g1S 0)] [⟨false, .row 70 [] 49 f⟩] 1 []) .n (mkSt [(1, g1S 0), (3, ⟨true, .av (.s .nils)⟩)] [⟨false, .row 70 [] 49 f⟩] 1 []) := by
    refine exec_orun env0 false 60 [] [0] (fun _ => rfl) (by kernel_rfl) (by kernel_rfl) (by kernel_rfl) (by kernel_rfl)
  exact key.post (weak_nil 3 38 .i64 2 rfl rfl rfl)
theorem b56 {f : Nat → Bool} : Exec PP T none x56.nt 0 x56.body.b.b.a.a (mkSt [(3, lsS 1 0), (1, g1S 0)] [⟨false, .row 70 [] 49 f⟩, ⟨false, .ivec 38 .i64 2 []⟩] 2 []) .n (S56 f 0 [] 0) := by
  refine exec_orun env0 false 60 [] [0, 1] (fun _ => rfl) (by kernel_rfl) (by kernel_rfl) (by kernel_rfl) (by kernel_rfl)
theorem d56 {f : Nat → Bool} {m : Nat} {q : List Int} : Exec PP T none x56.nt 0 x56.body.b.b.b (S56 f m q 7) .r (mkSt [(2, lsS 0 m)] [⟨false, .ivec 38 .i64 2 q⟩] 1 []) := by
  refine exec_orun env0 false 60 [] [1] (fun _ => rfl) (by kernel_rfl) (by kernel_rfl) (by kernel_rfl) (by kernel_rfl)
def toldL (f : Nat → Bool) : List (Int × Int) := listL (fun a b => at7 f a b) 7 7
theorem body56 {f : Nat → Bool} : Exec PP T none x56.nt 0 x56.body (startSt [.pb [] 49 f] []) .r (mkSt [(2, lsS 0 (toldL f).length)] [⟨false, .ivec 38 .i64 2 (flat (toldL f))⟩] 1 []) := by
  refine exec_seq (x := x56.body.a) (y := x56.body.b) a56 (exec_seq (x := x56.body.b.a) (y := x56.body.b.b) a56' (exec_seq (x := x56.body.b.b.a) (y := x56.body.b.b.b) (exec_seq (x := x56.body.b.b.a.a) (y := .block 0 (.loop L56)) b56 (exec_block (e := .x 0) ?_)) (d56 (f := f))))
  exact exec_loop_up (fun a => sS56 f 7 a) 7 (fun a ha => l56 ha (by omega)) (exec_seq (x := L56.a) (y := L56.b) l56a (exec_seq_x (x := L56.b.a) (y := L56.b.b) (l56x (by omega)) (by simp))) (by simp) 0 (by omega)
def spTold : Spec where
  run := fun args h base => match args with
    | [.pb [] 49 f] => some ⟨true, .av (.s (.sl base 0 2 (toldL f).length)), [], [⟨false, .ivec 38 .i64 2 (flat (toldL f))⟩], some []⟩
    | _ => none
theorem spTold_fp : SpecFp spTold := fun args h h' base e hr hf => hr
theorem ok56 : SpecOK PP (compC T) 56 spTold := by
  refine spec_gen tokP o56 fun ctx m h w args vals base e hH hargs hr hvc => ?_
  simp only [spTold] at hr
  split at hr
  case h_2 => cases hr
  rename_i f
  cases hr
  match vals, hargs with
  | [v1], ⟨ha1, _⟩ =>
    exact ⟨rfl, emV, [], [.pb [] 49 f], shown_new (tv := .av (.s (.sl 0 0 2 (toldL f).length))) (o := .ivec 38 .i64 2 (flat (toldL f))) ro0 ⟨pb0_any ha1, trivial⟩ (by kernel_rfl) body56 (fun _ => rfl) (by kernel_rfl) (by kernel_rfl) rfl rfl rfl (fun _ => rfl)⟩
def L53 : XC := x53.body.b.b.a.b.i.i
def M53 : XC := L53.b.b.a.i.b.b.i.i
abbrev S53 (n : Nat) (f : Nat → Bool) (m : Nat) (q : List Int) (a : Nat) : St := mkSt [(0, g1S 0), (3, lsS 1 m), (9, ⟨true, I n⟩), (10, ⟨true, I a⟩)] [⟨true, .row 115 [.int .i64 (Int.ofNat n)] 49 f⟩, ⟨false, .ivec 77 .i64 2 q⟩] 2 []
abbrev P53 (n : Nat) (f : Nat → Bool) (m : Nat) (q : List Int) (a : Nat) : St := mkSt [(0, g1S 0), (3, lsS 1 m), (9, ⟨true, I n⟩), (10, ⟨true, I a⟩), (11, ⟨true, B (decide (Int.ofNat a < Int.ofNat n))⟩)] [⟨true, .row 115 [.int .i64 (Int.ofNat n)] 49 f⟩, ⟨false, .ivec 77 .i64 2 q⟩] 2 []
abbrev U53 (n : Nat) (f : Nat → Bool) (m : Nat) (q : List Int) (a b : Nat) : St := mkSt [(0, g1S 0), (3, lsS 1 m), (4, ⟨true, I a⟩), (9, ⟨true, I n⟩), (10, ⟨true, I a⟩), (16, ⟨true, I n⟩), (17, ⟨true, I b⟩)] [⟨true, .row 115 [.int .i64 (Int.ofNat n)] 49 f⟩, ⟨false, .ivec 77 .i64 2 q⟩] 2 []
abbrev K53 (n : Nat) (f : Nat → Bool) (m : Nat) (q : List Int) (a : Nat) : St := mkSt [(0, g1S 0), (3, lsS 1 m), (4, ⟨true, I a⟩), (9, ⟨true, I n⟩), (10, ⟨true, I a⟩)] [⟨true, .row 115 [.int .i64 (Int.ofNat n)] 49 f⟩, ⟨false, .ivec 77 .i64 2 q⟩] 2 []
abbrev W53 (n : Nat) (f : Nat → Bool) (m : Nat) (q : List Int) (a b : Nat) : St := mkSt [(0, g1S 0), (3, lsS 1 m), (4, ⟨true, I a⟩), (9, ⟨true, I n⟩), (10, ⟨true, I a⟩), (16, ⟨true, I n⟩), (17, ⟨true, I b⟩), (5, ⟨true, I b⟩)] [⟨true, .row 115 [.int .i64 (Int.ofNat n)] 49 f⟩, ⟨false, .ivec 77 .i64 2 q⟩] 2 []
theorem l53a {n : Nat} {f : Nat → Bool} {m : Nat} {q : List Int} {a : Nat} : Exec PP T none x53.nt 0 L53.a (S53 n f m q a) .n (P53 n f m q a) := by
  refine exec_orun env0 false 60 [] [0, 1] (fun _ => rfl) (by kernel_rfl) (by kernel_rfl) (by kernel_rfl) ?_
  rw [(show obOf (orun g0 false 60 L53.a (S53 n f m q a) []) = (true) from by kernel_rfl)]
theorem l53b {n : Nat} {f : Nat → Bool} {m : Nat} {q : List Int} {a : Nat} (ha : a < n) : Exec PP T none x53.nt 0 L53.b.a (P53 n f m q a) .n (S53 n f m q a) := by
  refine exec_orun env0 false 60 [true] [0, 1] (fun _ => rfl) (by kernel_rfl) (by kernel_rfl) (by kernel_rfl) ?_
  rw [(show obOf (orun g0 false 60 L53.b.a (P53 n f m q a) [true]) = (decide (Int.ofNat a < Int.ofNat n) && true) from by kernel_rfl)]
  simp
  omega
theorem l53x {n : Nat} {f : Nat → Bool} {m : Nat} {q : List Int} {a : Nat} (ha : ¬ a < n) : Exec PP T none x53.nt 0 L53.b.a (P53 n f m q a) (.x 0) (S53 n f m q a) := by
  refine exec_orun env0 false 60 [false] [0, 1] (fun _ => rfl) (by kernel_rfl) (by kernel_rfl) (by kernel_rfl) ?_
  rw [(show obOf (orun g0 false 60 L53.b.a (P53 n f m q a) [false]) = (!decide (Int.ofNat a < Int.ofNat n) && true) from by kernel_rfl)]
  simp
  omega
theorem l53c {n : Nat} {f : Nat → Bool} {m : Nat} {q : List Int} {a : Nat} : Exec PP T none x53.nt 0 L53.b.b.a.i.a (S53 n f m q a) .n (K53 n f m q a) := by
  refine exec_orun env0 false 60 [] [0, 1] (fun _ => rfl) (by kernel_rfl) (by kernel_rfl) (by kernel_rfl) ?_
  rw [(show obOf (orun g0 false 60 L53.b.b.a.i.a (S53 n f m q a) []) = (true) from by kernel_rfl)]
theorem l53d {n : Nat} {f : Nat → Bool} {m : Nat} {q : List Int} {a : Nat} (ha : a < 8) : Exec PP T none x53.nt 0 L53.b.b.a.i.b.a (K53 n f m q a) .n (U53 n f m q a 0) := by
  refine exec_orun env0 false 60 [] [0, 1] (fun _ => rfl) (by kernel_rfl) (by kernel_rfl) (by kernel_rfl) ?_
  rw [(show obOf (orun g0 false 60 L53.b.b.a.i.b.a (K53 n f m q a) []) = (true) from by kernel_rfl)]
  try simp [rng64]
  try omega
theorem l53e {n : Nat} {f : Nat → Bool} {m : Nat} {q : List Int} {a : Nat} {b : Nat} (ha : a < 8) : Exec PP T none x53.nt 0 L53.b.b.b (U53 n f m q a b) .n (S53 n f m q (a + 1)) := by
  refine exec_orun env0 false 60 [] [0, 1] (fun _ => rfl) (by kernel_rfl) (by kernel_rfl) (by kernel_rfl) ?_
  rw [(show obOf (orun g0 false 60 L53.b.b.b (U53 n f m q a b) []) = (rng64 (Int.ofNat a.succ) && true) from by kernel_rfl)]
  simp [rng64]
  omega
abbrev Q53 (n : Nat) (f : Nat → Bool) (m : Nat) (q : List Int) (a b : Nat) : St := mkSt [(0, g1S 0), (3, lsS 1 m), (4, ⟨true, I a⟩), (9, ⟨true, I n⟩), (10, ⟨true, I a⟩), (16, ⟨true, I n⟩), (17, ⟨true, I b⟩), (18, ⟨true, B (decide (Int.ofNat b < Int.ofNat n))⟩)] [⟨true, .row 115 [.int .i64 (Int.ofNat n)] 49 f⟩, ⟨false, .ivec 77 .i64 2 q⟩] 2 []
theorem m53a {n : Nat} {f : Nat → Bool} {m : Nat} {q : List Int} {a : Nat} {b : Nat} : Exec PP T none x53.nt 0 M53.a (U53 n f m q a b) .n (Q53 n f m q a b) := by
  refine exec_orun env0 false 60 [] [0, 1] (fun _ => rfl) (by kernel_rfl) (by kernel_rfl) (by kernel_rfl) ?_
  rw [(show obOf (orun g0 false 60 M53.a (U53 n f m q a b) []) = (true) from by kernel_rfl)]
theorem m53b {n : Nat} {f : Nat → Bool} {m : Nat} {q : List Int} {a : Nat} {b : Nat} (hb : b < n) : Exec PP T none x53.nt 0 M53.b.a (Q53 n f m q a b) .n (U53 n f m q a b) := by
  refine exec_orun env0 false 60 [true] [0, 1] (fun _ => rfl) (by kernel_rfl) (by kernel_rfl) (by kernel_rfl) ?_
  rw [(show obOf (orun g0 false 60 M53.b.a (Q53 n f m q a b) [true]) = (decide (Int.ofNat b < Int.ofNat n) && true) from by kernel_rfl)]
  simp
  omega
theorem m53x {n : Nat} {f : Nat → Bool} {m : Nat} {q : List Int} {a : Nat} {b : Nat} (hb : ¬ b < n) : Exec PP T none x53.nt 0 M53.b.a (Q53 n f m q a b) (.x 2) (U53 n f m q a b) := by
  refine exec_orun env0 false 60 [false] [0, 1] (fun _ => rfl) (by kernel_rfl) (by kernel_rfl) (by kernel_rfl) ?_
  rw [(show obOf (orun g0 false 60 M53.b.a (Q53 n f m q a b) [false]) = (!decide (Int.ofNat b < Int.ofNat n) && true) from by kernel_rfl)]
  simp
  omega
theorem m53e {n : Nat} {f : Nat → Bool} {m : Nat} {q : List Int} {a : Nat} {b : Nat} (hb : b < 8) : Exec PP T none x53.nt 0 M53.b.b.b (U53 n f m q a b) .n (U53 n f m q a (b + 1)) := by
  refine exec_orun env0 false 60 [] [0, 1] (fun _ => rfl) (by kernel_rfl) (by kernel_rfl) (by kernel_rfl) ?_
  rw [(show obOf (orun g0 false 60 M53.b.b.b (U53 n f m q a b) []) = (rng64 (Int.ofNat b.succ) && true) from by kernel_rfl)]
  simp [rng64]
  omega
theorem y53a {n : Nat} {f : Nat → Bool} {m : Nat} {q : List Int} {a : Nat} {b : Nat} : Exec PP T none x53.nt 0 M53.b.b.a.i.a (U53 n f m q a b) .n (W53 n f m q a b) := by
  refine exec_orun env0 false 60 [] [0, 1] (fun _ => rfl) (by kernel_rfl) (by kernel_rfl) (by kernel_rfl) ?_
  rw [(show obOf (orun g0 false 60 M53.b.b.a.i.a (U53 n f m q a b) []) = (true) from by kernel_rfl)]
theorem y53f {n : Nat} {f : Nat → Bool} {m : Nat} {q : List Int} {a : Nat} {b : Nat} (ha : a < 7) (hb : b < 7) (h : at7 f a b = false) : Exec PP T none x53.nt 0 M53.b.b.a.i.b (W53 n f m q a b) .n (U53 n f m q a b) := by
  refine exec_orun env0 false 60 [false] [0, 1] (fun _ => rfl) (by kernel_rfl) (by kernel_rfl) (by kernel_rfl) ?_
  rw [(show obOf (orun g0 false 60 M53.b.b.a.i.b (W53 n f m q a b) [false]) = (decide (0 ≤ Int.ofNat a) && decide (Int.ofNat a < 7) && (decide (0 ≤ Int.ofNat b) && decide (Int.ofNat b < 7) && (decide (0 + (0 + a * 7 + b * 1) < 49) && true)) && (!f (0 + (0 + a * 7 + b * 1)) && true)) from by kernel_rfl)]
  unfold at7 at h
  simp [h]
  omega
theorem y53t {n : Nat} {f : Nat → Bool} {m : Nat} {q : List Int} {a : Nat} {b : Nat} (hq : q.length = m * 2) (hm : m ≤ 100) (ha : a < 7) (hb : b < 7) (h : at7 f a b = true) : Exec PP T none x53.nt 0 M53.b.b.a.i.b (W53 n f m q a b) .n (mkSt [(0, g1S 0), (3, lsS 1 (m + 1)), (4, ⟨true, I a⟩), (9, ⟨true, I n⟩), (10, ⟨true, I a⟩), (16, ⟨true, I n⟩), (17, ⟨true, I b⟩)] [⟨true, .row 115 [.int .i64 (Int.ofNat n)] 49 f⟩, ⟨false, .ivec 77 .i64 2 (List.take (m * 2) q ++ [Int.ofNat a, Int.ofNat b])⟩] 2 []) := by
  refine exec_orun env0 false 60 [true] [0, 3] (fun _ => rfl) (by kernel_rfl) (by kernel_rfl) (by kernel_rfl) ?_
  rw [(show obOf (orun g0 false 60 M53.b.b.a.i.b (W53 n f m q a b) [true]) = (decide (0 ≤ Int.ofNat a) && decide (Int.ofNat a < 7) && (decide (0 ≤ Int.ofNat b) && decide (Int.ofNat b < 7) && (decide (0 + (0 + a * 7 + b * 1) < 49) && true)) && (f (0 + (0 + a * 7 + b * 1)) && (decide (2 ≤ Nat.succ 1) && decide (m * 2 ≤ q.length) && decide (m.succ ≤ 1000000000) && true && true && true))) from by kernel_rfl)]
  unfold at7 at h
  simp [h, hq]
  omega
abbrev gg53 (n : Nat) (f : Nat → Bool) : Nat → Nat → Bool := fun a b => at7 f a b
abbrev sU53 (n : Nat) (f : Nat → Bool) (n' a b : Nat) : St := U53 n f (midL (gg53 n f) n' a b).length (flat (midL (gg53 n f) n' a b)) a b
abbrev sS53 (n : Nat) (f : Nat → Bool) (n' a : Nat) : St := S53 n f (listL (gg53 n f) n' a).length (flat (listL (gg53 n f) n' a)) a
theorem m53 {n : Nat} {f : Nat → Bool} {n' a b : Nat} (ha : a < 7) (hb : b < n) (hb7 : b < 7) (hn' : n' ≤ 7) : Exec PP T none x53.nt 0 M53 (sU53 n f n' a b) .n (sU53 n f n' a (b + 1)) := by
  have hl := midL_len (g := (gg53 n f)) (n := n') (a := a) (b := b) (by omega) hn' (by omega)
  have hf := flat_len (midL (gg53 n f) n' a b)
  show Exec PP T none x53.nt 0 M53 _ .n (U53 n f (midL (gg53 n f) n' a (b + 1)).length (flat (midL (gg53 n f) n' a (b + 1))) a (b + 1))
  cases h : at7 f a b with
  | false =>
    rw [midL_f h]
    exact exec_seq (x := M53.a) (y := M53.b) m53a (exec_seq (x := M53.b.a) (y := M53.b.b) (m53b hb) (exec_seq (x := M53.b.b.a) (y := M53.b.b.b) (exec_block (id := 3) (x := M53.b.b.a.i) (e := .n) (exec_seq (x := M53.b.b.a.i.a) (y := M53.b.b.a.i.b) y53a (y53f ha hb7 h))) (m53e (by omega))))
  | true =>
    rw [midL_tl h, midL_tf h]
    exact exec_seq (x := M53.a) (y := M53.b) m53a (exec_seq (x := M53.b.a) (y := M53.b.b) (m53b hb) (exec_seq (x := M53.b.b.a) (y := M53.b.b.b) (exec_block (id := 3) (x := M53.b.b.a.i) (e := .n) (exec_seq (x := M53.b.b.a.i.a) (y := M53.b.b.a.i.b) y53a (y53t hf hl ha hb7 h))) (m53e (by omega))))
theorem l53 {n : Nat} {f : Nat → Bool} {a : Nat} (ha : a < n) (hn' : n ≤ 7) : Exec PP T none x53.nt 0 L53 (sS53 n f n a) .n (sS53 n f n (a + 1)) := by
  show Exec PP T none x53.nt 0 L53 _ .n (S53 n f (listL (gg53 n f) n (a + 1)).length (flat (listL (gg53 n f) n (a + 1))) (a + 1))
  rw [← midL_end]
  refine exec_seq (x := L53.a) (y := L53.b) l53a (exec_seq (x := L53.b.a) (y := L53.b.b) (l53b ha) (exec_seq (x := L53.b.b.a) (y := L53.b.b.b) (exec_block (id := 1) (x := L53.b.b.a.i) (e := .n) (exec_seq (x := L53.b.b.a.i.a) (y := L53.b.b.a.i.b) l53c (exec_seq (x := L53.b.b.a.i.b.a) (y := .block 2 (.loop M53)) (l53d (by omega))
    (exec_block (e := .x 2) ?_)))) (l53e (b := n) (by omega))))
  have h0 : midL (gg53 n f) n a 0 = listL (gg53 n f) n a := midL_0
  rw [← h0]
  exact exec_loop_from (fun b => sU53 n f n a b) 0 n (fun b hlo hb => m53 (by omega) hb (by omega) hn') (exec_seq (x := M53.a) (y := M53.b) m53a (exec_seq_x (x := M53.b.a) (y := M53.b.b) (m53x (by omega)) (by simp))) (by simp) (by omega)
theorem a53 {n : Nat} {f : Nat → Bool} : Exec PP T none x53.nt 0 x53.body.a (startSt [.s (.ptr 0 0 0)] [⟨true, .row 115 [.int .i64 (Int.ofNat n)] 49 f⟩]) .n (mkSt [(0, g1S 0)] [⟨true, .row 115 [.int .i64 (Int.ofNat n)] 49 f⟩] 1 []) := by
  refine exec_orun env0 false 60 [] [0] (fun _ => rfl) (by kernel_rfl) (by kernel_rfl) (by kernel_rfl) (by kernel_rfl)
theorem a53' {n : Nat} {f : Nat → Bool} : Exec PP T none x53.nt 0 x53.body.b.a (mkSt [(0, g1S 0)] [⟨true, .row 115 [.int .i64 (Int.ofNat n)] 49 f⟩] 1 []) .n (mkSt [(3, lsS 1 0), (0, g1S 0)] [⟨true, .row 115 [.int .i64 (Int.ofNat n)] 49 f⟩, ⟨false, .ivec 77 .i64 2 []⟩] 2 []) := by
  have key : Exec PP T none x53.nt 0 x53.body.b.a (mkSt [(0, g1S 0)] [⟨true, .row 115 [.int .i64 (Int.ofNat n)] 49 f⟩] 1 []) .n (mkSt [(0, g1S 0), (3, ⟨true, .av (.s .nils)⟩)] [⟨true, .row 115 [.int .i64 (Int.ofNat n)] 49 f⟩] 1 []) := by
    refine exec_orun env0 false 60 [] [0] (fun _ => rfl) (by kernel_rfl) (by kernel_rfl) (by kernel_rfl) (by kernel_rfl)
  exact key.post (weak_nil 3 77 .i64 2 rfl rfl rfl)
theorem b53 {n : Nat} {f : Nat → Bool} : Exec PP T none x53.nt 0 x53.body.b.b.a.a (mkSt [(3, lsS 1 0), (0, g1S 0)] [⟨true, .row 115 [.int .i64 (Int.ofNat n)] 49 f⟩, ⟨false, .ivec 77 .i64 2 []⟩] 2 []) .n (S53 n f 0 [] 0) := by
  refine exec_orun env0 false 60 [] [0, 1] (fun _ => rfl) (by kernel_rfl) (by kernel_rfl) (by kernel_rfl) (by kernel_rfl)
theorem d53 {n : Nat} {f : Nat → Bool} {m : Nat} {q : List Int} : Exec PP T none x53.nt 0 x53.body.b.b.b (S53 n f m q n) .r (mkSt [(2, lsS 0 m)] [⟨false, .ivec 77 .i64 2 q⟩] 1 []) := by
  refine exec_orun env0 false 60 [] [1] (fun _ => rfl) (by kernel_rfl) (by kernel_rfl) (by kernel_rfl) (by kernel_rfl)
def arrowsL (n : Nat) (f : Nat → Bool) : List (Int × Int) := listL (gg53 n f) n n
theorem body53 {n : Nat} {f : Nat → Bool} (hn : n ≤ 7) : Exec PP T none x53.nt 0 x53.body (startSt [.s (.ptr 0 0 0)] [⟨true, .row 115 [.int .i64 (Int.ofNat n)] 49 f⟩]) .r (mkSt [(2, lsS 0 (arrowsL n f).length)] [⟨false, .ivec 77 .i64 2 (flat (arrowsL n f))⟩] 1 []) := by
  refine exec_seq (x := x53.body.a) (y := x53.body.b) a53 (exec_seq (x := x53.body.b.a) (y := x53.body.b.b) a53' (exec_seq (x := x53.body.b.b.a) (y := x53.body.b.b.b) (exec_seq (x := x53.body.b.b.a.a) (y := .block 0 (.loop L53)) b53 (exec_block (e := .x 0) ?_)) (d53 (n := n) (f := f))))
  exact exec_loop_up (fun a => sS53 n f n a) n (fun a ha => l53 ha hn) (exec_seq (x := L53.a) (y := L53.b) l53a (exec_seq_x (x := L53.b.a) (y := L53.b.b) (l53x (by omega)) (by simp))) (by simp) 0 (by omega)
def sparrows : Spec where
  run := fun args h base => match args with
    | [.s (.ptr g 0 0)] => match h g with
      | some ⟨_, .row 115 [.int .i64 n] 49 f⟩ => some ⟨decide (0 ≤ n) && decide (n ≤ 7), .av (.s (.sl base 0 2 (arrowsL n.toNat f).length)), [], [⟨false, .ivec 77 .i64 2 (flat (arrowsL n.toNat f))⟩], some [g]⟩
      | _ => none
    | _ => none
theorem sparrows_fp : SpecFp sparrows := by
  intro args h h' base e hr hf
  simp only [sparrows] at hr ⊢
  split at hr
  case h_2 => cases hr
  split at hr
  case h_2 => cases hr
  rename_i hg
  cases hr
  simp only [hf _ (List.mem_singleton.2 rfl), hg]
theorem eqB_refl : ∀ (k : Nat) (f : Nat → Bool), eqB k f f = true
  | 0, _ => rfl
  | k + 1, f => by simp [eqB, eqB_refl k f]
theorem ok53 : SpecOK PP (compC T) 53 sparrows := by
  refine spec_gen tokP o53 fun ctx m h w args vals base e hH hargs hr hvc => ?_
  simp only [sparrows] at hr
  split at hr
  case h_2 => cases hr
  rename_i g
  split at hr
  case h_2 => cases hr
  rename_i ro n f hg
  cases hr
  simp only [Bool.and_eq_true, decide_eq_true_eq] at hvc
  obtain ⟨k, rfl⟩ : ∃ k : Nat, n = Int.ofNat k := ⟨n.toNat, by simp; omega⟩
  match vals, hargs with
  | [v1], ⟨ha1, _⟩ =>
    obtain ⟨mb, k1, k2, k3⟩ := view_row hH ha1 hg (eqB_refl 49 f)
    exact ⟨rfl, mm1 mb, [⟨true, .row 115 [.int .i64 (Int.ofNat k)] 49 f⟩], [.s (.ptr 0 0 0)], shown_new (tv := .av (.s (.sl 0 0 2 (arrowsL k f).length))) (o := .ivec 77 .i64 2 (flat (arrowsL k f))) (ro1 k1 k2) ⟨k3 (mm1 mb) 0 rfl, trivial⟩ (by kernel_rfl) (body53 (by have := hvc.2; simp at this; omega)) (fun _ => rfl) (by kernel_rfl) (by kernel_rfl) rfl rfl rfl (fun _ => rfl)⟩
end Go.Proofs.Yteekkjfjpoaihaa.Eng
namespace Go.Proofs.Yteekkjfjpoaihaa.Eng
open Go Go.Proofs
def XC.rfA : XC → XC | .rf _ _ a _ => a | c => c
def XC.rfB : XC → XC | .rf _ _ _ b => b | c => c
def L54 : XC := x54.body.b.b.b.a.b.i.i
def F54 : XC := L54.b.a.i.b.i
def a54 : XC := F54.rfA
def b54 : XC := F54.rfB
abbrev slR : List (Nat × Slot) := [(0, g1S 0), (6, g1S 1), (7, g1S 3), (8, g1S 4), (29, ⟨true, .av (.s (.fn 109 [6, 5]))⟩)]
abbrev arV (u v : Int) : AV := .pb [.int .i64 u, .int .i64 v] 0 ff
/-- the same, with what a round does not turn as read only -/
abbrev HYr (n : Int) (f : Nat → Bool) (E : List (CV × CV)) (q : List Int) (m i : Nat) (a b : Int) (st : LS) : List HO := [⟨true, .row 115 [.int .i64 n] 49 f⟩, ⟨true, .row 78 [.mp 2] 0 ff⟩, ⟨false, .map (.ints 2) (.ints 2) E⟩, ⟨false, .row 74 [.sl 10 0 2 m] 0 ff⟩, ⟨true, .row 3 [.int .i64 i] 0 ff⟩, ⟨true, .row 64 [.ptr 0 0 0] 0 ff⟩, ⟨true, .row 77 [.int .i64 a, .int .i64 b] 0 ff⟩, ⟨true, .gone⟩, ⟨true, .dfr⟩, ⟨false, .loop (.al slR) [30] a54 b54 st⟩, ⟨false, .ivec 77 .i64 2 q⟩]
abbrev id11 : List Nat := [0, 1, 2, 3, 4, 5, 6, 7, 8, 9, 10]
theorem rd1 {r : Option Nat} {nt : Nat} {n : Int} {f : Nat → Bool} {E : List (CV × CV)} {q : List Int} {m i : Nat} {a b u v : Int} : Exec PP T r nt 10 a54 (mkSt ((30, ⟨true, .av (arV u v)⟩) :: slR) (HYr n f E q m i a b .ready) 11 []) .n (mkSt ((9, g1S 11) :: slR) (HYr n f E q m i a b .ready ++ [⟨false, .row 77 [.int .i64 u, .int .i64 v] 0 ff⟩]) 12 []) := by
  refine exec_orunG env0 true 60 [] (id11 ++ [11]) (fun h => (by cases h)) (by kernel_rfl) (by kernel_rfl) (by kernel_rfl) (by kernel_rfl)
/-- whether a map has a key -/
def hasC (E : List (CV × CV)) (u v : Int) : Bool := (findC (.ints 2) (.is [u, v]) E).isSome
noncomputable abbrev B54 (n : Int) (f : Nat → Bool) (E : List (CV × CV)) (q : List Int) (m i : Nat) (a b u v : Int) : St := { mkSt ((9, g1S 11) :: slR) (HYr n f E q m i a b .ready ++ [⟨false, .row 77 [.int .i64 u, .int .i64 v] 0 ff⟩]) 12 [] with hp := (mkSt ((9, g1S 11) :: slR) (HYr n f E q m i a b .ready ++ [⟨false, .row 77 [.int .i64 u, .int .i64 v] 0 ff⟩]) 12 []).hp.set 9 ⟨false, .loop (.al slR) [30] a54 b54 .busy⟩ }
theorem rd2 {r : Option Nat} {nt : Nat} {n : Int} {f : Nat → Bool} {E : List (CV × CV)} {q : List Int} {m i : Nat} {a b u v : Int} (h : hasC E u v = true) : Exec PP T r nt 10 b54 (B54 n f E q m i a b u v) .n (mkSt [] (HYr n f E q m i a b .busy) 12 []) := by
  refine exec_orunG env0 true 60 [false] id11 (fun h => (by cases h)) (by kernel_rfl) (by kernel_rfl) (by kernel_rfl) ?_
  rw [(show obOf (orun g0 true 60 b54 (B54 n f E q m i a b u v) [false]) = ((!!match findC (CK.ints 2) (CV.is ((fun x => u :: x) ((fun x => v :: x) []))) E with | some val => true | none => false) && true) from by kernel_rfl)]
  unfold hasC at h
  cases hf : findC (.ints 2) (.is [u, v]) E with
  | none => rw [hf] at h; cases h
  | some c => simp [hf]
theorem rd3 {r : Option Nat} {nt : Nat} {n : Int} {f : Nat → Bool} {E : List (CV × CV)} {q : List Int} {m i : Nat} {a b u v : Int} (hq : q.length = m * 2) (hi : i < m) (hm : m ≤ 1000) (h : hasC E u v = false) : Exec PP T r nt 10 b54 (B54 n f E q m i a b u v) .n (mkSt [] (HYr n f (updC (.ints 2) (.is [u, v]) (.is [q.getD (0 + (0 + i) * 2 + 0) 0, q.getD (0 + (0 + i) * 2 + 0 + 1) 0]) E) (List.take (m * 2) q ++ [u, v]) (m + 1) i a b .busy) 12 []) := by
  refine exec_orunG env0 true 60 [true] ([0, 1, 2, 3, 4, 5, 6, 7, 8, 9, 14]) (fun h => (by cases h)) (by kernel_rfl) (by kernel_rfl) (by kernel_rfl) ?_
  rw [(show obOf (orun g0 true 60 b54 (B54 n f E q m i a b u v) [true]) = ((!match findC (CK.ints 2) (CV.is ((fun x => u :: x) ((fun x => v :: x) []))) E with | some val => true | none => false) && (decide (0 ≤ Int.ofNat i) && decide (Int.ofNat i < Int.ofNat m) && (decide (((0 + (0 + i) * 2).add 0).succ.succ ≤ q.length) && true) && true && (decide (2 ≤ Nat.succ 1) && decide (m * 2 ≤ q.length) && decide (m.succ ≤ 1000000000) && true && true && true))) from by kernel_rfl)]
  unfold hasC at h
  cases hf : findC (.ints 2) (.is [u, v]) E with
  | some c => rw [hf] at h; cases h
  | none =>
    simp [hf, hq]
    omega
/-- what a round leaves of the map and of the queue -/
def pushE (q : List Int) (i : Nat) (E : List (CV × CV)) (u v : Int) : List (CV × CV) := bif hasC E u v then E else updC (.ints 2) (.is [u, v]) (.is [q.getD (0 + (0 + i) * 2 + 0) 0, q.getD (0 + (0 + i) * 2 + 0 + 1) 0]) E
def pushQ (E : List (CV × CV)) (q : List Int) (m : Nat) (u v : Int) : List Int := bif hasC E u v then q else List.take (m * 2) q ++ [u, v]
def pushM (E : List (CV × CV)) (m : Nat) (u v : Int) : Nat := bif hasC E u v then m else m + 1
theorem rdx {r : Option Nat} {nt : Nat} {n : Int} {f : Nat → Bool} {E : List (CV × CV)} {q : List Int} {m i : Nat} {a b u v : Int} (hq : q.length = m * 2) (hi : i < m) (hm : m ≤ 1000) : Exec PP T r nt 10 b54 (B54 n f E q m i a b u v) .n (mkSt [] (HYr n f (pushE q i E u v) (pushQ E q m u v) (pushM E m u v) i a b .busy) 12 []) := by
  unfold pushE pushQ pushM
  cases h : hasC E u v with
  | true => exact rd2 h
  | false => exact rd3 hq hi hm h
theorem mkSt_set {ts : List (Nat × Slot)} {hs : List HO} {nx : Nat} {df : List Nat} {k : Nat} (hk : k < hs.length) (o : HO) (j : Nat) : ((mkSt ts hs nx df).hp.set k o).get j = (hs.set k o)[j]? := by
  rw [Sto.get_set, mkSt_hp, List.getElem?_set]
  by_cases h : j = k
  · subst h; simp [hk]
  · rw [if_neg h, if_neg (fun e => h e.symm)]
/-- the round as a contract at one place -/
abbrev updY (n : Int) (f : Nat → Bool) (E : List (CV × CV)) (m : Nat) : List (Nat × HO) := [(9, ⟨false, .loop (.al slR) [30] a54 b54 .ready⟩), (2, ⟨false, .map (.ints 2) (.ints 2) E⟩), (3, ⟨false, .row 74 [.sl 11 0 2 m] 0 ff⟩), (10, ⟨false, .gone⟩)]
noncomputable abbrev spY (n : Int) (f : Nat → Bool) (E : List (CV × CV)) (q : List Int) (m i : Nat) (a b u v : Int) : Spec := spAt [arV u v] (mkSt [] (HYr n f E q m i a b .ready) 11 []).hp.get 11 (.av (.s (.bool true))) (updY n f (pushE q i E u v) (pushM E m u v)) [⟨false, .ivec 77 .i64 2 (pushQ E q m u v)⟩]
theorem atOK_Y {n : Int} {f : Nat → Bool} {E : List (CV × CV)} {q : List Int} {m i : Nat} {a b u v : Int} : AtOK (mkSt [] (HYr n f E q m i a b .ready) 11 []).hp.get (mkSt ((30, ⟨true, .av (arV u v)⟩) :: slR) (HYr n f E q m i a b .ready) 11 []).hp 10 11 (updY n f (pushE q i E u v) (pushM E m u v)) [⟨false, .ivec 77 .i64 2 (pushQ E q m u v)⟩] (HYr n f (pushE q i E u v) (pushQ E q m u v) (pushM E m u v) i a b .ready) where
  start := fun j o hj => by
    rw [mkSt_hp] at hj
    rw [mkSt_hp]
    match j, hj with
    | 0, hj => cases hj; exact ⟨_, rfl, rfl, fun h => by cases h⟩
    | 1, hj => cases hj; exact ⟨_, rfl, rfl, fun h => by cases h⟩
    | 2, hj => cases hj; exact ⟨_, rfl, rfl, fun _ => ⟨rfl, fun _ => ⟨_, .tail _ (.head _), rfl⟩⟩⟩
    | 3, hj => cases hj; exact ⟨_, rfl, rfl, fun _ => ⟨rfl, fun _ => ⟨_, .tail _ (.tail _ (.head _)), rfl⟩⟩⟩
    | 4, hj => cases hj; exact ⟨_, rfl, rfl, fun h => by cases h⟩
    | 5, hj => cases hj; exact ⟨_, rfl, rfl, fun h => by cases h⟩
    | 6, hj => cases hj; exact ⟨_, rfl, rfl, fun h => by cases h⟩
    | 7, hj => cases hj; exact ⟨_, rfl, rfl, fun h => by cases h⟩
    | 8, hj => cases hj; exact ⟨_, rfl, rfl, fun h => by cases h⟩
    | 9, hj => cases hj; exact ⟨_, rfl, rfl, fun _ => ⟨rfl, fun _ => ⟨_, .head _, rfl⟩⟩⟩
    | 10, hj => cases hj; exact ⟨_, rfl, rfl, fun _ => ⟨rfl, fun _ => ⟨_, .tail _ (.tail _ (.tail _ (.head _))), rfl⟩⟩⟩
    | j + 11, hj => simp at hj
  keep := fun j hj => by
    rw [mkSt_hp]
    simp
    omega
  len := rfl
  new := rfl
  news_eq := rfl
  upd_eq := fun u hu => by
    simp only [List.mem_cons, List.not_mem_nil, or_false] at hu
    rcases hu with rfl | rfl | rfl | rfl
    · exact .inr ⟨(by show 9 < 10; omega), _, rfl, rfl, rfl, fun _ j hj => by
        have : j = 0 ∨ j = 1 ∨ j = 3 ∨ j = 4 ∨ j = 6 ∨ j = 5 := by simpa [AO.ids, Sto.vals, TV.ids, AV.ids, SV.ids] using hj
        omega⟩
    · exact .inr ⟨(by show 2 < 10; omega), _, rfl, rfl, rfl, fun h => by cases h⟩
    · exact .inr ⟨(by show 3 < 10; omega), _, rfl, rfl, rfl, fun h => by cases h⟩
    · exact .inl ⟨rfl, rfl⟩
  ids := fun j o hj i hi => by
    show i < 11
    match j, hj with
    | 0, hj => cases hj; simp [AO.ids, SV.ids] at hi
    | 1, hj => cases hj; simp [AO.ids, SV.ids] at hi; omega
    | 2, hj => cases hj; simp [AO.ids, SV.ids] at hi
    | 3, hj => cases hj; simp [AO.ids, SV.ids] at hi; omega
    | 4, hj => cases hj; simp [AO.ids, SV.ids] at hi
    | 5, hj => cases hj; simp [AO.ids, SV.ids] at hi; omega
    | 6, hj => cases hj; simp [AO.ids, SV.ids] at hi
    | 7, hj => cases hj; simp [AO.ids, SV.ids] at hi
    | 8, hj => cases hj; simp [AO.ids, SV.ids] at hi
    | 9, hj =>
      cases hj
      have : i = 0 ∨ i = 1 ∨ i = 3 ∨ i = 4 ∨ i = 6 ∨ i = 5 := by simpa [AO.ids, Sto.vals, TV.ids, AV.ids, SV.ids] using hi
      omega
    | 10, hj => cases hj; simp [AO.ids, SV.ids] at hi
    | j + 11, hj => simp at hj
theorem ok_Y {n : Int} {f : Nat → Bool} {E : List (CV × CV)} {q : List Int} {m i : Nat} {a b u v : Int} (hq : q.length = m * 2) (hi : i < m) (hm : m ≤ 1000) : YieldOK PP (compC T) 9 (spY n f E q m i a b u v) :=
  yield_at (S := (mkSt ((30, ⟨true, .av (arV u v)⟩) :: slR) (HYr n f E q m i a b .ready) 11 []).hp) (K := 10) (slS := .al ((30, ⟨true, .av (arV u v)⟩) :: slR)) (ex := .n) (bv := true) atOK_Y (fun j hj => hj) (by decide) rfl rfl (fun t s hs => by
    simp only [setPs]
    have hs : alGet ((30, _) :: slR) t = some s := hs
    rw [alGet_cons] at hs
    by_cases h : t = 30
    · subst h
      rw [beqT rfl, cond_true] at hs
      rw [if_pos rfl]; exact hs
    · rw [beqF (fun e => h e.symm), cond_false] at hs
      rw [if_neg h]; exact hs) (fun l nt => rd1) rfl (fun l nt => rdx hq hi hm) rfl (fun j => mkSt_set (by simp) _ j) rfl
end Go.Proofs.Yteekkjfjpoaihaa.Eng
namespace Go.Proofs.Yteekkjfjpoaihaa.Eng
open Go Go.Proofs
def L109 : XC := x109.body.b.b.i.i
abbrev id11' : List Nat := [0, 1, 2, 3, 4, 5, 6, 7, 8, 9, 11]
abbrev slB : List (Nat × Slot) := [(0, ⟨true, .av (.s (.yield 9))⟩), (1, g1S 6), (2, g1S 5)]
abbrev slC (n c : Nat) : List (Nat × Slot) := [(0, ⟨true, .av (.s (.yield 9))⟩), (1, g1S 6), (2, g1S 5), (12, ⟨true, I n⟩), (13, ⟨true, I c⟩)]
abbrev slD (n c : Nat) : List (Nat × Slot) := [(0, ⟨true, .av (.s (.yield 9))⟩), (1, g1S 6), (2, g1S 5), (4, ⟨true, I c⟩), (12, ⟨true, I n⟩), (13, ⟨true, I c⟩)]
/-- what a run of rounds has in hand: the map, the queue, its length -/
abbrev Sig := List (CV × CV) × List Int × Nat
def push1 (i : Nat) (s : Sig) (u v : Int) : Sig := (pushE s.2.1 i s.1 u v, pushQ s.1 s.2.1 s.2.2 u v, pushM s.1 s.2.2 u v)
abbrev HS (n : Nat) (f : Nat → Bool) (s : Sig) (i a b : Nat) : List HO := HYr (Int.ofNat n) f s.1 s.2.1 s.2.2 i (Int.ofNat a) (Int.ofNat b) .ready
noncomputable abbrev spS (n : Nat) (f : Nat → Bool) (s : Sig) (i a b : Nat) (u v : Int) : Spec := spY (Int.ofNat n) f s.1 s.2.1 s.2.2 i (Int.ofNat a) (Int.ofNat b) u v
def okSig (s : Sig) (i : Nat) (top : Nat) : Prop := s.2.1.length = s.2.2 * 2 ∧ i < s.2.2 ∧ s.2.2 ≤ top
theorem okSig.push {s : Sig} {i top : Nat} (h : okSig s i top) (u v : Int) : okSig (push1 i s u v) i (top + 1) := by
  obtain ⟨h1, h2, h3⟩ := h
  unfold push1 okSig pushQ pushM
  cases hasC s.1 u v with
  | true => exact ⟨h1, h2, by simp; omega⟩
  | false =>
    refine ⟨?_, by simp; omega, by simp; omega⟩
    simp [h1]
    omega
theorem okSig.le {s : Sig} {i top top' : Nat} (h : okSig s i top) (ht : top ≤ top') : okSig s i top' := ⟨h.1, h.2.1, by have := h.2.2; omega⟩
theorem envS {n : Nat} {f : Nat → Bool} {s : Sig} {i a b : Nat} {u v : Int} (h : okSig s i 1000) : EnvOK PP T (gY 9 (spS n f s i a b u v)) := envY (ok_Y h.1 h.2.1 h.2.2) spAt_fp
theorem y109 {n : Nat} {f : Nat → Bool} {s : Sig} {i a b : Nat} (h : okSig s i 1000) : Exec PP T none x109.nt 10 x109.body.a (mkSt slB (HS n f s i a b) 11 []) .n (mkSt slB (HS n f (push1 i s (Int.ofNat a) (Int.ofNat b)) i a b) 11 []) := by
  refine exec_orunG (envS (n := n) (f := f) (a := a) (b := b) (u := Int.ofNat a) (v := Int.ofNat b) h) false 60 [false] id11' (fun _ => rfl) (by kernel_rfl) (by kernel_rfl) (by kernel_rfl) ?_
  rw [(show obOf (orun (gY 9 (spS n f s i a b (Int.ofNat a) (Int.ofNat b))) false 60 x109.body.a (mkSt slB (HS n f s i a b) 11 []) [false]) = (atB [arV (Int.ofNat a) (Int.ofNat b)] [arV (Int.ofNat a) (Int.ofNat b)] (mkSt [] (HS n f s i a b) 11 []).hp.get (mkSt [] (HS n f s i a b) 11 []).hp.get 11 11 && true && true && true && true) from by kernel_rfl)]
  simp
theorem z109 {n : Nat} {f : Nat → Bool} {s : Sig} {i a b : Nat} : Exec PP T none x109.nt 10 x109.body.b.a (mkSt slB (HS n f s i a b) 11 []) .n (mkSt (slC n 0) (HS n f s i a b) 11 []) := by
  refine exec_orunG env0 false 60 [] id11 (fun _ => rfl) (by kernel_rfl) (by kernel_rfl) (by kernel_rfl) (by kernel_rfl)
theorem l109a {n : Nat} {f : Nat → Bool} {s : Sig} {i a b c : Nat} : Exec PP T none x109.nt 10 L109.a (mkSt (slC n c) (HS n f s i a b) 11 []) .n (mkSt ((14, ⟨true, B (decide (Int.ofNat c < Int.ofNat n))⟩) :: slC n c) (HS n f s i a b) 11 []) := by
  refine exec_orunG env0 false 60 [] id11 (fun _ => rfl) (by kernel_rfl) (by kernel_rfl) (by kernel_rfl) (by kernel_rfl)
theorem l109b {n : Nat} {f : Nat → Bool} {s : Sig} {i a b c : Nat} (hc : c < n) : Exec PP T none x109.nt 10 L109.b.a (mkSt ((14, ⟨true, B (decide (Int.ofNat c < Int.ofNat n))⟩) :: slC n c) (HS n f s i a b) 11 []) .n (mkSt (slC n c) (HS n f s i a b) 11 []) := by
  refine exec_orunG env0 false 60 [true] id11 (fun _ => rfl) (by kernel_rfl) (by kernel_rfl) (by kernel_rfl) ?_
  rw [(show obOf (orun g0 false 60 L109.b.a (mkSt ((14, ⟨true, B (decide (Int.ofNat c < Int.ofNat n))⟩) :: slC n c) (HS n f s i a b) 11 []) [true]) = (decide (Int.ofNat c < Int.ofNat n) && true) from by kernel_rfl)]
  simp
  omega
theorem l109x {n : Nat} {f : Nat → Bool} {s : Sig} {i a b : Nat} : Exec PP T none x109.nt 10 L109.b.a (mkSt ((14, ⟨true, B (decide (Int.ofNat n < Int.ofNat n))⟩) :: slC n n) (HS n f s i a b) 11 []) (.x 0) (mkSt (slC n n) (HS n f s i a b) 11 []) := by
  refine exec_orunG env0 false 60 [false] id11 (fun _ => rfl) (by kernel_rfl) (by kernel_rfl) (by kernel_rfl) ?_
  rw [(show obOf (orun g0 false 60 L109.b.a (mkSt ((14, ⟨true, B (decide (Int.ofNat n < Int.ofNat n))⟩) :: slC n n) (HS n f s i a b) 11 []) [false]) = (!decide (Int.ofNat n < Int.ofNat n) && true) from by kernel_rfl)]
  simp
theorem l109c {n : Nat} {f : Nat → Bool} {s : Sig} {i a b c : Nat} : Exec PP T none x109.nt 10 L109.b.b.a.i.a (mkSt (slC n c) (HS n f s i a b) 11 []) .n (mkSt (slD n c) (HS n f s i a b) 11 []) := by
  refine exec_orunG env0 false 60 [] id11 (fun _ => rfl) (by kernel_rfl) (by kernel_rfl) (by kernel_rfl) (by kernel_rfl)
theorem l109e {n : Nat} {f : Nat → Bool} {s : Sig} {i a b c : Nat} (hc : c < 8) : Exec PP T none x109.nt 10 L109.b.b.b (mkSt (slD n c) (HS n f s i a b) 11 []) .n (mkSt (slC n (c + 1)) (HS n f s i a b) 11 []) := by
  refine exec_orunG env0 false 60 [] id11 (fun _ => rfl) (by kernel_rfl) (by kernel_rfl) (by kernel_rfl) ?_
  rw [(show obOf (orun g0 false 60 L109.b.b.b (mkSt (slD n c) (HS n f s i a b) 11 []) []) = (rng64 (Int.ofNat c.succ) && true) from by kernel_rfl)]
  simp [rng64]
  omega
def cnd1 (f : Nat → Bool) (a b c : Nat) : Bool := !(Nat.beq c b) && (at7 f a c && !(at7 f b c))
def cnd2 (f : Nat → Bool) (a b c : Nat) : Bool := !(Nat.beq c a) && (at7 f c b && !(at7 f a c))
theorem neI (c b : Nat) : (Int.ofNat c != Int.ofNat b) = !(Nat.beq c b) := by
  by_cases h : c = b
  · subst h; simp
  · rw [beqF h]
    simp
    omega
theorem at7_raw (f : Nat → Bool) (x y : Nat) : f (0 + (0 + x * 7 + y * 1)) = at7 f x y := by
  unfold at7
  congr 1
  omega
theorem dI0 (x : Nat) : decide (0 ≤ Int.ofNat x) = true := by simp
theorem dI7 {x : Nat} (h : x < 7) : decide (Int.ofNat x < 7) = true := by simp; omega
theorem dI49 {x y : Nat} (hx : x < 7) (hy : y < 7) : decide (0 + (0 + x * 7 + y * 1) < 49) = true := by simp; omega
theorem p109n {n : Nat} {f : Nat → Bool} {s : Sig} {i a b c : Nat} (hs : okSig s i 1000) (ha : a < 7) (hb : b < 7) (hc : c < 7) (h : cnd1 f a b c = false) : Exec PP T none x109.nt 10 L109.b.b.a.i.b.a (mkSt (slD n c) (HS n f s i a b) 11 []) .n (mkSt (slD n c) (HS n f s i a b) 11 []) := by
  refine exec_orunG (envS (n := n) (f := f) (a := a) (b := b) (u := Int.ofNat a) (v := Int.ofNat c) hs) false 60 [false, false] id11 (fun _ => rfl) (by kernel_rfl) (by kernel_rfl) (by kernel_rfl) ?_
  rw [(show obOf (orun (gY 9 (spS n f s i a b (Int.ofNat a) (Int.ofNat c))) false 60 L109.b.b.a.i.b.a (mkSt (slD n c) (HS n f s i a b) 11 []) [false, false]) = ((fun b0_ : Bool => (fun b1_ : Bool => (fun b2_ : Bool => (!b2_ == true || true) && ((!b2_ == true || true) && ((!b2_ == true || b2_ == true && true && true) && ((!b2_ == true || true) && ((!b2_ == true || b2_ == true && true && true) && ((!b2_ == true || b2_ == true && true && true) && ((!b2_ == true || b2_ == true && (b2_ == true && true) && (decide (0 ≤ Int.ofNat a) && decide (Int.ofNat a < 7))) && ((!b2_ == true || b2_ == true && (b2_ == true && true) && (decide (0 ≤ Int.ofNat c) && decide (Int.ofNat c < 7))) && ((!b2_ == true || b2_ == true && true && decide (0 + (0 + a * 7 + c * 1) < 49)) && ((bif Int.ofNat c != Int.ofNat b then b2_ == true else true) && true && ((!b0_ == true || true) && ((!b0_ == true || true) && ((!b0_ == true || b0_ == true && true && true) && ((!b0_ == true || true) && ((!b0_ == true || b0_ == true && true && true) && ((!b0_ == true || b0_ == true && true && true) && ((!b0_ == true || b0_ == true && (b0_ == true && true) && (decide (0 ≤ Int.ofNat b) && decide (Int.ofNat b < 7))) && ((!b0_ == true || b0_ == true && (b0_ == true && true) && (decide (0 ≤ Int.ofNat c) && decide (Int.ofNat c < 7))) && ((!b0_ == true || b0_ == true && true && decide (0 + (0 + b * 7 + c * 1) < 49)) && ((!b0_ == true || b0_ == true && true && true) && ((bif bif Int.ofNat c != Int.ofNat b then f (0 + (0 + a * 7 + c * 1)) else false then b0_ == true else true) && true && ((!b1_ == true || true) && ((!b1_ == true || true) && ((!b1_ == true || b1_ == true && true && true) && ((!b1_ == true || true) && ((!b1_ == true || b1_ == true && (b1_ == true && true) && true) && (!b1_ == true && ((!b1_ == true || false) && ((bif bif bif Int.ofNat c != Int.ofNat b then f (0 + (0 + a * 7 + c * 1)) else false then !f (0 + (0 + b * 7 + c * 1)) else false then b1_ == true else true) && true && true)))))))))))))))))))))))))))) && true && ((!bif bif bif Int.ofNat c != Int.ofNat b then f (0 + (0 + a * 7 + c * 1)) else false then !f (0 + (0 + b * 7 + c * 1)) else false then false else false) && true)) (Int.ofNat c != Int.ofNat b)) (bif bif Int.ofNat c != Int.ofNat b then f (0 + (0 + a * 7 + c * 1)) else false then !f (0 + (0 + b * 7 + c * 1)) else false)) (bif Int.ofNat c != Int.ofNat b then f (0 + (0 + a * 7 + c * 1)) else false)) from by kernel_rfl)]
  dsimp only
  simp only [at7_raw, neI, dI0, dI7 ha, dI7 hb, dI7 hc, dI49 ha hc, dI49 hb hc, dI49 hc hb]
  unfold cnd1 at h
  revert h
  cases Nat.beq c b <;> cases at7 f a c <;> cases at7 f b c <;> simp
theorem p109t {n : Nat} {f : Nat → Bool} {s : Sig} {i a b c : Nat} (hs : okSig s i 1000) (ha : a < 7) (hb : b < 7) (hc : c < 7) (h : cnd1 f a b c = true) : Exec PP T none x109.nt 10 L109.b.b.a.i.b.a (mkSt (slD n c) (HS n f s i a b) 11 []) .n (mkSt (slD n c) (HS n f (push1 i s (Int.ofNat a) (Int.ofNat c)) i a b) 11 []) := by
  refine exec_orunG (envS (n := n) (f := f) (a := a) (b := b) (u := Int.ofNat a) (v := Int.ofNat c) hs) false 60 [true, false] id11' (fun _ => rfl) (by kernel_rfl) (by kernel_rfl) (by kernel_rfl) ?_
  rw [(show obOf (orun (gY 9 (spS n f s i a b (Int.ofNat a) (Int.ofNat c))) false 60 L109.b.b.a.i.b.a (mkSt (slD n c) (HS n f s i a b) 11 []) [true, false]) = ((fun b0_ : Bool => (fun b1_ : Bool => (fun b2_ : Bool => (!b2_ == true || true) && ((!b2_ == true || true) && ((!b2_ == true || b2_ == true && true && true) && ((!b2_ == true || true) && ((!b2_ == true || b2_ == true && true && true) && ((!b2_ == true || b2_ == true && true && true) && ((!b2_ == true || b2_ == true && (b2_ == true && true) && (decide (0 ≤ Int.ofNat a) && decide (Int.ofNat a < 7))) && ((!b2_ == true || b2_ == true && (b2_ == true && true) && (decide (0 ≤ Int.ofNat c) && decide (Int.ofNat c < 7))) && ((!b2_ == true || b2_ == true && true && decide (0 + (0 + a * 7 + c * 1) < 49)) && ((bif Int.ofNat c != Int.ofNat b then b2_ == true else true) && true && ((!b1_ == true || true) && ((!b1_ == true || true) && ((!b1_ == true || b1_ == true && true && true) && ((!b1_ == true || true) && ((!b1_ == true || b1_ == true && true && true) && ((!b1_ == true || b1_ == true && true && true) && ((!b1_ == true || b1_ == true && (b1_ == true && true) && (decide (0 ≤ Int.ofNat b) && decide (Int.ofNat b < 7))) && ((!b1_ == true || b1_ == true && (b1_ == true && true) && (decide (0 ≤ Int.ofNat c) && decide (Int.ofNat c < 7))) && ((!b1_ == true || b1_ == true && true && decide (0 + (0 + b * 7 + c * 1) < 49)) && ((!b1_ == true || b1_ == true && true && true) && ((bif bif Int.ofNat c != Int.ofNat b then f (0 + (0 + a * 7 + c * 1)) else false then b1_ == true else true) && true && ((!b0_ == true || true) && ((!b0_ == true || true) && ((!b0_ == true || b0_ == true && true && true) && ((!b0_ == true || true) && ((!b0_ == true || b0_ == true && (b0_ == true && true) && true) && (b0_ == true && (b0_ == true && (b0_ == true && true) && atB [arV (Int.ofNat a) (Int.ofNat c)] [arV (Int.ofNat a) (Int.ofNat c)] (mkSt [] (HS n f s i a b) 11 []).hp.get (mkSt [] (HS n f s i a b) 11 []).hp.get 11 11 && true && true) && ((!b0_ == true || true) && ((bif bif bif Int.ofNat c != Int.ofNat b then f (0 + (0 + a * 7 + c * 1)) else false then !f (0 + (0 + b * 7 + c * 1)) else false then b0_ == true else true) && true && true)))))))))))))))))))))))))))) && true && ((!bif bif bif Int.ofNat c != Int.ofNat b then f (0 + (0 + a * 7 + c * 1)) else false then !f (0 + (0 + b * 7 + c * 1)) else false then false else false) && true)) (Int.ofNat c != Int.ofNat b)) (bif Int.ofNat c != Int.ofNat b then f (0 + (0 + a * 7 + c * 1)) else false)) (bif bif Int.ofNat c != Int.ofNat b then f (0 + (0 + a * 7 + c * 1)) else false then !f (0 + (0 + b * 7 + c * 1)) else false)) from by kernel_rfl)]
  dsimp only
  simp only [at7_raw, neI, dI0, dI7 ha, dI7 hb, dI7 hc, dI49 ha hc, dI49 hb hc, dI49 hc hb]
  unfold cnd1 at h
  revert h
  cases Nat.beq c b <;> cases at7 f a c <;> cases at7 f b c <;> simp
theorem q109n {n : Nat} {f : Nat → Bool} {s : Sig} {i a b c : Nat} (hs : okSig s i 1000) (ha : a < 7) (hb : b < 7) (hc : c < 7) (h : cnd2 f a b c = false) : Exec PP T none x109.nt 10 L109.b.b.a.i.b.b (mkSt (slD n c) (HS n f s i a b) 11 []) .n (mkSt (slD n c) (HS n f s i a b) 11 []) := by
  refine exec_orunG (envS (n := n) (f := f) (a := a) (b := b) (u := Int.ofNat c) (v := Int.ofNat b) hs) false 60 [false, false] id11 (fun _ => rfl) (by kernel_rfl) (by kernel_rfl) (by kernel_rfl) ?_
  rw [(show obOf (orun (gY 9 (spS n f s i a b (Int.ofNat c) (Int.ofNat b))) false 60 L109.b.b.a.i.b.b (mkSt (slD n c) (HS n f s i a b) 11 []) [false, false]) = ((fun b0_ : Bool => (fun b1_ : Bool => (fun b2_ : Bool => (!b2_ == true || true) && ((!b2_ == true || true) && ((!b2_ == true || true) && ((!b2_ == true || b2_ == true && true && true) && ((!b2_ == true || b2_ == true && true && true) && ((!b2_ == true || b2_ == true && true && true) && ((!b2_ == true || b2_ == true && (b2_ == true && true) && (decide (0 ≤ Int.ofNat c) && decide (Int.ofNat c < 7))) && ((!b2_ == true || b2_ == true && (b2_ == true && true) && (decide (0 ≤ Int.ofNat b) && decide (Int.ofNat b < 7))) && ((!b2_ == true || b2_ == true && true && decide (0 + (0 + c * 7 + b * 1) < 49)) && ((bif Int.ofNat c != Int.ofNat a then b2_ == true else true) && true && ((!b0_ == true || true) && ((!b0_ == true || true) && ((!b0_ == true || b0_ == true && true && true) && ((!b0_ == true || true) && ((!b0_ == true || b0_ == true && true && true) && ((!b0_ == true || b0_ == true && true && true) && ((!b0_ == true || b0_ == true && (b0_ == true && true) && (decide (0 ≤ Int.ofNat a) && decide (Int.ofNat a < 7))) && ((!b0_ == true || b0_ == true && (b0_ == true && true) && (decide (0 ≤ Int.ofNat c) && decide (Int.ofNat c < 7))) && ((!b0_ == true || b0_ == true && true && decide (0 + (0 + a * 7 + c * 1) < 49)) && ((!b0_ == true || b0_ == true && true && true) && ((bif bif Int.ofNat c != Int.ofNat a then f (0 + (0 + c * 7 + b * 1)) else false then b0_ == true else true) && true && ((!b1_ == true || true) && ((!b1_ == true || true) && ((!b1_ == true || true) && ((!b1_ == true || b1_ == true && true && true) && ((!b1_ == true || b1_ == true && (b1_ == true && true) && true) && (!b1_ == true && ((!b1_ == true || false) && ((bif bif bif Int.ofNat c != Int.ofNat a then f (0 + (0 + c * 7 + b * 1)) else false then !f (0 + (0 + a * 7 + c * 1)) else false then b1_ == true else true) && true && true)))))))))))))))))))))))))))) && true && ((!bif bif bif Int.ofNat c != Int.ofNat a then f (0 + (0 + c * 7 + b * 1)) else false then !f (0 + (0 + a * 7 + c * 1)) else false then false else false) && true)) (Int.ofNat c != Int.ofNat a)) (bif bif Int.ofNat c != Int.ofNat a then f (0 + (0 + c * 7 + b * 1)) else false then !f (0 + (0 + a * 7 + c * 1)) else false)) (bif Int.ofNat c != Int.ofNat a then f (0 + (0 + c * 7 + b * 1)) else false)) from by kernel_rfl)]
  dsimp only
  simp only [at7_raw, neI, dI0, dI7 ha, dI7 hb, dI7 hc, dI49 ha hc, dI49 hb hc, dI49 hc hb]
  unfold cnd2 at h
  revert h
  cases Nat.beq c a <;> cases at7 f c b <;> cases at7 f a c <;> simp
theorem q109t {n : Nat} {f : Nat → Bool} {s : Sig} {i a b c : Nat} (hs : okSig s i 1000) (ha : a < 7) (hb : b < 7) (hc : c < 7) (h : cnd2 f a b c = true) : Exec PP T none x109.nt 10 L109.b.b.a.i.b.b (mkSt (slD n c) (HS n f s i a b) 11 []) .n (mkSt (slD n c) (HS n f (push1 i s (Int.ofNat c) (Int.ofNat b)) i a b) 11 []) := by
  refine exec_orunG (envS (n := n) (f := f) (a := a) (b := b) (u := Int.ofNat c) (v := Int.ofNat b) hs) false 60 [true, false] id11' (fun _ => rfl) (by kernel_rfl) (by kernel_rfl) (by kernel_rfl) ?_
  rw [(show obOf (orun (gY 9 (spS n f s i a b (Int.ofNat c) (Int.ofNat b))) false 60 L109.b.b.a.i.b.b (mkSt (slD n c) (HS n f s i a b) 11 []) [true, false]) = ((fun b0_ : Bool => (fun b1_ : Bool => (fun b2_ : Bool => (!b2_ == true || true) && ((!b2_ == true || true) && ((!b2_ == true || true) && ((!b2_ == true || b2_ == true && true && true) && ((!b2_ == true || b2_ == true && true && true) && ((!b2_ == true || b2_ == true && true && true) && ((!b2_ == true || b2_ == true && (b2_ == true && true) && (decide (0 ≤ Int.ofNat c) && decide (Int.ofNat c < 7))) && ((!b2_ == true || b2_ == true && (b2_ == true && true) && (decide (0 ≤ Int.ofNat b) && decide (Int.ofNat b < 7))) && ((!b2_ == true || b2_ == true && true && decide (0 + (0 + c * 7 + b * 1) < 49)) && ((bif Int.ofNat c != Int.ofNat a then b2_ == true else true) && true && ((!b1_ == true || true) && ((!b1_ == true || true) && ((!b1_ == true || b1_ == true && true && true) && ((!b1_ == true || true) && ((!b1_ == true || b1_ == true && true && true) && ((!b1_ == true || b1_ == true && true && true) && ((!b1_ == true || b1_ == true && (b1_ == true && true) && (decide (0 ≤ Int.ofNat a) && decide (Int.ofNat a < 7))) && ((!b1_ == true || b1_ == true && (b1_ == true && true) && (decide (0 ≤ Int.ofNat c) && decide (Int.ofNat c < 7))) && ((!b1_ == true || b1_ == true && true && decide (0 + (0 + a * 7 + c * 1) < 49)) && ((!b1_ == true || b1_ == true && true && true) && ((bif bif Int.ofNat c != Int.ofNat a then f (0 + (0 + c * 7 + b * 1)) else false then b1_ == true else true) && true && ((!b0_ == true || true) && ((!b0_ == true || true) && ((!b0_ == true || true) && ((!b0_ == true || b0_ == true && true && true) && ((!b0_ == true || b0_ == true && (b0_ == true && true) && true) && (b0_ == true && (b0_ == true && (b0_ == true && true) && atB [arV (Int.ofNat c) (Int.ofNat b)] [arV (Int.ofNat c) (Int.ofNat b)] (mkSt [] (HS n f s i a b) 11 []).hp.get (mkSt [] (HS n f s i a b) 11 []).hp.get 11 11 && true && true) && ((!b0_ == true || true) && ((bif bif bif Int.ofNat c != Int.ofNat a then f (0 + (0 + c * 7 + b * 1)) else false then !f (0 + (0 + a * 7 + c * 1)) else false then b0_ == true else true) && true && true)))))))))))))))))))))))))))) && true && ((!bif bif bif Int.ofNat c != Int.ofNat a then f (0 + (0 + c * 7 + b * 1)) else false then !f (0 + (0 + a * 7 + c * 1)) else false then false else false) && true)) (Int.ofNat c != Int.ofNat a)) (bif Int.ofNat c != Int.ofNat a then f (0 + (0 + c * 7 + b * 1)) else false)) (bif bif Int.ofNat c != Int.ofNat a then f (0 + (0 + c * 7 + b * 1)) else false then !f (0 + (0 + a * 7 + c * 1)) else false)) from by kernel_rfl)]
  dsimp only
  simp only [at7_raw, neI, dI0, dI7 ha, dI7 hb, dI7 hc, dI49 ha hc, dI49 hb hc, dI49 hc hb]
  unfold cnd2 at h
  revert h
  cases Nat.beq c a <;> cases at7 f c b <;> cases at7 f a c <;> simp
/-- what forced yields, told on what is in hand -/
def stepC (f : Nat → Bool) (i a b c : Nat) (s : Sig) : Sig :=
  let s1 := bif cnd1 f a b c then push1 i s (Int.ofNat a) (Int.ofNat c) else s
  bif cnd2 f a b c then push1 i s1 (Int.ofNat c) (Int.ofNat b) else s1
def forcedS (f : Nat → Bool) (i a b : Nat) (s : Sig) : Nat → Sig
  | 0 => push1 i s (Int.ofNat a) (Int.ofNat b)
  | c + 1 => stepC f i a b c (forcedS f i a b s c)
theorem okSig.step {f : Nat → Bool} {i a b c : Nat} {s : Sig} {top : Nat} (h : okSig s i top) : okSig (stepC f i a b c s) i (top + 2) := by
  unfold stepC
  cases cnd1 f a b c <;> cases cnd2 f a b c
  · exact h.le (by omega)
  · exact (h.push _ _).le (by omega)
  · exact (h.push _ _).le (by omega)
  · exact (h.push _ _).push _ _
theorem okSig.forced {f : Nat → Bool} {i a b : Nat} {s : Sig} {top : Nat} (h : okSig s i top) : ∀ c, okSig (forcedS f i a b s c) i (top + 1 + 2 * c)
  | 0 => h.push _ _
  | c + 1 => by
    have := (okSig.forced h c (f := f) (a := a) (b := b)).step (f := f) (a := a) (b := b) (c := c)
    exact this.le (by omega)
theorem l109 {n : Nat} {f : Nat → Bool} {s : Sig} {i a b c : Nat} (hs : okSig s i 990) (ha : a < 7) (hb : b < 7) (hc : c < n) (hn : n ≤ 7) : Exec PP T none x109.nt 10 L109 (mkSt (slC n c) (HS n f s i a b) 11 []) .n (mkSt (slC n (c + 1)) (HS n f (stepC f i a b c s) i a b) 11 []) := by
  refine exec_seq (x := L109.a) (y := L109.b) l109a (exec_seq (x := L109.b.a) (y := L109.b.b) (l109b hc) (exec_seq (x := L109.b.b.a) (y := L109.b.b.b) (exec_block (id := 1) (x := L109.b.b.a.i) (e := .n) (exec_seq (x := L109.b.b.a.i.a) (y := L109.b.b.a.i.b) l109c ?_)) (l109e (by omega))))
  unfold stepC
  have hc7 : c < 7 := by omega
  have hs' := hs.le (show 990 ≤ 1000 by omega)
  have hs2 : okSig (push1 i s (Int.ofNat a) (Int.ofNat c)) i 1000 := (hs.push _ _).le (by omega)
  cases h1 : cnd1 f a b c with
  | false =>
    simp only [cond_false]
    refine exec_seq (x := L109.b.b.a.i.b.a) (y := L109.b.b.a.i.b.b) (p109n hs' ha hb hc7 h1) ?_
    cases h2 : cnd2 f a b c with
    | false => exact q109n hs' ha hb hc7 h2
    | true => exact q109t hs' ha hb hc7 h2
  | true =>
    simp only [cond_true]
    refine exec_seq (x := L109.b.b.a.i.b.a) (y := L109.b.b.a.i.b.b) (p109t hs' ha hb hc7 h1) ?_
    cases h2 : cnd2 f a b c with
    | false => exact q109n hs2 ha hb hc7 h2
    | true => exact q109t hs2 ha hb hc7 h2
theorem body109 {n : Nat} {f : Nat → Bool} {s : Sig} {i a b : Nat} (hs : okSig s i 900) (ha : a < 7) (hb : b < 7) (hn : n ≤ 7) : Exec PP T none x109.nt 10 x109.body (mkSt slB (HS n f s i a b) 11 []) .n (mkSt (slC n n) (HS n f (forcedS f i a b s n) i a b) 11 []) := by
  refine exec_seq (x := x109.body.a) (y := x109.body.b) (y109 (hs.le (by omega))) (exec_seq (x := x109.body.b.a) (y := .block 0 (.loop L109)) z109 (exec_block (e := .x 0) ?_))
  refine exec_loop_up (fun c => mkSt (slC n c) (HS n f (forcedS f i a b s c) i a b) 11 []) n (fun c hc => ?_) (exec_seq (x := L109.a) (y := L109.b) l109a (exec_seq_x (x := L109.b.a) (y := L109.b.b) l109x (by simp))) (by simp) 0 (by omega)
  exact l109 ((hs.forced c).le (by omega)) ha hb hc hn
end Go.Proofs.Yteekkjfjpoaihaa.Eng
namespace Go.Proofs.Yteekkjfjpoaihaa.Eng
open Go Go.Proofs
/-- a tree that keeps D where no small number leads -/
def tD (D : Tr HO) : Tr HO := .node none .nil (.node none .nil (.node none .nil (.node none .nil (.node none .nil D))))
/-- the numbers that lead there -/
def dN (x : Nat) : Nat := 62 + 32 * x
theorem tD_in (D : Tr HO) (x : Nat) : (tD D).get (dN x) = D.get x := by
  unfold tD dN
  simp only [Tr.get_node]
  rw [beqF (by omega), cond_false, beqF (by omega), cond_false, beqF (by omega), cond_false, beqF (by omega), cond_false, beqF (by omega), cond_false, beqF (by omega), cond_false, beqF (by omega), cond_false, beqF (by omega), cond_false, beqF (by omega), cond_false, beqF (by omega), cond_false]
  congr 1
  omega
theorem tD_out (D : Tr HO) (j : Nat) (h : ∀ x, j ≠ dN x) : (tD D).get j = none := by
  unfold tD
  simp only [Tr.get_node, Tr.get_nil]
  by_cases h0 : j = 0
  · rw [beqT h0]; rfl
  rw [beqF h0, cond_false]
  by_cases h1 : j % 2 = 1
  · rw [beqT h1]; rfl
  rw [beqF h1, cond_false]
  by_cases h2 : j / 2 - 1 = 0
  · rw [beqT h2]; rfl
  rw [beqF h2, cond_false]
  by_cases h3 : (j / 2 - 1) % 2 = 1
  · rw [beqT h3]; rfl
  rw [beqF h3, cond_false]
  by_cases h4 : (j / 2 - 1) / 2 - 1 = 0
  · rw [beqT h4]; rfl
  rw [beqF h4, cond_false]
  by_cases h5 : ((j / 2 - 1) / 2 - 1) % 2 = 1
  · rw [beqT h5]; rfl
  rw [beqF h5, cond_false]
  by_cases h6 : ((j / 2 - 1) / 2 - 1) / 2 - 1 = 0
  · rw [beqT h6]; rfl
  rw [beqF h6, cond_false]
  by_cases h7 : (((j / 2 - 1) / 2 - 1) / 2 - 1) % 2 = 1
  · rw [beqT h7]; rfl
  rw [beqF h7, cond_false]
  by_cases h8 : (((j / 2 - 1) / 2 - 1) / 2 - 1) / 2 - 1 = 0
  · rw [beqT h8]; rfl
  rw [beqF h8, cond_false]
  by_cases h9 : ((((j / 2 - 1) / 2 - 1) / 2 - 1) / 2 - 1) % 2 = 1
  · rw [beqT h9]; rfl
  exact absurd (show j = dN (((((j / 2 - 1) / 2 - 1) / 2 - 1) / 2 - 1) / 2 - 1) by unfold dN; omega) (h _)
noncomputable def setL (t : Tr HO) (l : List HO) : Tr HO := (List.rec (fun t _ => t) (fun h _ ih t i => ih (t.set i h) (Nat.succ i)) l : Tr HO → Nat → Tr HO) t 0
noncomputable def setLF (l : List HO) : Tr HO → Nat → Tr HO := List.rec (fun t _ => t) (fun h _ ih t i => ih (t.set i h) (Nat.succ i)) l
theorem setLF_get : ∀ (l : List HO) (t : Tr HO) (i j : Nat), (setLF l t i).get j = if i ≤ j ∧ j < i + l.length then l[j - i]? else t.get j
  | [], t, i, j => by
    show t.get j = _
    rw [if_neg (by rintro ⟨h1, h2⟩; simp only [List.length_nil] at h2; omega)]
  | h :: l, t, i, j => by
    show (setLF l (t.set i h) (i + 1)).get j = _
    rw [setLF_get l, Tr.get_set]
    by_cases e : j = i
    · subst e
      rw [if_neg (by omega), if_pos rfl, if_pos (by simp), Nat.sub_self]
      rfl
    · by_cases hb : i + 1 ≤ j ∧ j < i + 1 + l.length
      · rw [if_pos hb, if_pos (by simp; omega), show j - i = (j - (i + 1)) + 1 by omega]
        simp
      · rw [if_neg hb, if_neg e, if_neg (by simp; omega)]
theorem setL_get (t : Tr HO) (l : List HO) (j : Nat) : (setL t l).get j = if j < l.length then l[j]? else t.get j := by
  have := setLF_get l t 0 j
  simp only [Nat.zero_le, true_and, Nat.zero_add, Nat.sub_zero] at this
  exact this
/-- a state with D aside -/
noncomputable def stD (ts : List (Nat × Slot)) (hs : List HO) (nx : Nat) (D : Tr HO) (df : List Nat) : St := ⟨.al ts, .tr (setL (tD D) hs), nx, df⟩
theorem stD_lt {ts : List (Nat × Slot)} {hs : List HO} {nx : Nat} {D : Tr HO} {df : List Nat} {j : Nat} (h : j < hs.length) : (stD ts hs nx D df).hp.get j = hs[j]? := by
  show (setL (tD D) hs).get j = _
  rw [setL_get, if_pos h]
theorem stD_in {ts : List (Nat × Slot)} {hs : List HO} {nx : Nat} {D : Tr HO} {df : List Nat} {x : Nat} (h : hs.length ≤ 62) : (stD ts hs nx D df).hp.get (dN x) = D.get x := by
  show (setL (tD D) hs).get _ = _
  rw [setL_get, if_neg (by unfold dN; omega), tD_in]
theorem stD_out {ts : List (Nat × Slot)} {hs : List HO} {nx : Nat} {D : Tr HO} {df : List Nat} {j : Nat} (h : hs.length ≤ j) (h2 : ∀ x, j ≠ dN x) : (stD ts hs nx D df).hp.get j = none := by
  show (setL (tD D) hs).get _ = _
  rw [setL_get, if_neg (by omega), tD_out D j h2]
theorem all2_maps {α β : Type} {R1 R2 : α → β → Prop} {f g : Nat → α} : ∀ {xs : List Nat} {ds : List β}, All2 R1 (xs.map f) ds → (∀ x ∈ xs, ∀ d, R1 (f x) d → R2 (g x) d) → All2 R2 (xs.map g) ds
  | [], [], _, _ => trivial
  | [], _ :: _, h, _ => h.elim
  | _ :: _, [], h, _ => h.elim
  | x :: xs, d :: ds, ⟨h1, h2⟩, h => ⟨h x (by simp) d h1, all2_maps h2 fun y hy => h y (by simp [hy])⟩
section
variable {P : Program} {T : Tab} {r : Option Nat} {Γ : Cal → Option Spec} {nt kp : Nat}
/-- another view, the store aside told by where its blocks were -/
theorem weak_D {S : St} {ts : List (Nat × Slot)} {hs : List HO} {nx : Nat} {D : Tr HO} {df ids : List Nat} (dm : Nat → Nat) (hok : mkOkG ts hs ids 0 = true) (hl62 : hs.length ≤ 62)
    (hts : ∀ p ∈ ts, S.sl.get p.1 = some ⟨p.2.c, p.2.v.ren fun j => ids.getD j 0⟩) (hhs : ∀ j h, hs[j]? = some h → (h.live = true → S.hp.get (ids.getD j 0) = some (h.ren fun j => ids.getD j 0)) ∧ (h.live = false → (S.hp.get (ids.getD j 0)).isSome = true))
    (hD : ∀ x ho, D.get x = some ho → ho = ⟨false, .dfr⟩ ∧ S.hp.get (dm x) = some ho ∧ (∀ j h, hs[j]? = some h → h.live = true → ids.getD j 0 ≠ dm x)) (hDi : ∀ x y ho ho', D.get x = some ho → D.get y = some ho' → dm x = dm y → x = y)
    (hnl : ∀ (j : Nat) (h : HO), hs[j]? = some h → h.o.isLoop = false) (hdf : ∃ xs : List Nat, df = xs.map dN ∧ S.df = xs.map dm ∧ ∀ x ∈ xs, (D.get x).isSome = true) : Weak T 0 S (stD ts hs nx D df) := by
  intro ctx nt m a w hR
  simp only [mkOkG, Bool.and_eq_true] at hok
  obtain ⟨⟨⟨⟨h1, h2⟩, h3⟩, h4⟩, h5⟩ := hok
  have hlen := Nat.eq_of_beq_eq_true h4
  have hinj : ∀ x y, dN x = dN y → x = y := fun x y h => by unfold dN at h; omega
  have hdl : ∀ x j, j < hs.length → j ≠ dN x := fun x j h e => by unfold dN at e; omega
  let m2 : MM := fun j => if j < hs.length then m (ids.getD j 0) else if j ≥ 62 ∧ (j - 62) % 32 = 0 ∧ (D.get ((j - 62) / 32)).isSome = true then m (dm ((j - 62) / 32)) else none
  have hm2 : ∀ j, j < hs.length → m2 j = m (ids.getD j 0) := fun j hj => by simp only [m2, if_pos hj]
  have hmD : ∀ x, (D.get x).isSome = true → m2 (dN x) = m (dm x) := fun x hx => by
    have e : (dN x - 62) / 32 = x := by unfold dN; omega
    simp only [m2]
    rw [if_neg (by unfold dN; omega), if_pos (by rw [e]; exact ⟨by unfold dN; omega, by unfold dN; omega, hx⟩), e]
  have hdist : ∀ i j hi hj, hs[i]? = some hi → hs[j]? = some hj → hi.live = true → hj.live = true → i ≠ j → ids.getD i 0 ≠ ids.getD j 0 := by
    intro i j hi hj e1 e2 l1 l2 hne he
    have g1 := (List.getElem?_eq_some_iff.1 e1).1
    have g2 := (List.getElem?_eq_some_iff.1 e2).1
    have := List.all_eq_true.1 (List.all_eq_true.1 h3 i (List.mem_range.2 g1)) j (List.mem_range.2 g2)
    simp only [liveAt, e1, e2, l1, l2, Bool.not_true, Bool.false_or, Bool.or_eq_true, Bool.not_eq_true'] at this
    rcases this with h | h
    · exact hne (Nat.eq_of_beq_eq_true h)
    · rw [beqT he] at h; cases h
  -- each object of the new view, where it was
  have hwhere : ∀ id ho, (stD ts hs nx D df).hp.get id = some ho → (id < hs.length ∧ hs[id]? = some ho) ∨ ∃ x, id = dN x ∧ D.get x = some ho := by
    intro id ho hid
    by_cases hl : id < hs.length
    · rw [stD_lt hl] at hid; exact .inl ⟨hl, hid⟩
    · by_cases hx : ∃ x, id = dN x
      · obtain ⟨x, rfl⟩ := hx
        rw [stD_in hl62] at hid
        exact .inr ⟨x, rfl, hid⟩
      · rw [stD_out (by omega) fun x e => hx ⟨x, e⟩] at hid; cases hid
  let oid : Nat → Nat := fun id => if id < hs.length then ids.getD id 0 else dm ((id - 62) / 32)
  have oid1 : ∀ id, id < hs.length → oid id = ids.getD id 0 := fun id h => if_pos h
  have oid2 : ∀ x, oid (dN x) = dm x := fun x => by
    have e : (dN x - 62) / 32 = x := by unfold dN; omega
    show (if dN x < hs.length then _ else _) = _
    rw [if_neg (by unfold dN; omega), e]
  have hold : ∀ id ho, (stD ts hs nx D df).hp.get id = some ho → ho.live = true → ∃ ho', S.hp.get (oid id) = some ho' ∧ ho'.ro = ho.ro ∧ ho'.live = true ∧ m2 id = m (oid id) := by
    intro id ho hid hl
    rcases hwhere id ho hid with ⟨hlt, h⟩ | ⟨x, rfl, h⟩
    · rw [oid1 id hlt]
      exact ⟨_, (hhs id ho h).1 hl, rfl, by rw [HO.live_ren]; exact hl, hm2 id hlt⟩
    · rw [oid2 x]
      obtain ⟨_, g, _⟩ := hD x ho h
      exact ⟨_, g, rfl, hl, hmD x (by rw [h]; rfl)⟩
  refine ⟨m2, fun id mb hid hmb => absurd hid (by omega), fun t s hts' => ?_, hR.size, ?_, ?_⟩
  · have hm := alGet_mem hts'
    have := hts _ hm
    have hs1 := hR.slot t _ this
    refine ⟨fun c => TR.unren (hs1.1 c) fun j hj => hm2 j ?_, hs1.2⟩
    have := List.all_eq_true.1 (List.all_eq_true.1 h1 _ hm) j hj
    exact Nat.le_of_ble_eq_true this
  · refine ⟨fun id ho hid => ?_, fun id id' ho ho' mb mb' b hne hid hid' hro hl hl' hm hm' hb => ?_, fun id hid => ?_, hR.heap.os, hR.heap.tape, hR.heap.output, hR.heap.size, hR.heap.same0⟩
    · rcases hwhere id ho hid with ⟨hlt, h⟩ | ⟨x, rfl, h⟩
      · have hin := List.all_eq_true.1 h2 ho (List.mem_of_getElem? h)
        simp only [Bool.and_eq_true, Bool.or_eq_true, Bool.not_eq_true'] at hin
        cases hlv : ho.live with
        | true =>
          obtain ⟨mb, g1, g2, g3, g4⟩ := hR.heap.obj _ _ ((hhs id ho h).1 hlv)
          exact ⟨mb, by rw [hm2 id hlt]; exact g1, OR.unren g2 (fun j hj => hm2 j (Nat.le_of_ble_eq_true (List.all_eq_true.1 hin.1 j hj))) (hnl id ho h), fun _ => g3 (by rw [HO.live_ren]; exact hlv), fun hro _ => g4 hro (by rw [HO.live_ren]; exact hlv)⟩
        | false =>
          obtain ⟨h', hh'⟩ := Option.isSome_iff_exists.1 ((hhs id ho h).2 hlv)
          obtain ⟨mb, g1, _⟩ := hR.heap.obj _ _ hh'
          refine ⟨mb, by rw [hm2 id hlt]; exact g1, ?_, fun h => by simp at h, fun _ h => by simp at h⟩
          rw [live_gone hlv]
          trivial
      · obtain ⟨e, g, _⟩ := hD x ho h
        obtain ⟨mb, g1, g2, g3, g4⟩ := hR.heap.obj _ _ g
        subst e
        exact ⟨mb, by rw [hmD x (by rw [h]; rfl)]; exact g1, g2, g3, g4⟩
    · obtain ⟨k1, a1, b1, c1, d1⟩ := hold id ho hid hl
      obtain ⟨k2, a2, b2, c2, d2⟩ := hold id' ho' hid' hl'
      refine hR.heap.dist _ _ k1 k2 mb mb' b ?_ a1 a2 (by rw [b1]; exact hro) c1 c2 (by rw [← d1]; exact hm) (by rw [← d2]; exact hm') hb
      rcases hwhere id ho hid with ⟨hlt, h⟩ | ⟨x, rfl, h⟩ <;> rcases hwhere id' ho' hid' with ⟨hlt', h'⟩ | ⟨x', rfl, h'⟩
      · rw [oid1 id hlt, oid1 id' hlt']
        exact hdist id id' ho ho' h h' hl hl' hne
      · rw [oid1 id hlt, oid2]
        exact (hD x' ho' h').2.2 id ho h hl
      · rw [oid2, oid1 id' hlt']
        exact fun e => (hD x ho h).2.2 id' ho' h' hl' e.symm
      · rw [oid2, oid2]
        exact fun e => hne (by rw [hDi x x' ho ho' h h' e])
    · by_cases hl : id < hs.length
      · rw [stD_lt hl] at hid
        simp at hid
        omega
      · simp only [m2, if_neg hl]
        split
        · rename_i hc
          have e : id = dN ((id - 62) / 32) := by unfold dN; omega
          rw [e, stD_in hl62] at hid
          rw [hid] at hc
          simp at hc
        · rfl
  · obtain ⟨xs, rfl, e2, hxs⟩ := hdf
    have := hR.df
    rw [e2] at this
    exact all2_maps this fun x hx d ⟨mb, b, e1, e2⟩ => ⟨mb, b, by rw [hmD x (hxs x hx)]; exact e1, e2⟩
/-- what is aside, as a run leaves it -/
noncomputable def spine (S : Sto HO) : Option (Tr HO) := match S with
  | .tr (.node _ _ (.node _ _ (.node _ _ (.node _ _ (.node _ _ D))))) => some D
  | _ => none
theorem spine_get {S : Sto HO} {D : Tr HO} (h : spine S = some D) (x : Nat) : S.get (dN x) = D.get x := by
  unfold spine at h
  split at h
  case h_2 => cases h
  cases h
  unfold dN
  simp only [Sto.get, Tr.get_node]
  rw [beqF (by omega), cond_false, beqF (by omega), cond_false, beqF (by omega), cond_false, beqF (by omega), cond_false, beqF (by omega), cond_false, beqF (by omega), cond_false, beqF (by omega), cond_false, beqF (by omega), cond_false, beqF (by omega), cond_false, beqF (by omega), cond_false]
  congr 1
  omega
/-- k blocks aside -/
noncomputable def dT (k : Nat) : Tr HO := Nat.rec .nil (fun k ih => ih.set k ⟨false, .dfr⟩) k
theorem dT_succ (k : Nat) : dT (k + 1) = (dT k).set k ⟨false, .dfr⟩ := rfl
theorem dT_get : ∀ (k x : Nat), (dT k).get x = if x < k then some ⟨false, .dfr⟩ else none
  | 0, x => rfl
  | k + 1, x => by
    rw [dT_succ, Tr.get_set, dT_get k]
    by_cases h : x = k
    · subst h
      rw [if_pos rfl, if_pos (by omega)]
    · by_cases h2 : x < k
      · rw [if_neg h, if_pos h2, if_pos (by omega)]
      · rw [if_neg h, if_neg h2, if_neg (by omega)]
def dL (k : Nat) : List Nat := (List.range k).reverse.map dN
theorem dL_succ (k : Nat) : dL (k + 1) = dN k :: dL k := by simp [dL, List.range_succ]
noncomputable def vwD (ts ids : List Nat) (hs : List HO) (q : Option (Bool × XE × St × List Bool)) : Option (XE × (List (Option Slot) × List (Option HO) × List Nat) × Option (Tr HO)) :=
  q.map fun q => (q.2.1, viewG ts ids hs q.2.2.1, spine q.2.2.1.hp)
/-- a run that leaves what is aside alone -/
theorem exec_orunD (hE : EnvOK P T Γ) (inr : Bool) (k : Nat) (os : List Bool) (ids : List Nat) {K : Nat} (hr : inr = false → r = none) {c : XC} {S : St} {e : XE} {ts : List (Nat × Slot)} {hs : List HO} {nx : Nat}
    (hv : vwD (ts.map (·.1)) ids hs (orun Γ inr k c S os) = some (e, (ts.map (fun p => some ⟨p.2.c, p.2.v.ren fun j => ids.getD j 0⟩), hs.map (fun h => some (bif h.live then h.ren fun j => ids.getD j 0 else goneH)), dL K), some (dT K)))
    (hok : mkOkG ts hs ids 0 = true) (hl : Nat.ble hs.length 62 = true) (hid : ids.all (fun j => Nat.blt j 62) = true) (hnl : hs.all (fun h => !h.o.isLoop) = true) (hob : obOf (orun Γ inr k c S os) = true) : Exec P T r nt 0 c S e (stD ts hs nx (dT K) (dL K)) := by
  unfold vwD at hv
  cases ho : orun Γ inr k c S os with
  | none => rw [ho] at hv; cases hv
  | some q =>
    obtain ⟨v, e1, S1, os1⟩ := q
    rw [ho] at hv hob
    simp only [Option.map_some, Option.some.injEq, Prod.mk.injEq, viewG] at hv
    obtain ⟨rfl, ⟨h3, h4, h5⟩, h6⟩ := hv
    have hlen : ids.length = hs.length := by
      simp only [mkOkG, Bool.and_eq_true] at hok
      exact Nat.eq_of_beq_eq_true hok.1.2
    refine (orun_snd hE hr k c S S1 os os1 e1 v ho hob).1.post (weak_D (ids := ids) dN hok (Nat.le_of_ble_eq_true hl) (fun p hp => ?_) (fun j h hj => ?_) (fun x ho hx => ?_) (fun x y _ _ _ _ h => by unfold dN at h; omega) (fun j h hj => ?_) ⟨(List.range K).reverse, rfl, h5, fun x hx => ?_⟩)
    · rw [List.map_map] at h3
      exact List.map_inj_left.1 h3 p hp
    · have hlt : j < hs.length := (List.getElem?_eq_some_iff.1 hj).1
      have e : ids[j]? = some (ids.getD j 0) := by
        have : j < ids.length := by omega
        simp [this]
      have hz : (ids.zip hs)[j]? = some (ids.getD j 0, h) := by
        rw [List.getElem?_zip_eq_some]
        exact ⟨e, hj⟩
      have := congrArg (fun l => l[j]?) h4
      simp only [List.getElem?_map, hz, hj, Option.map_some, Option.some.injEq] at this
      unfold lookH at this
      refine ⟨fun hl => ?_, fun hl => ?_⟩
      · rw [hl, cond_true, cond_true] at this
        exact this
      · rw [hl, cond_false] at this
        cases hg : S1.hp.get (ids.getD j 0) with
        | none => rw [hg] at this; cases this
        | some x => rfl
    · rw [spine_get h6, hx]
      rw [dT_get] at hx
      split at hx
      case isFalse => cases hx
      cases hx
      refine ⟨rfl, rfl, fun j h hj _ he => ?_⟩
      have hlt : j < hs.length := (List.getElem?_eq_some_iff.1 hj).1
      have hm : ids.getD j 0 ∈ ids := by
        have : j < ids.length := by omega
        simp [this]
      have := Nat.le_of_ble_eq_true (List.all_eq_true.1 hid _ hm)
      unfold dN at he
      omega
    · simpa using List.all_eq_true.1 hnl h (List.mem_of_getElem? hj)
    · rw [dT_get, if_pos (by simpa using hx)]
      rfl
end
end Go.Proofs.Yteekkjfjpoaihaa.Eng
namespace Go.Proofs.Yteekkjfjpoaihaa.Eng
open Go Go.Proofs
/-- calls in place of forced alone -/
noncomputable def s88 : Spec := callS x88 (crun g0 false 60)
theorem ok88 : SpecOK PP (compC T) 88 s88 := callS_ok tokP o88 fun c S S' e kp nt hr => (crun_snd env0 (fun _ => rfl) 60 c S S' e hr).1
noncomputable def L8 : List (Nat × Spec) := [(88, s88)]
theorem L8_ok : SpecsL L8 := specsL_cons ok88 callS_fp o88 (fun p hp => absurd hp (by simp))
noncomputable abbrev g8 : Cal → Option Spec := specsΓ L8
theorem env8 : EnvOK PP T g8 := envL L8_ok
abbrev RG (n : Nat) (f : Nat → Bool) : HO := ⟨true, .row 115 [.int .i64 (Int.ofNat n)] 49 f⟩
abbrev slA : List (Nat × Slot) := [(0, g1S 0), (6, g1S 1), (7, g1S 3), (8, g1S 4)]
abbrev HA (n : Nat) (f : Nat → Bool) (s : Sig) (i : Nat) : List HO := [RG n f, ⟨false, .row 78 [.mp 2] 0 ff⟩, ⟨false, .map (.ints 2) (.ints 2) s.1⟩, ⟨false, .row 74 [.sl 5 0 2 s.2.2] 0 ff⟩, ⟨false, .row 3 [.int .i64 i] 0 ff⟩, ⟨false, .ivec 77 .i64 2 s.2.1⟩]
noncomputable abbrev SA (n : Nat) (f : Nat → Bool) (s : Sig) (i k : Nat) : St := stD slA (HA n f s i) 6 (dT k) (dL k)
abbrev HP (n : Nat) (f : Nat → Bool) (s : Sig) (i : Nat) (x y : Int) : List HO := [RG n f, ⟨false, .row 78 [.mp 2] 0 ff⟩, ⟨false, .map (.ints 2) (.ints 2) s.1⟩, ⟨false, .row 74 [.sl 7 0 2 s.2.2] 0 ff⟩, ⟨false, .row 3 [.int .i64 i] 0 ff⟩, ⟨false, .row 64 [.ptr 0 0 0] 0 ff⟩, ⟨false, .row 77 [.int .i64 x, .int .i64 y] 0 ff⟩, ⟨false, .ivec 77 .i64 2 s.2.1⟩]
noncomputable abbrev SP (n : Nat) (f : Nat → Bool) (s : Sig) (i k : Nat) (x y : Int) : St := stD slR (HP n f s i x y) 8 (dT k) (dL k)
theorem e54a {n : Nat} {f : Nat → Bool} {s : Sig} {i k : Nat} (hi : i < s.2.2) : Exec PP T none x54.nt 0 L54.a (SA n f s i k) .n (SA n f s i k) := by
  refine exec_orunD env0 false 60 [true] [0, 1, 2, 3, 4, 5] (fun _ => rfl) (by kernel_rfl) (by kernel_rfl) (by kernel_rfl) (by kernel_rfl) (by kernel_rfl) ?_
  rw [(show obOf (orun g0 false 60 L54.a (SA n f s i k) [true]) = (decide (Int.ofNat i < Int.ofNat s.snd.2) && true) from by kernel_rfl)]
  simp
  omega
theorem e54x {n : Nat} {f : Nat → Bool} {s : Sig} {i k : Nat} (hi : ¬ i < s.2.2) : Exec PP T none x54.nt 0 L54.a (SA n f s i k) (.x 0) (SA n f s i k) := by
  refine exec_orunD env0 false 60 [false] [0, 1, 2, 3, 4, 5] (fun _ => rfl) (by kernel_rfl) (by kernel_rfl) (by kernel_rfl) (by kernel_rfl) (by kernel_rfl) ?_
  rw [(show obOf (orun g0 false 60 L54.a (SA n f s i k) [false]) = (!decide (Int.ofNat i < Int.ofNat s.snd.2) && true) from by kernel_rfl)]
  simp
  omega
theorem e54b {n : Nat} {f : Nat → Bool} {s : Sig} {i k : Nat} (hs : okSig s i 900) : Exec PP T none x54.nt 0 L54.b.a.i.a (SA n f s i k) .n (SP n f s i k (s.2.1.getD (0 + (0 + i) * 2 + 0) 0) (s.2.1.getD (0 + (0 + i) * 2 + 0 + 1) 0)) := by
  refine exec_orunD env8 false 60 [] [0, 1, 2, 3, 4, 6, 7, 5] (fun _ => rfl) (by kernel_rfl) (by kernel_rfl) (by kernel_rfl) (by kernel_rfl) (by kernel_rfl) ?_
  rw [(show obOf (orun g8 false 60 L54.b.a.i.a (SA n f s i k) []) = (decide (0 ≤ Int.ofNat i) && decide (Int.ofNat i < Int.ofNat s.snd.2) && (decide (((0 + (0 + i) * 2).add 0).succ.succ ≤ s.snd.1.length) && true)) from by kernel_rfl)]
  simp
  have := hs.1
  have := hs.2.1
  omega
theorem e54d {n : Nat} {f : Nat → Bool} {s : Sig} {i k : Nat} (hi : i < 1000) : Exec PP T none x54.nt 0 L54.b.b (SA n f s i k) .n (SA n f s (i + 1) k) := by
  refine exec_orunD env0 false 60 [] [0, 1, 2, 3, 6, 5] (fun _ => rfl) (by kernel_rfl) (by kernel_rfl) (by kernel_rfl) (by kernel_rfl) (by kernel_rfl) ?_
  rw [(show obOf (orun g0 false 60 L54.b.b (SA n f s i k) []) = (rng64 (Int.ofNat i.succ) && true) from by kernel_rfl)]
  simp [rng64]
  omega
end Go.Proofs.Yteekkjfjpoaihaa.Eng
namespace Go.Proofs.Yteekkjfjpoaihaa.Eng
open Go Go.Proofs
theorem F54_eq : F54 = .rf (.t 29) [30] a54 b54 := by kernel_rfl
abbrev lpR : HO := ⟨false, .loop (.al slR) [30] a54 b54 .ready⟩
/-- the objects that forced sees at its start -/
abbrev HQ (n : Nat) (f : Nat → Bool) (s : Sig) (i : Nat) (x y : Int) : List HO := [RG n f, ⟨true, .row 78 [.mp 2] 0 ff⟩, ⟨false, .map (.ints 2) (.ints 2) s.1⟩, ⟨false, .row 74 [.sl 7 0 2 s.2.2] 0 ff⟩, ⟨true, .row 3 [.int .i64 i] 0 ff⟩, ⟨true, .row 64 [.ptr 0 0 0] 0 ff⟩, ⟨true, .row 77 [.int .i64 x, .int .i64 y] 0 ff⟩, ⟨false, .ivec 77 .i64 2 s.2.1⟩, ⟨true, .dfr⟩, lpR]
abbrev AQ : List AV := [.s (.yield 9), .s (.ptr 6 0 0), .s (.ptr 5 0 0)]
abbrev updQ (s' : Sig) : List (Nat × HO) := [(9, lpR), (2, ⟨false, .map (.ints 2) (.ints 2) s'.1⟩), (3, ⟨false, .row 74 [.sl 10 0 2 s'.2.2] 0 ff⟩), (7, ⟨false, .gone⟩)]
noncomputable abbrev HF (n : Nat) (f : Nat → Bool) (s : Sig) (i k : Nat) (x y : Int) : Sto HO := rfH (SP n f s i k x y) [30] a54 b54
noncomputable abbrev spQ (n : Nat) (f : Nat → Bool) (s : Sig) (i k : Nat) (x y : Nat) : Spec := spAt AQ (HF n f s i k (Int.ofNat x) (Int.ofNat y)).get 10 (.tup []) (updQ (forcedS f i x y s n)) [⟨false, .ivec 77 .i64 2 (forcedS f i x y s n).2.1⟩]
theorem HYr_ids {n : Int} {f : Nat → Bool} {E : List (CV × CV)} {q : List Int} {m i : Nat} {a b : Int} : ∀ (j : Nat) (o : HO), (HYr n f E q m i a b .ready)[j]? = some o → ∀ i ∈ o.o.ids, i < 11 := fun j o hj i hi => by
  match j, hj with
  | 0, hj => cases hj; simp [AO.ids, SV.ids] at hi
  | 1, hj => cases hj; simp [AO.ids, SV.ids] at hi; omega
  | 2, hj => cases hj; simp [AO.ids, SV.ids] at hi
  | 3, hj => cases hj; simp [AO.ids, SV.ids] at hi; omega
  | 4, hj => cases hj; simp [AO.ids, SV.ids] at hi
  | 5, hj => cases hj; simp [AO.ids, SV.ids] at hi; omega
  | 6, hj => cases hj; simp [AO.ids, SV.ids] at hi
  | 7, hj => cases hj; simp [AO.ids, SV.ids] at hi
  | 8, hj => cases hj; simp [AO.ids, SV.ids] at hi
  | 9, hj =>
    cases hj
    have : i = 0 ∨ i = 1 ∨ i = 3 ∨ i = 4 ∨ i = 6 ∨ i = 5 := by simpa [AO.ids, Sto.vals, TV.ids, AV.ids, SV.ids] using hi
    omega
  | 10, hj => cases hj; simp [AO.ids, SV.ids] at hi
  | j + 11, hj => simp at hj
theorem atOK_Q {n : Nat} {f : Nat → Bool} {s s' : Sig} {i k x y : Nat} : AtOK (HF n f s i k (Int.ofNat x) (Int.ofNat y)).get (mkSt [] (HQ n f s i (Int.ofNat x) (Int.ofNat y)) 10 []).hp 10 10 (updQ s') [⟨false, .ivec 77 .i64 2 s'.2.1⟩] (HS n f s' i x y) where
  start := fun j o hj => by
    rw [mkSt_hp] at hj
    match j, hj with
    | 0, hj => cases hj; exact ⟨RG n f, by kernel_rfl, rfl, fun h => by cases h⟩
    | 1, hj => cases hj; exact ⟨⟨false, .row 78 [.mp 2] 0 ff⟩, by kernel_rfl, rfl, fun h => by cases h⟩
    | 2, hj => cases hj; exact ⟨⟨false, .map (.ints 2) (.ints 2) s.1⟩, by kernel_rfl, rfl, fun _ => ⟨rfl, fun _ => ⟨_, .tail _ (.head _), rfl⟩⟩⟩
    | 3, hj => cases hj; exact ⟨⟨false, .row 74 [.sl 7 0 2 s.2.2] 0 ff⟩, by kernel_rfl, rfl, fun _ => ⟨rfl, fun _ => ⟨_, .tail _ (.tail _ (.head _)), rfl⟩⟩⟩
    | 4, hj => cases hj; exact ⟨⟨false, .row 3 [.int .i64 i] 0 ff⟩, by kernel_rfl, rfl, fun h => by cases h⟩
    | 5, hj => cases hj; exact ⟨⟨false, .row 64 [.ptr 0 0 0] 0 ff⟩, by kernel_rfl, rfl, fun h => by cases h⟩
    | 6, hj => cases hj; exact ⟨⟨false, .row 77 [.int .i64 (Int.ofNat x), .int .i64 (Int.ofNat y)] 0 ff⟩, by kernel_rfl, rfl, fun h => by cases h⟩
    | 7, hj => cases hj; exact ⟨⟨false, .ivec 77 .i64 2 s.2.1⟩, by kernel_rfl, rfl, fun _ => ⟨rfl, fun _ => ⟨_, .tail _ (.tail _ (.tail _ (.head _))), rfl⟩⟩⟩
    | 8, hj => cases hj; exact ⟨⟨false, .dfr⟩, by kernel_rfl, rfl, fun h => by cases h⟩
    | 9, hj => cases hj; exact ⟨lpR, by kernel_rfl, rfl, fun _ => ⟨rfl, fun _ => ⟨_, .head _, rfl⟩⟩⟩
    | j + 10, hj => simp at hj
  keep := fun j hj => by
    rw [mkSt_hp]
    simp
    omega
  len := rfl
  new := rfl
  news_eq := rfl
  upd_eq := fun u hu => by
    simp only [List.mem_cons, List.not_mem_nil, or_false] at hu
    rcases hu with rfl | rfl | rfl | rfl
    · exact .inr ⟨(by show 9 < 10; omega), _, rfl, rfl, rfl, fun _ j hj => by
        have : j = 0 ∨ j = 1 ∨ j = 3 ∨ j = 4 ∨ j = 6 ∨ j = 5 := by simpa [AO.ids, Sto.vals, TV.ids, AV.ids, SV.ids] using hj
        omega⟩
    · exact .inr ⟨(by show 2 < 10; omega), _, rfl, rfl, rfl, fun h => by cases h⟩
    · exact .inr ⟨(by show 3 < 10; omega), _, rfl, rfl, rfl, fun h => by cases h⟩
    · exact .inl ⟨rfl, rfl⟩
  ids := HYr_ids
theorem ok_Q {n : Nat} {f : Nat → Bool} {s : Sig} {i k x y : Nat} (hs : okSig s i 900) (hx : x < 7) (hy : y < 7) (hn : n ≤ 7) : SpecOK PP (compC T) 109 (spQ n f s i k x y) := by
  refine spec_at (S := (mkSt [] (HQ n f s i (Int.ofNat x) (Int.ofNat y)) 10 []).hp) (K := 10) (ts := slC n n) (nx := 11) (ex := .n) o109 atOK_Q (fun j o hj i hi => ?_) (fun i hi => ?_) (by kernel_rfl) (Exec.pre (weak_viewG (ids := [0, 1, 2, 3, 4, 5, 6, 7, 8, 9, 7]) (by kernel_rfl) (by kernel_rfl) (by kernel_rfl)) (body109 hs hx hy hn)) (.inl rfl) (by kernel_rfl)
  · rw [mkSt_hp] at hj ⊢
    have : i < 10 := by
      match j, hj with
      | 0, hj => cases hj; simp [AO.ids, SV.ids] at hi
      | 1, hj => cases hj; simp [AO.ids, SV.ids] at hi; omega
      | 2, hj => cases hj; simp [AO.ids, SV.ids] at hi
      | 3, hj => cases hj; simp [AO.ids, SV.ids] at hi; omega
      | 4, hj => cases hj; simp [AO.ids, SV.ids] at hi
      | 5, hj => cases hj; simp [AO.ids, SV.ids] at hi; omega
      | 6, hj => cases hj; simp [AO.ids, SV.ids] at hi
      | 7, hj => cases hj; simp [AO.ids, SV.ids] at hi
      | 8, hj => cases hj; simp [AO.ids, SV.ids] at hi
      | 9, hj =>
        cases hj
        have : i = 0 ∨ i = 1 ∨ i = 3 ∨ i = 4 ∨ i = 6 ∨ i = 5 := by simpa [AO.ids, Sto.vals, TV.ids, AV.ids, SV.ids] using hi
        omega
      | j + 10, hj => simp at hj
    simp
    omega
  · rw [mkSt_hp]
    have : i = 9 ∨ i = 6 ∨ i = 5 := by simpa [AV.ids, SV.ids] using hi
    simp
    omega
noncomputable abbrev eQ (n : Nat) (f : Nat → Bool) (s : Sig) (i k x y : Nat) : Eff := ⟨atB AQ AQ (HF n f s i k (Int.ofNat x) (Int.ofNat y)).get (HF n f s i k (Int.ofNat x) (Int.ofNat y)).get 10 10, .tup [], updQ (forcedS f i x y s n), [⟨false, .ivec 77 .i64 2 (forcedS f i x y s n).2.1⟩], none⟩
theorem e54r {n : Nat} {f : Nat → Bool} {s : Sig} {i k x y : Nat} (hs : okSig s i 900) (hx : x < 7) (hy : y < 7) (hn : n ≤ 7) : Exec PP T none x54.nt 0 F54 (SP n f s i k (Int.ofNat x) (Int.ofNat y)) .n (SA n f (forcedS f i x y s n) i (k + 1)) := by
  rw [F54_eq]
  have hE : EnvOK PP T (specsΓ [(109, spQ n f s i k x y)]) := envL (specsL_cons (ok_Q hs hx hy hn) spAt_fp o109 (fun p hp => absurd hp (by simp)))
  have key := exec_rf (nt := x54.nt) (kp := 0) hE (f := .t 29) (ps := [30]) (asg := a54) (body := b54) (S := SP n f s i k (Int.ofNat x) (Int.ofNat y)) (fid := 109) (caps := [6, 5]) (sp := spQ n f s i k x y) (e := eQ n f s i k x y) (sl2 := .al slR) (ps2 := [30]) (asg2 := a54) (body2 := b54) (st := .ready) (ex := .n)
    (by kernel_rfl) (by kernel_rfl) (by kernel_rfl) (by kernel_rfl) rfl (atB_t rfl rfl rfl) (by kernel_rfl) (by kernel_rfl) (by kernel_rfl) rfl
  have hsp : spine (rfS (SP n f s i k (Int.ofNat x) (Int.ofNat y)) [30] a54 b54 (eQ n f s i k x y)).hp = some (dT k) := by kernel_rfl
  refine key.post (weak_D (ids := [0, 1, 2, 3, 4, 10]) (fun z => if z = k then 8 else dN z) (by kernel_rfl) (by simp) (fun p hp => ?_) (fun j h hj => ?_) (fun z ho hz => ?_) (fun z z' _ _ _ _ h => ?_) (fun j h hj => ?_) ⟨k :: (List.range k).reverse, ?_, ?_, fun z hz => ?_⟩)
  · simp only [List.mem_cons, List.not_mem_nil, or_false] at hp
    rcases hp with rfl | rfl | rfl | rfl <;> kernel_rfl
  · match j, hj with
    | 0, hj => cases hj; exact ⟨fun _ => by kernel_rfl, fun h => by cases h⟩
    | 1, hj => cases hj; exact ⟨fun _ => by kernel_rfl, fun h => by cases h⟩
    | 2, hj => cases hj; exact ⟨fun _ => by kernel_rfl, fun h => by cases h⟩
    | 3, hj => cases hj; exact ⟨fun _ => by kernel_rfl, fun h => by cases h⟩
    | 4, hj => cases hj; exact ⟨fun _ => by kernel_rfl, fun h => by cases h⟩
    | 5, hj => cases hj; exact ⟨fun _ => by kernel_rfl, fun h => by cases h⟩
    | j + 6, hj => simp at hj
  · rw [dT_get] at hz
    split at hz
    case isFalse => cases hz
    rename_i hzk
    cases hz
    by_cases e : z = k
    · subst e
      refine ⟨rfl, ?_, fun j h hj _ => ?_⟩
      · rw [if_pos rfl]; kernel_rfl
      · rw [if_pos rfl]
        match j, hj with
        | 0, _ => decide
        | 1, _ => decide
        | 2, _ => decide
        | 3, _ => decide
        | 4, _ => decide
        | 5, _ => decide
        | j + 6, hj => simp at hj
    · rw [if_neg e]
      refine ⟨rfl, ?_, fun j h hj _ => ?_⟩
      · rw [spine_get hsp, dT_get, if_pos (by omega)]
      · match j, hj with
        | 0, _ => unfold dN; simp; omega
        | 1, _ => unfold dN; simp; omega
        | 2, _ => unfold dN; simp; omega
        | 3, _ => unfold dN; simp; omega
        | 4, _ => unfold dN; simp; omega
        | 5, _ => unfold dN; simp; omega
        | j + 6, hj => simp at hj
  · have h : (if z = k then 8 else dN z) = (if z' = k then 8 else dN z') := h
    by_cases e : z = k <;> by_cases e' : z' = k
    · omega
    · rw [if_pos e, if_neg e'] at h; unfold dN at h; omega
    · rw [if_neg e, if_pos e'] at h; unfold dN at h; omega
    · rw [if_neg e, if_neg e'] at h; unfold dN at h; omega
  · match j, hj with
    | 0, hj => cases hj; rfl
    | 1, hj => cases hj; rfl
    | 2, hj => cases hj; rfl
    | 3, hj => cases hj; rfl
    | 4, hj => cases hj; rfl
    | 5, hj => cases hj; rfl
    | j + 6, hj => simp at hj
  · rw [dL_succ]; rfl
  · show 8 :: dL k = _
    rw [List.map_cons, if_pos rfl]
    congr 1
    unfold dL
    refine List.map_congr_left fun z hz => ?_
    have hzk : z < k := by simpa using hz
    rw [if_neg (by omega)]
  · rw [dT_get, if_pos]
    · rfl
    · rcases List.mem_cons.1 hz with rfl | h
      · omega
      · have : z < k := by simpa using h
        omega
end Go.Proofs.Yteekkjfjpoaihaa.Eng
namespace Go.Proofs.Yteekkjfjpoaihaa.Eng
open Go Go.Proofs
def keyN (p : Nat × Nat) : CV := .is [Int.ofNat p.1, Int.ofNat p.2]
def flatN (l : List (Nat × Nat)) : List Int := l.flatMap fun p => [Int.ofNat p.1, Int.ofNat p.2]
theorem flatN_len (l : List (Nat × Nat)) : (flatN l).length = l.length * 2 := by
  unfold flatN
  induction l with
  | nil => rfl
  | cons a l ih => rw [List.flatMap_cons, List.length_append, ih]; simp; omega
theorem flatN_get : ∀ {l : List (Nat × Nat)} {i : Nat} {p : Nat × Nat}, l[i]? = some p → (flatN l).getD (i * 2) 0 = Int.ofNat p.1 ∧ (flatN l).getD (i * 2 + 1) 0 = Int.ofNat p.2
  | a :: l, 0, p, h => by cases h; exact ⟨rfl, rfl⟩
  | a :: l, i + 1, p, h => by
    have h : l[i]? = some p := by simpa using h
    have := flatN_get h
    have e : flatN (a :: l) = Int.ofNat a.1 :: Int.ofNat a.2 :: flatN l := rfl
    rw [e, show (i + 1) * 2 = i * 2 + 1 + 1 by omega]
    simpa using this
structure Inv (s : Sig) (l : List (Nat × Nat)) : Prop where
  q : s.2.1 = flatN l
  m : s.2.2 = l.length
  keys : s.1.map (·.1) = l.map keyN
  nd : l.Nodup
  rng : ∀ p ∈ l, p.1 < 7 ∧ p.2 < 7
def pushL (l : List (Nat × Nat)) (p : Nat × Nat) : List (Nat × Nat) := bif l.contains p then l else l ++ [p]
theorem find_keys : ∀ (E : List (CV × CV)) (l : List (Nat × Nat)) (p : Nat × Nat), E.map (·.1) = l.map keyN → (findC (.ints 2) (keyN p) E).isSome = l.contains p
  | [], [], p, _ => rfl
  | [], _ :: _, _, h => by simp at h
  | _ :: _, [], _, h => by simp at h
  | (k, v) :: E, a :: l, p, h => by
    simp only [List.map_cons, List.cons.injEq] at h
    obtain ⟨rfl, h⟩ := h
    have e : eqC (.ints 2) (keyN p) (keyN a) = (p == a) := by
      show ([Int.ofNat p.1, Int.ofNat p.2] == [Int.ofNat a.1, Int.ofNat a.2]) = _
      rw [beq_two]
      rw [Bool.eq_iff_iff]
      obtain ⟨p1, p2⟩ := p
      obtain ⟨a1, a2⟩ := a
      simp
      omega
    unfold findC
    rw [e, List.contains_cons]
    cases p == a with
    | true => rfl
    | false => rw [cond_false, Bool.false_or]; exact find_keys E l p h
theorem upd_keys : ∀ (E : List (CV × CV)) (l : List (Nat × Nat)) (p : Nat × Nat) (v : CV), E.map (·.1) = l.map keyN → l.contains p = false → (updC (.ints 2) (keyN p) v E).map (·.1) = (l ++ [p]).map keyN
  | [], [], p, v, _, _ => rfl
  | [], _ :: _, _, _, h, _ => by simp at h
  | _ :: _, [], _, _, h, _ => by simp at h
  | (k, u) :: E, a :: l, p, v, h, hc => by
    simp only [List.map_cons, List.cons.injEq] at h
    obtain ⟨rfl, h⟩ := h
    rw [List.contains_cons, Bool.or_eq_false_iff] at hc
    have e : eqC (.ints 2) (keyN p) (keyN a) = (p == a) := by
      show ([Int.ofNat p.1, Int.ofNat p.2] == [Int.ofNat a.1, Int.ofNat a.2]) = _
      rw [beq_two]
      rw [Bool.eq_iff_iff]
      obtain ⟨p1, p2⟩ := p
      obtain ⟨a1, a2⟩ := a
      simp
      omega
    unfold updC
    rw [e, hc.1, cond_false, List.map_cons, upd_keys E l p v h hc.2]
    rfl
theorem Inv.push {s : Sig} {l : List (Nat × Nat)} (h : Inv s l) (i u v : Nat) (hu : u < 7) (hv : v < 7) : Inv (push1 i s (Int.ofNat u) (Int.ofNat v)) (pushL l (u, v)) := by
  have hh : hasC s.1 (Int.ofNat u) (Int.ofNat v) = l.contains (u, v) := find_keys s.1 l (u, v) h.keys
  unfold push1 pushL
  unfold pushE pushQ pushM
  rw [hh]
  cases hc : l.contains (u, v) with
  | true => exact ⟨h.q, h.m, h.keys, h.nd, h.rng⟩
  | false =>
    simp only [cond_false]
    have hn : (u, v) ∉ l := fun hm => by rw [List.contains_iff_mem.2 hm] at hc; cases hc
    refine ⟨?_, by simp [h.m], upd_keys _ _ _ _ h.keys hc, ?_, ?_⟩
    · simp only
      rw [h.q, h.m, ← flatN_len, List.take_length]
      simp [flatN, List.flatMap_append]
    · rw [List.nodup_append]
      refine ⟨h.nd, by simp, fun a ha b hb => ?_⟩
      simp at hb
      subst hb
      exact fun e => hn (e ▸ ha)
    · intro p hp
      rcases List.mem_append.1 hp with hp | hp
      · exact h.rng p hp
      · simp at hp; subst hp; exact ⟨hu, hv⟩
def stepL (f : Nat → Bool) (a b c : Nat) (l : List (Nat × Nat)) : List (Nat × Nat) :=
  let l1 := bif cnd1 f a b c then pushL l (a, c) else l
  bif cnd2 f a b c then pushL l1 (c, b) else l1
def forcedL (f : Nat → Bool) (a b : Nat) (l : List (Nat × Nat)) : Nat → List (Nat × Nat)
  | 0 => pushL l (a, b)
  | c + 1 => stepL f a b c (forcedL f a b l c)
theorem Inv.step {s : Sig} {l : List (Nat × Nat)} (h : Inv s l) {f : Nat → Bool} {i a b c : Nat} (ha : a < 7) (hb : b < 7) (hc : c < 7) : Inv (stepC f i a b c s) (stepL f a b c l) := by
  unfold stepC stepL
  cases cnd1 f a b c <;> cases cnd2 f a b c
  · exact h
  · exact h.push i c b hc hb
  · exact h.push i a c ha hc
  · exact (h.push i a c ha hc).push i c b hc hb
theorem Inv.forced {s : Sig} {l : List (Nat × Nat)} (h : Inv s l) {f : Nat → Bool} {i a b : Nat} (ha : a < 7) (hb : b < 7) : ∀ n, n ≤ 7 → Inv (forcedS f i a b s n) (forcedL f a b l n)
  | 0, _ => h.push i a b ha hb
  | c + 1, hn => (Inv.forced h ha hb c (by omega)).step ha hb (by omega)
/-- a list of different pairs of small numbers is short -/
theorem nodup_short : ∀ (k : Nat) (l : List Nat), l.Nodup → (∀ x ∈ l, x < k) → l.length ≤ k
  | 0, l, _, h => by
    cases l with
    | nil => simp
    | cons a l => exact absurd (h a (by simp)) (by omega)
  | k + 1, l, hn, h => by
    have h1 := nodup_short k (l.filter fun x => !(Nat.beq x k)) (hn.sublist List.filter_sublist) fun x hx => by
      have hx' := List.mem_filter.1 hx
      have := h x hx'.1
      have hne : ¬ x = k := fun e => by
        have := hx'.2
        rw [beqT e] at this
        cases this
      omega
    have h2 : (l.filter fun x => Nat.beq x k).length ≤ 1 := by
      have hnd : (l.filter fun x => Nat.beq x k).Nodup := hn.sublist List.filter_sublist
      have hall : ∀ x ∈ l.filter (fun x => Nat.beq x k), x = k := fun x hx => Nat.eq_of_beq_eq_true (List.mem_filter.1 hx).2
      match hl : l.filter (fun x => Nat.beq x k), hnd, hall with
      | [], _, _ => simp
      | [_], _, _ => simp
      | a :: b :: r, hnd, hall =>
        have := hall a (by simp)
        have := hall b (by simp)
        simp at hnd
        omega
    have h3 : ∀ l : List Nat, (l.filter fun x => Nat.beq x k).length + (l.filter fun x => !(Nat.beq x k)).length = l.length := by
      intro l
      induction l with
      | nil => rfl
      | cons a l ih => cases hb : Nat.beq a k <;> simp [List.filter_cons, hb] <;> omega
    have := h3 l
    omega
theorem Inv.short {s : Sig} {l : List (Nat × Nat)} (h : Inv s l) : s.2.2 ≤ 49 := by
  rw [h.m]
  have hnd : (l.map fun p : Nat × Nat => p.1 * 7 + p.2).Nodup := by
    have key : ∀ l : List (Nat × Nat), l.Nodup → (∀ p ∈ l, p.1 < 7 ∧ p.2 < 7) → (l.map fun p : Nat × Nat => p.1 * 7 + p.2).Nodup := by
      intro l
      induction l with
      | nil => intro _ _; simp
      | cons a l ih =>
        intro hn hr
        obtain ⟨h1, h2⟩ := List.nodup_cons.1 hn
        rw [List.map_cons, List.nodup_cons]
        refine ⟨fun hm => ?_, ih h2 fun p hp => hr p (by simp [hp])⟩
        obtain ⟨p, hp, e⟩ := List.mem_map.1 hm
        have r1 := hr a (by simp)
        have r2 := hr p (by simp [hp])
        have : p = a := by
          obtain ⟨p1, p2⟩ := p
          obtain ⟨a1, a2⟩ := a
          simp only at e r1 r2
          rw [Prod.mk.injEq]
          omega
        exact h1 (this ▸ hp)
    exact key l h.nd h.rng
  have := nodup_short 49 _ hnd fun x hx => by
    obtain ⟨p, hp, rfl⟩ := List.mem_map.1 hx
    have := h.rng p hp
    omega
  simpa using this
def sig0 (a b : Nat) : Sig := ([(keyN (a, b), keyN (a, b))], [Int.ofNat a, Int.ofNat b], 1)
theorem inv0 {a b : Nat} (ha : a < 7) (hb : b < 7) : Inv (sig0 a b) [(a, b)] := ⟨rfl, rfl, rfl, by simp, by simp; omega⟩
/-- the run, one arrow of the queue after the other -/
def sigI (n : Nat) (f : Nat → Bool) (a b : Nat) : Nat → Sig
  | 0 => sig0 a b
  | i + 1 => forcedS f i ((sigI n f a b i).2.1.getD (0 + (0 + i) * 2 + 0) 0).toNat ((sigI n f a b i).2.1.getD (0 + (0 + i) * 2 + 0 + 1) 0).toNat (sigI n f a b i) n
def lstI (n : Nat) (f : Nat → Bool) (a b : Nat) : Nat → List (Nat × Nat)
  | 0 => [(a, b)]
  | i + 1 => forcedL f ((lstI n f a b i).getD i (0, 0)).1 ((lstI n f a b i).getD i (0, 0)).2 (lstI n f a b i) n
theorem inv_get {s : Sig} {l : List (Nat × Nat)} (h : Inv s l) {i : Nat} (hi : i < s.2.2) : (s.2.1.getD (0 + (0 + i) * 2 + 0) 0 = Int.ofNat (l.getD i (0, 0)).1 ∧ s.2.1.getD (0 + (0 + i) * 2 + 0 + 1) 0 = Int.ofNat (l.getD i (0, 0)).2) ∧ (l.getD i (0, 0)).1 < 7 ∧ (l.getD i (0, 0)).2 < 7 := by
  rw [h.m] at hi
  have hp : l[i]? = some (l.getD i (0, 0)) := by simp [hi]
  have := flatN_get hp
  rw [h.q, show 0 + (0 + i) * 2 + 0 = i * 2 by omega]
  exact ⟨this, h.rng _ (List.mem_of_getElem? hp)⟩
/-- as long as the queue lasts -/
theorem invI {n : Nat} {f : Nat → Bool} {a b : Nat} (ha : a < 7) (hb : b < 7) (hn : n ≤ 7) : ∀ i, (∀ j, j < i → j < (sigI n f a b j).2.2) → Inv (sigI n f a b i) (lstI n f a b i)
  | 0, _ => inv0 ha hb
  | i + 1, h => by
    have ih := invI ha hb hn i fun j hj => h j (by omega)
    obtain ⟨⟨e1, e2⟩, r1, r2⟩ := inv_get ih (h i (by omega))
    show Inv (forcedS f i _ _ _ n) (forcedL f _ _ _ n)
    rw [e1, e2]
    exact ih.forced r1 r2 n hn
theorem s54 {n : Nat} {f : Nat → Bool} {s : Sig} {l : List (Nat × Nat)} {i k : Nat} (hs : Inv s l) (hi : i < s.2.2) (hn : n ≤ 7) : Exec PP T none x54.nt 0 L54 (SA n f s i k) .n (SA n f (forcedS f i (s.2.1.getD (0 + (0 + i) * 2 + 0) 0).toNat (s.2.1.getD (0 + (0 + i) * 2 + 0 + 1) 0).toNat s n) (i + 1) (k + 1)) := by
  have hk := hs.short
  have hok : okSig s i 900 := ⟨by rw [hs.q, hs.m, flatN_len], hi, by omega⟩
  obtain ⟨⟨e1, e2⟩, r1, r2⟩ := inv_get hs hi
  refine exec_seq (x := L54.a) (y := L54.b) (e54a hi) (exec_seq (x := L54.b.a) (y := L54.b.b) (exec_block (id := 1) (x := L54.b.a.i) (e := .n) (exec_seq (x := L54.b.a.i.a) (y := L54.b.a.i.b) (e54b hok) (exec_block (id := 2) (x := F54) (e := .n) ?_))) (e54d (by omega)))
  rw [e1, e2]
  exact e54r hok r1 r2 hn
/-- where the queue ends -/
def stopR (n : Nat) (f : Nat → Bool) (a b : Nat) : Nat := ((List.range 50).find? fun i => !(decide (i < (sigI n f a b i).2.2))).getD 50
theorem stopR_spec {n : Nat} {f : Nat → Bool} {a b : Nat} (ha : a < 7) (hb : b < 7) (hn : n ≤ 7) : ¬ stopR n f a b < (sigI n f a b (stopR n f a b)).2.2 ∧ ∀ j, j < stopR n f a b → j < (sigI n f a b j).2.2 := by
  unfold stopR
  cases hf : (List.range 50).find? fun i => !(decide (i < (sigI n f a b i).2.2)) with
  | none =>
    have h := List.find?_range_eq_none.1 hf
    have hall : ∀ j, j < 50 → j < (sigI n f a b j).2.2 := fun j hj => by simpa using h j hj
    have := (invI (n := n) (f := f) ha hb hn 49 fun j hj => hall j (by omega)).short
    have := hall 49 (by omega)
    omega
  | some i =>
    obtain ⟨h1, h2, h3⟩ := List.find?_range_eq_some.1 hf
    exact ⟨by simpa using h1, fun j hj => by simpa using h3 j hj⟩
theorem a54a {n : Nat} {f : Nat → Bool} {a b : Nat} : Exec PP T none x54.nt 0 x54.body.a (startSt [.s (.ptr 0 0 0), arV (Int.ofNat a) (Int.ofNat b)] [RG n f]) .n (mkSt [(0, g1S 0), (3, g1S 1)] [RG n f, ⟨false, .row 77 [.int .i64 (Int.ofNat a), .int .i64 (Int.ofNat b)] 0 ff⟩] 2 []) := by
  refine exec_orun env0 false 60 [] [0, 1] (fun _ => rfl) (by kernel_rfl) (by kernel_rfl) (by kernel_rfl) (by kernel_rfl)
theorem a54b {n : Nat} {f : Nat → Bool} {a b : Nat} : Exec PP T none x54.nt 0 x54.body.b.a (mkSt [(0, g1S 0), (3, g1S 1)] [RG n f, ⟨false, .row 77 [.int .i64 (Int.ofNat a), .int .i64 (Int.ofNat b)] 0 ff⟩] 2 []) .n (mkSt [(0, g1S 0), (3, g1S 1), (6, g1S 2)] [RG n f, ⟨false, .row 77 [.int .i64 (Int.ofNat a), .int .i64 (Int.ofNat b)] 0 ff⟩, ⟨false, .row 78 [.mp 3] 0 ff⟩, ⟨false, .map (.ints 2) (.ints 2) [(keyN (a, b), keyN (a, b))]⟩] 4 []) := by
  refine exec_orun env0 false 60 [] [0, 1, 3, 2] (fun _ => rfl) (by kernel_rfl) (by kernel_rfl) (by kernel_rfl) (by kernel_rfl)
theorem a54c {n : Nat} {f : Nat → Bool} {a b : Nat} : Exec PP T none x54.nt 0 x54.body.b.b.a (mkSt [(0, g1S 0), (3, g1S 1), (6, g1S 2)] [RG n f, ⟨false, .row 77 [.int .i64 (Int.ofNat a), .int .i64 (Int.ofNat b)] 0 ff⟩, ⟨false, .row 78 [.mp 3] 0 ff⟩, ⟨false, .map (.ints 2) (.ints 2) [(keyN (a, b), keyN (a, b))]⟩] 4 []) .n (mkSt [(0, g1S 0), (6, g1S 1), (7, g1S 3)] [RG n f, ⟨false, .row 78 [.mp 2] 0 ff⟩, ⟨false, .map (.ints 2) (.ints 2) [(keyN (a, b), keyN (a, b))]⟩, ⟨false, .row 74 [.sl 4 0 2 1] 0 ff⟩, ⟨false, .ivec 77 .i64 2 [Int.ofNat a, Int.ofNat b]⟩] 5 []) := by
  refine exec_orun env0 false 60 [] [0, 2, 3, 5, 4] (fun _ => rfl) (by kernel_rfl) (by kernel_rfl) (by kernel_rfl) (by kernel_rfl)
theorem a54d {n : Nat} {f : Nat → Bool} {a b : Nat} : Exec PP T none x54.nt 0 x54.body.b.b.b.a.a (mkSt [(0, g1S 0), (6, g1S 1), (7, g1S 3)] [RG n f, ⟨false, .row 78 [.mp 2] 0 ff⟩, ⟨false, .map (.ints 2) (.ints 2) [(keyN (a, b), keyN (a, b))]⟩, ⟨false, .row 74 [.sl 4 0 2 1] 0 ff⟩, ⟨false, .ivec 77 .i64 2 [Int.ofNat a, Int.ofNat b]⟩] 5 []) .n (SA n f (sig0 a b) 0 0) := by
  have key : Exec PP T none x54.nt 0 x54.body.b.b.b.a.a (mkSt [(0, g1S 0), (6, g1S 1), (7, g1S 3)] [RG n f, ⟨false, .row 78 [.mp 2] 0 ff⟩, ⟨false, .map (.ints 2) (.ints 2) [(keyN (a, b), keyN (a, b))]⟩, ⟨false, .row 74 [.sl 4 0 2 1] 0 ff⟩, ⟨false, .ivec 77 .i64 2 [Int.ofNat a, Int.ofNat b]⟩] 5 []) .n (mkSt slA (HA n f (sig0 a b) 0) 6 []) := by
    refine exec_orun env0 false 60 [] [0, 1, 2, 3, 5, 4] (fun _ => rfl) (by kernel_rfl) (by kernel_rfl) (by kernel_rfl) (by kernel_rfl)
  refine key.post (weak_D (ids := [0, 1, 2, 3, 4, 5]) dN (by kernel_rfl) (by simp) (fun p hp => ?_) (fun j h hj => ?_) (fun z ho hz => by rw [dT_get] at hz; simp at hz) (fun z z' ho ho' hz => by rw [dT_get] at hz; simp at hz) (fun j h hj => ?_) ⟨[], rfl, rfl, fun z hz => by cases hz⟩)
  · simp only [List.mem_cons, List.not_mem_nil, or_false] at hp
    rcases hp with rfl | rfl | rfl | rfl <;> kernel_rfl
  · match j, hj with
    | 0, hj => cases hj; exact ⟨fun _ => by kernel_rfl, fun h => by cases h⟩
    | 1, hj => cases hj; exact ⟨fun _ => by kernel_rfl, fun h => by cases h⟩
    | 2, hj => cases hj; exact ⟨fun _ => by kernel_rfl, fun h => by cases h⟩
    | 3, hj => cases hj; exact ⟨fun _ => by kernel_rfl, fun h => by cases h⟩
    | 4, hj => cases hj; exact ⟨fun _ => by kernel_rfl, fun h => by cases h⟩
    | 5, hj => cases hj; exact ⟨fun _ => by kernel_rfl, fun h => by cases h⟩
    | j + 6, hj => simp at hj
  · match j, hj with
    | 0, hj => cases hj; rfl
    | 1, hj => cases hj; rfl
    | 2, hj => cases hj; rfl
    | 3, hj => cases hj; rfl
    | 4, hj => cases hj; rfl
    | 5, hj => cases hj; rfl
    | j + 6, hj => simp at hj
noncomputable abbrev SZ (s : Sig) (k : Nat) : St := stD [(4, lsS 0 s.2.2), (5, ⟨true, .av (.s (.mp 1))⟩)] [⟨false, .ivec 77 .i64 2 s.2.1⟩, ⟨false, .map (.ints 2) (.ints 2) s.1⟩] 2 (dT k) (dL k)
theorem d54 {n : Nat} {f : Nat → Bool} {s : Sig} {i k : Nat} : Exec PP T none x54.nt 0 x54.body.b.b.b.b (SA n f s i k) .r (SZ s k) := by
  refine exec_orunD env0 false 60 [] [5, 2] (fun _ => rfl) (by kernel_rfl) (by kernel_rfl) (by kernel_rfl) (by kernel_rfl) (by kernel_rfl) (by kernel_rfl)
theorem body54 {n : Nat} {f : Nat → Bool} {a b : Nat} (ha : a < 7) (hb : b < 7) (hn : n ≤ 7) : Exec PP T none x54.nt 0 x54.body (startSt [.s (.ptr 0 0 0), arV (Int.ofNat a) (Int.ofNat b)] [RG n f]) .r (SZ (sigI n f a b (stopR n f a b)) (stopR n f a b)) := by
  obtain ⟨h1, h2⟩ := stopR_spec (n := n) (f := f) ha hb hn
  refine exec_seq (x := x54.body.a) (y := x54.body.b) a54a (exec_seq (x := x54.body.b.a) (y := x54.body.b.b) a54b (exec_seq (x := x54.body.b.b.a) (y := x54.body.b.b.b) a54c (exec_seq (x := x54.body.b.b.b.a) (y := x54.body.b.b.b.b) (exec_seq (x := x54.body.b.b.b.a.a) (y := .block 0 (.loop L54)) a54d (exec_block (e := .x 0) ?_)) (d54 (n := n) (f := f) (i := stopR n f a b)))))
  exact exec_loop_up (fun i => SA n f (sigI n f a b i) i i) (stopR n f a b) (fun i hi => s54 (invI ha hb hn i fun j hj => h2 j (by omega)) (h2 i hi) hn) (exec_seq_x (x := L54.a) (y := L54.b) (e54x h1) (by simp)) (by simp) 0 (by omega)
end Go.Proofs.Yteekkjfjpoaihaa.Eng

/- Contracts by hand, part 7: few; what is new. -/
import Derived.Test.YteekkjfjpoaihaaGf
set_option linter.all false
namespace Go.Proofs.Yteekkjfjpoaihaa.Eng
open Go Go.Proofs

section
variable {P : Program} {T : Tab}
/-- a function that hands back values with one new object -/
theorem shown_new {x : XFn} {m0 : MM} {hs : List HO} {args0 : List AV} {vals : List Value} {w : World} {tv : TV} {base : Nat} {ts : List (Nat × Slot)} {ex : XE} {o : AO} (hview : RoView (compC T) m0 hs w) (hargs : All2 (AR m0) args0 vals) (hlen : Nat.ble args0.length x.nt = true)
    (hrun : Exec P T none x.nt 0 x.body (startSt args0 hs) ex (mkSt ts [⟨false, o⟩] 1 [])) (hex : ex ≠ .n → ex = .r) (hres : resV (mkSt ts [⟨false, o⟩] 1 []).sl.get (mkSt ts [⟨false, o⟩] 1 []).hp.get x.res = some (true, tv))
    (hids : tv.ids.all (Nat.beq 0) = true) (ho : o.ids = []) (hl : o.isLoop = false) (hlive : (HO.mk false o).live = true) (hren : ∀ ρ, o.ren ρ = o) : Shown P T x m0 hs args0 vals w (tv.ren (renN [0] base)) [⟨false, o⟩] base where
  view := hview
  args := hargs
  len := Nat.le_of_ble_eq_true hlen
  run := ⟨mkSt ts [⟨false, o⟩] 1 [], ex, tv, [0], hrun, by by_cases h : ex = .n; exact .inl h; exact .inr (hex h), rfl, hres, rfl,
    fun j hj => (by have := List.all_eq_true.1 hids j hj; rw [← Nat.eq_of_beq_eq_true this]; simp), rfl, rfl, fun k id h => by
      cases k with
      | succ k => simp at h
      | zero =>
        simp at h
        subst h
        refine ⟨⟨false, o⟩, ?_, rfl, hlive, hl, fun j hj => (by simp only [ho] at hj; cases hj), ?_⟩
        · show leaveH _ [] 0 = _
          simp only [leaveH]
          rw [mkSt_hp]
          rfl
        · simp only [List.getElem?_cons_zero, HO.ren, hren]⟩
end

abbrev A39 (m : Nat) : List AV := [.s (.sl 0 0 2 m), .s (.int .i64 25)]
def fewN (m : Nat) : Nat := min m 25
def fewQ (q : List Int) (m : Nat) : List Int := q.take (fewN m * 2)
theorem fewN_eq (m : Nat) : (min (Int.ofNat m) 25).toNat = fewN m := by unfold fewN; simp; omega

theorem body39 {q : List Int} {m : Nat} (hq : q.length = m * 2) : Exec PP T none x39.nt 0 x39.body (startSt (A39 m) (H1 q)) .r (mkSt [(4, ⟨true, .av (.s (.sl 0 0 2 (fewN m)))⟩)] [⟨false, .ivec 38 .i64 2 (fewQ q m)⟩] 1 []) := by
  unfold fewQ
  rw [← fewN_eq]
  refine exec_orun env2 false 60 [] [1] (fun _ => rfl) (by kernel_rfl) (by kernel_rfl) (by kernel_rfl) ?_
  rw [(show obOf (orun g2 false 60 x39.body (startSt (A39 m) (H1 q)) []) = (decide (0 ≤ min (Int.ofNat m) 25) && decide (min (Int.ofNat m) 25 ≤ Int.ofNat m) && (decide ((0 + (min (Int.ofNat m) 25).toNat) * 2 ≤ q.length) && decide ((min (Int.ofNat m) 25).toNat ≤ 1000000000) && true && true && true) && true) from by kernel_rfl)]
  simp
  omega

def spFew : Spec where
  run := fun args h base => match args with
    | [s, .s (.int .i64 c)] => bif Nat.beq c.toNat 25 then match srcOf (.av s) h .i64 2 with
      | some (vc, q, m, rd) => some ⟨vc, .av (.s (.sl base 0 2 (fewN m))), [], [⟨false, .ivec 38 .i64 2 (fewQ q m)⟩], some rd⟩
      | none => none
      else none
    | _ => none
theorem spFew_fp : SpecFp spFew := by
  intro args h h' base e hr hf
  simp only [spFew] at hr ⊢
  split at hr
  · rename_i c
    cases hc : Nat.beq c.toNat 25 with
    | false => simp only [hc, cond_false] at hr; cases hr
    | true =>
    simp only [hc, cond_true] at hr ⊢
    split at hr
    · rename_i hs
      cases hr
      simp only [srcOf_fp hs hf]
    · cases hr
  · cases hr

theorem ok39 : SpecOK PP (compC T) 39 spFew := by
  refine spec_gen tokP o39 fun ctx m h w args vals base e hH hargs hr hvc => ?_
  simp only [spFew] at hr
  split at hr
  · rename_i s c
    cases hc : Nat.beq c.toNat 25 with
    | false => simp only [hc, cond_false] at hr; cases hr
    | true =>
    simp only [hc, cond_true] at hr
    have hc : c = 25 := by have := Nat.eq_of_beq_eq_true hc; omega
    subst hc
    split at hr
    · rename_i vc q m' rd hs
      cases hr
      simp only at hvc
      subst hvc
      match vals, hargs with
      | [v1, v2], ⟨ha1, ha2, _⟩ =>
        obtain ⟨mb, k1, k2, k3, k4⟩ := view_slice hH ha1 hs
        exact ⟨rfl, mm1 mb, H1 q, A39 m', shown_new (tv := .av (.s (.sl 0 0 2 (fewN m')))) (o := .ivec 38 .i64 2 (fewQ q m')) (ro1 k1 k2) ⟨k3 (mm1 mb) 0 rfl, ha2, trivial⟩ (by kernel_rfl) (body39 k4) (fun _ => rfl) (by kernel_rfl) (by kernel_rfl) rfl rfl rfl (fun _ => rfl)⟩
    · cases hr
  · cases hr

end Go.Proofs.Yteekkjfjpoaihaa.Eng

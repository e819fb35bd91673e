/- A part of the proof of topChains_holds. -/
import Derived.Test.YteekkjfjpoaihaaOt11
import Derived.Test.YteekkjfjpoaihaaOt12
set_option linter.all false
namespace Go.Proofs.Yteekkjfjpoaihaa.Eng
open Go Go.Proofs
/-- faces as a mask -/
noncomputable def toM (f : Nat → Bool) : Nat := Nat.rec 0 (fun j ih => bif f j then ih + 2 ^ j else ih) 64
noncomputable def spFall : Spec where
  run := fun args h base => match flR args h with
    | some (_, f, _) => match fallM 40 (toM f) with
      | some (Mf, L, c) => (spFl (toM f) Mf L c).run args h base
      | none => none
    | none => none
theorem spFall_fp : SpecFp spFall := by
  intro args h h' base e hr hf
  have : h' = h := by
    simp only [spFall] at hr
    split at hr
    · split at hr
      · simp only [spFl] at hr
        split at hr
        · split at hr
          · cases hr; exact hf
          · split at hr
            · cases hr; exact hf
            · cases hr; exact hf
        · cases hr
      · cases hr
    · cases hr
  rw [this]
  exact hr
theorem ok72G : SpecOK PP (compC T) 72 spFall := by
  intro ctx m h w args vals base e hH hargs hfr hup hr hvc
  simp only [spFall] at hr
  split at hr
  case h_2 => cases hr
  split at hr
  case h_2 => cases hr
  rename_i hf
  exact (ok72 40 _ _ _ _ hf).2.2 ctx m h w args vals base e hH hargs hfr hup hr hvc
noncomputable def LP1 : List (Nat × Spec) := [(69, spCl), (73, spList), (101, spSize), (104, spRank), (105, spBor), (72, spFall)]
theorem LP1_ok : SpecsL LP1 := specsL_cons ok69 genS_fp o69 (specsL_cons ok73 genS_fp o73 (specsL_cons ok101 genS_fp o101 (specsL_cons ok104 spRank_fp o104 (specsL_cons ok105 spBor_fp o105 (specsL_cons ok72G spFall_fp o72 (fun p hp => absurd hp (by simp)))))))
noncomputable abbrev gP1 : Cal → Option Spec := gam F (alGet LP1) 200 6
theorem envP1 : EnvOK PP T gP1 := gam_ok tokP eqokP mixP F_ok (specsOK_L LP1_ok) 200 6
end Go.Proofs.Yteekkjfjpoaihaa.Eng
namespace Go.Proofs.Yteekkjfjpoaihaa.Eng
open Go Go.Proofs
/-- the greatest number of corners -/
def mxP (q : List Int) : Nat := q.foldl (fun a s => bif Nat.blt a (popc s.toNat) then popc s.toNat else a) 0
def cntV (q : List Int) : List Int := (List.range (mxP q + 1)).map fun i => Int.ofNat ((lstF (bitF (clM q)) 64).filter fun s => Nat.beq (popc s.toNat) i).length
def RunC (n : Nat) (q : List Int) : Prop := Exec PP T none x23.nt 0 x23.body (startSt [.s (.int .i64 (Int.ofNat n)), .s (.sl 0 0 1 q.length)] [⟨true, .xvec .i64 1 q⟩]) .r (mkSt [(4, s1S 0 (cntV q).length), (5, iS 0)] [lO (cntV q)] 1 [])
def holV (q : List Int) : List Int := List.replicate (mxP q) 0
def RunH (n : Nat) (q : List Int) : Prop := Exec PP T none x26.nt 0 x26.body (startSt [.s (.int .i64 (Int.ofNat n)), .s (.sl 0 0 1 q.length)] [⟨true, .xvec .i64 1 q⟩]) .r (mkSt [(4, s1S 0 (holV q).length), (5, iS 0)] [lO (holV q)] 1 [])
def colV (q : List Int) : List Int := match fallM 40 (clM q) with | some (_, L, _) => L | none => []
def colC (q : List Int) : Nat := match fallM 40 (clM q) with | some (_, _, c) => c | none => 0
def RunX (n : Nat) (q : List Int) : Prop := Exec PP T none x25.nt 0 x25.body (startSt [.s (.int .i64 (Int.ofNat n)), .s (.sl 0 0 1 q.length)] [⟨true, .xvec .i64 1 q⟩]) .r (mkSt [(4, ⟨true, .av (.s (.sl 0 0 2 (0 + colC q)))⟩), (5, ⟨true, B true⟩), (6, iS 0)] [vO (colV q)] 1 [])
/-- a complex all of whose corners are one -/
def RunX1 (n : Nat) (q : List Int) : Prop := Exec PP T none x25.nt 0 x25.body (startSt [.s (.int .i64 (Int.ofNat n)), .s (.sl 0 0 1 q.length)] [⟨true, .xvec .i64 1 q⟩]) .r (mkSt [(4, nlS), (5, ⟨true, B true⟩), (6, iS 0)] [] 0 [])
def AllL {α : Type} (R : α → Prop) : List α → Prop
  | [] => True
  | a :: l => R a ∧ AllL R l
theorem AllL.mem {α : Type} {R : α → Prop} : ∀ {l : List α} {a : α}, AllL R l → a ∈ l → R a
  | b :: l, a, ⟨h1, h2⟩, hm => by
    rcases List.mem_cons.1 hm with rfl | h
    · exact h1
    · exact h2.mem h
theorem AllL.append {α : Type} {R : α → Prop} : ∀ {l l' : List α}, AllL R l → AllL R l' → AllL R (l ++ l')
  | [], _, _, h => h
  | _ :: _, _, ⟨h1, h2⟩, h => ⟨h1, h2.append h⟩
end Go.Proofs.Yteekkjfjpoaihaa.Eng

/- A part of the proof of topChains_holds. -/
import Derived.Test.YteekkjfjpoaihaaOt14
import Derived.Test.YteekkjfjpoaihaaOt15
import Derived.Test.YteekkjfjpoaihaaOt16
import Derived.Test.YteekkjfjpoaihaaOt17
import Derived.Test.YteekkjfjpoaihaaOt18
import Derived.Test.YteekkjfjpoaihaaOt19
import Derived.Test.YteekkjfjpoaihaaOt20
import Derived.Test.YteekkjfjpoaihaaOt21
import Derived.Test.YteekkjfjpoaihaaOt22
import Derived.Test.YteekkjfjpoaihaaOt23
import Derived.Test.YteekkjfjpoaihaaOt24
import Derived.Test.YteekkjfjpoaihaaOt25
import Derived.Test.YteekkjfjpoaihaaOt26
import Derived.Test.YteekkjfjpoaihaaOt27
set_option linter.all false
namespace Go.Proofs.Yteekkjfjpoaihaa.Eng
open Go Go.Proofs
def tabC : List (Nat × List Int) := tabC1 ++ (tabC2 ++ (tabC3 ++ (tabC4 ++ (tabC5 ++ (tabC6 ++ (tabC7 ++ (tabC8)))))))
def tabX : List (Nat × List Int) := tabX1 ++ (tabX2 ++ (tabX3 ++ (tabX4 ++ (tabX5 ++ (tabX6)))))
theorem tabC_ok : AllL (fun e => RunC e.1 e.2) tabC := tabC1_ok.append (tabC2_ok.append (tabC3_ok.append (tabC4_ok.append (tabC5_ok.append (tabC6_ok.append (tabC7_ok.append (tabC8_ok)))))))
theorem tabX_ok : AllL (fun e => RunH e.1 e.2 ∧ RunX e.1 e.2) tabX := tabX1_ok.append (tabX2_ok.append (tabX3_ok.append (tabX4_ok.append (tabX5_ok.append (tabX6_ok)))))
def inT (tab : List (Nat × List Int)) (n : Int) (q : List Int) : Bool := tab.any fun e => decide (Int.ofNat e.1 = n) && (e.2 == q)
theorem inT_mem {tab : List (Nat × List Int)} {n : Int} {q : List Int} (h : inT tab n q = true) : ∃ k : Nat, n = Int.ofNat k ∧ (k, q) ∈ tab := by
  obtain ⟨e, h1, h2⟩ := List.any_eq_true.1 h
  simp only [Bool.and_eq_true, decide_eq_true_eq, beq_iff_eq] at h2
  obtain ⟨rfl, rfl⟩ := h2
  exact ⟨e.1, rfl, h1⟩
def cCts : List PA → Bool := fun pas => match pas with | [.int n, .sl _ q _] => inT tabC n q | _ => false
def qOf : List PA → List Int := fun pas => match pas with | [.int _, .sl _ q _] => q | _ => []
def vCts : List PA → TV := fun pas => .tup [.s (.sl 0 0 1 (cntV (qOf pas)).length), .s (.int .i64 0)]
def nCts : List PA → List HO := fun pas => [lO (cntV (qOf pas))]
noncomputable abbrev spCts : Spec := genS [.int, .sl 1] cCts vCts nCts
theorem ok23 : SpecOK PP (compC T) 23 spCts := ok_gen o23 (by kernel_rfl) fun pas hf hc => match pas, hf with
  | [.int n, .sl _ q m], ⟨_, ⟨rfl, hq, hm⟩, _⟩ => by
    obtain ⟨k, rfl, hmem⟩ := inT_mem (show inT tabC n q = true from hc)
    have := tabC_ok.mem hmem
    obtain rfl : m = q.length := by omega
    exact ⟨_, 1, .r, this, fun _ => rfl, by kernel_rfl, by kernel_rfl, by kernel_rfl⟩
def cHol : List PA → Bool := fun pas => match pas with | [.int n, .sl _ q _] => inT ((1, [1]) :: tabX) n q | _ => false
def vHol : List PA → TV := fun pas => .tup [.s (.sl 0 0 1 (holV (qOf pas)).length), .s (.int .i64 0)]
def nHol : List PA → List HO := fun pas => [lO (holV (qOf pas))]
noncomputable abbrev spHol : Spec := genS [.int, .sl 1] cHol vHol nHol
theorem ok26 : SpecOK PP (compC T) 26 spHol := ok_gen o26 (by kernel_rfl) fun pas hf hc => match pas, hf with
  | [.int n, .sl _ q m], ⟨_, ⟨rfl, hq, hm⟩, _⟩ => by
    obtain ⟨k, rfl, hmem⟩ := inT_mem (show inT ((1, [1]) :: tabX) n q = true from hc)
    have : RunH k q := by
      rcases List.mem_cons.1 hmem with h | h
      · cases h; exact rcHone
      · exact (tabX_ok.mem h).1
    obtain rfl : m = q.length := by omega
    exact ⟨_, 1, .r, this, fun _ => rfl, by kernel_rfl, by kernel_rfl, by kernel_rfl⟩
end Go.Proofs.Yteekkjfjpoaihaa.Eng
namespace Go.Proofs.Yteekkjfjpoaihaa.Eng
open Go Go.Proofs
/-- whether it is the one corner -/
def isOne : List PA → Bool := fun pas => match pas with | [.int n, .sl _ q _] => inT [(1, [1])] n q | _ => false
end Go.Proofs.Yteekkjfjpoaihaa.Eng

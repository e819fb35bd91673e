/- A part of the proof of ordersOrders_holds. -/
import Derived.Test.YteekkjfjpoaihaaOo07
set_option linter.all false
namespace Go.Proofs.Yteekkjfjpoaihaa.Eng
open Go Go.Proofs
def ring5 : Nat := 2458026642
def tt11 : List Bool := [true, true, true, true, true, true, true, true, true, true, false]
abbrev D10 : List HO := [⟨false, .dfr⟩, ⟨false, .dfr⟩, ⟨false, .dfr⟩, ⟨false, .dfr⟩, ⟨false, .dfr⟩, ⟨false, .dfr⟩, ⟨false, .dfr⟩, ⟨false, .dfr⟩, ⟨false, .dfr⟩, ⟨false, .dfr⟩]
abbrev A54 (a b : Int) : List AV := [.s (.ptr 0 0 0), .pb [.int .i64 a, .int .i64 b] 0 ff]
abbrev N54 (q : List Int) (e : List (CV × CV)) : List HO := [⟨false, .ivec 77 .i64 2 q⟩, ⟨false, .map (.ints 2) (.ints 2) e⟩]
abbrev R54 (q : List Int) (e : List (CV × CV)) : St := mkSt [(4, ⟨true, .av (.s (.sl 0 0 2 10))⟩), (5, ⟨true, .av (.s (.mp 1))⟩)] (N54 q e ++ D10) 12 [2, 3, 4, 5, 6, 7, 8, 9, 10, 11]
def q01 : List Int := [0, 1, 2, 1, 0, 4, 2, 3, 3, 4, 4, 3, 3, 2, 4, 0, 1, 2, 1, 0]
def e01 : List (CV × CV) := [(.is [0, 1], .is [0, 1]), (.is [2, 1], .is [0, 1]), (.is [0, 4], .is [0, 1]), (.is [2, 3], .is [2, 1]), (.is [3, 4], .is [0, 4]), (.is [4, 3], .is [2, 3]), (.is [3, 2], .is [3, 4]), (.is [4, 0], .is [4, 3]), (.is [1, 2], .is [3, 2]), (.is [1, 0], .is [4, 0])]
def q04 : List Int := [0, 4, 0, 1, 3, 4, 2, 1, 3, 2, 2, 3, 1, 2, 4, 3, 1, 0, 4, 0]
def e04 : List (CV × CV) := [(.is [0, 4], .is [0, 4]), (.is [0, 1], .is [0, 4]), (.is [3, 4], .is [0, 4]), (.is [2, 1], .is [0, 1]), (.is [3, 2], .is [3, 4]), (.is [2, 3], .is [2, 1]), (.is [1, 2], .is [3, 2]), (.is [4, 3], .is [2, 3]), (.is [1, 0], .is [1, 2]), (.is [4, 0], .is [4, 3])]
def q10 : List Int := [1, 0, 1, 2, 4, 0, 3, 2, 4, 3, 3, 4, 2, 3, 0, 4, 2, 1, 0, 1]
def e10 : List (CV × CV) := [(.is [1, 0], .is [1, 0]), (.is [1, 2], .is [1, 0]), (.is [4, 0], .is [1, 0]), (.is [3, 2], .is [1, 2]), (.is [4, 3], .is [4, 0]), (.is [3, 4], .is [3, 2]), (.is [2, 3], .is [4, 3]), (.is [0, 4], .is [3, 4]), (.is [2, 1], .is [2, 3]), (.is [0, 1], .is [0, 4])]
def q12 : List Int := [1, 2, 1, 0, 3, 2, 4, 0, 3, 4, 4, 3, 0, 4, 2, 3, 0, 1, 2, 1]
def e12 : List (CV × CV) := [(.is [1, 2], .is [1, 2]), (.is [1, 0], .is [1, 2]), (.is [3, 2], .is [1, 2]), (.is [4, 0], .is [1, 0]), (.is [3, 4], .is [3, 2]), (.is [4, 3], .is [4, 0]), (.is [0, 4], .is [3, 4]), (.is [2, 3], .is [4, 3]), (.is [0, 1], .is [0, 4]), (.is [2, 1], .is [2, 3])]
def q21 : List Int := [2, 1, 0, 1, 2, 3, 0, 4, 4, 3, 3, 4, 4, 0, 3, 2, 1, 0, 1, 2]
def e21 : List (CV × CV) := [(.is [2, 1], .is [2, 1]), (.is [0, 1], .is [2, 1]), (.is [2, 3], .is [2, 1]), (.is [0, 4], .is [0, 1]), (.is [4, 3], .is [2, 3]), (.is [3, 4], .is [0, 4]), (.is [4, 0], .is [4, 3]), (.is [3, 2], .is [3, 4]), (.is [1, 0], .is [4, 0]), (.is [1, 2], .is [3, 2])]
def q23 : List Int := [2, 3, 2, 1, 4, 3, 0, 1, 4, 0, 0, 4, 1, 0, 3, 4, 1, 2, 3, 2]
def e23 : List (CV × CV) := [(.is [2, 3], .is [2, 3]), (.is [2, 1], .is [2, 3]), (.is [4, 3], .is [2, 3]), (.is [0, 1], .is [2, 1]), (.is [4, 0], .is [4, 3]), (.is [0, 4], .is [0, 1]), (.is [1, 0], .is [4, 0]), (.is [3, 4], .is [0, 4]), (.is [1, 2], .is [1, 0]), (.is [3, 2], .is [3, 4])]
def q32 : List Int := [3, 2, 1, 2, 3, 4, 1, 0, 0, 4, 4, 0, 0, 1, 4, 3, 2, 1, 2, 3]
def e32 : List (CV × CV) := [(.is [3, 2], .is [3, 2]), (.is [1, 2], .is [3, 2]), (.is [3, 4], .is [3, 2]), (.is [1, 0], .is [1, 2]), (.is [0, 4], .is [3, 4]), (.is [4, 0], .is [1, 0]), (.is [0, 1], .is [0, 4]), (.is [4, 3], .is [4, 0]), (.is [2, 1], .is [0, 1]), (.is [2, 3], .is [4, 3])]
def q34 : List Int := [3, 4, 0, 4, 3, 2, 0, 1, 1, 2, 2, 1, 1, 0, 2, 3, 4, 0, 4, 3]
def e34 : List (CV × CV) := [(.is [3, 4], .is [3, 4]), (.is [0, 4], .is [3, 4]), (.is [3, 2], .is [3, 4]), (.is [0, 1], .is [0, 4]), (.is [1, 2], .is [3, 2]), (.is [2, 1], .is [0, 1]), (.is [1, 0], .is [1, 2]), (.is [2, 3], .is [2, 1]), (.is [4, 0], .is [1, 0]), (.is [4, 3], .is [2, 3])]
def q40 : List Int := [4, 0, 1, 0, 4, 3, 1, 2, 2, 3, 3, 2, 2, 1, 3, 4, 0, 1, 0, 4]
def e40 : List (CV × CV) := [(.is [4, 0], .is [4, 0]), (.is [1, 0], .is [4, 0]), (.is [4, 3], .is [4, 0]), (.is [1, 2], .is [1, 0]), (.is [2, 3], .is [4, 3]), (.is [3, 2], .is [1, 2]), (.is [2, 1], .is [2, 3]), (.is [3, 4], .is [3, 2]), (.is [0, 1], .is [2, 1]), (.is [0, 4], .is [3, 4])]
def q43 : List Int := [4, 3, 4, 0, 2, 3, 1, 0, 2, 1, 1, 2, 0, 1, 3, 2, 0, 4, 3, 4]
def e43 : List (CV × CV) := [(.is [4, 3], .is [4, 3]), (.is [4, 0], .is [4, 3]), (.is [2, 3], .is [4, 3]), (.is [1, 0], .is [4, 0]), (.is [2, 1], .is [2, 3]), (.is [1, 2], .is [1, 0]), (.is [0, 1], .is [2, 1]), (.is [3, 2], .is [1, 2]), (.is [0, 4], .is [0, 1]), (.is [3, 4], .is [3, 2])]
end Go.Proofs.Yteekkjfjpoaihaa.Eng

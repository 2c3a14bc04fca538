/-
  Lists of lists of numbers: do they share memory; are they the same.
-/
import Derived.Test.YtanfmmcpjifgiabMxFg
import Derived.Test.YtanfmmcpjifgiabMxFa
import Derived.Test.YtanfmmcpjifgiabMxPt
set_option linter.unusedVariables false
set_option linter.unusedSimpArgs false
set_option linter.unusedSectionVars false
namespace Go.Mx

theorem rd_int {h : Heap} {s : Sl} {xs : List Int} (c : Arr h ki s xs) {i : Int} (h0 : 0 ≤ i) (h1 : i < (s.len : Int)) {K : Int → Prop} (hK : ∀ x : Int, xs[i.toNat]? = some x → K x) : deref s.a fun a => ld ki h (a.add (i.toNat * 1)) K := c.at h0 h1 rfl hK
def apartE (i j : Nat) : Int := w64 (w64 (100 * (i : Int)) + (j : Int))
def apartG (i : Nat) : Int := w64 ((-7) - (i : Int))
def spoiltE (i j : Nat) : Int := w64 (w64 ((-1) - (i : Int)) - (j : Int))
def spoiltG (i : Nat) : Int := w64 ((-100) - (i : Int))

end Go.Mx

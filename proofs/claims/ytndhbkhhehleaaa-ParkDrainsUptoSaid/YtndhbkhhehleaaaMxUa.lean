/-
  The reference's deque machine: what it wants next, from the list of its answers, is what the machine of the program asks for.
  The reference's deque machine: the walks.
  The reference's memory and machine: a step.
-/
import Derived.Test.YtndhbkhhehleaaaMxQa
import Derived.Test.YtndhbkhhehleaaaMxMm
import Derived.Test.YtndhbkhhehleaaaMxPt
import Derived.Test.YtndhbkhhehleaaaMxQc
set_option linter.unusedVariables false
set_option linter.unusedSimpArgs false
set_option linter.unusedSectionVars false
namespace Go.Mx

abbrev KWn : Kd := .pair ki (.pair ki (.pair ki (.pair ki (.pair ki (.pair ki .nil)))))
abbrev Wn := Den KWn
def wLd (a : Int) : Wn := (0, (a, (0, (0, (0, (0, ()))))))
def wSt (a v : Int) : Wn := (1, (a, (v, (0, (0, (0, ()))))))
def wCas (a x y : Int) : Wn := (2, (a, (x, (y, (0, (0, ()))))))
def wRs (n : Int) : Wn := (4, (0, (n, (0, (0, (0, ()))))))
def wEnd (c v : Int) : Wn := (-1, (0, (0, (0, (c, (v, ()))))))
def Rq.want : Rq → Wn
  | .ld a => wLd a
  | .st a v => wSt a v
  | .cas a x y => wCas a x y
  | .rs n => wRs n
def DOp.want (o : DOp) : Wn := if o = DOp.zero then wEnd 1 0 else if o.pc = 0 then wEnd o.code o.value else o.req.want

def runH (o : DOp) (h : List Int) : DOp := h.foldl DOp.after o
def LiveH (o : DOp) (h : List Int) : Prop := ∀ i, i < h.length → (runH o (h.take i)).pc ≠ 0
theorem w64_wrap (x : Int) : ∃ k : Int, w64 x = x + k * 18446744073709551616 ∧ -9223372036854775808 ≤ w64 x ∧ w64 x < 9223372036854775808 := by
  refine ⟨-((x + 9223372036854775808) / 18446744073709551616), ?_⟩
  simp [IntKind.wrap, IntKind.bits, IntKind.signed]; omega
section
variable {base most v t b a c a2 c2 : Int}
end
end Go.Mx

namespace Go.Mx

end Go.Mx

namespace Go.Mx

def RMem (h0 : Heap) (b : Nat) (s : AS) (S : Nat → Prop) (h : Heap) : Prop := s.wt = true ∧ ∃ c l, S = fpA b c l ∧ MmS h0 h b c l s.sz s.cs s.lg s.who
theorem RMem.fresh {h0 b s S h} (R : RMem h0 b s S h) {x : Nat} (hx : S x) : h0 x = none := by obtain ⟨_, c, l, rfl, o⟩ := R; exact o.fresh hx
def startK (kind base most v : Int) : DOp := if kind = 0 then ⟨1, 1, base, most, v, 0, 0, 0, 0, 0, 0, 0, 0, false, 0, 0⟩ else if kind = 1 then ⟨2, 1, base, most, v, 0, 0, 0, 0, 0, 0, 0, 0, false, 0, 0⟩ else if kind = 2 then ⟨3, 2, base, most, v, 0, 0, 0, 0, 0, 0, 0, 0, false, 0, 0⟩ else ⟨4, 2, base, most, v, 0, 0, 0, 0, 0, 0, 0, 0, false, 0, 0⟩
structure RunO (kind base most v : Int) (hs : List Int) (o : DOp) : Prop where
  k0 : 0 ≤ kind
  k3 : kind ≤ 3
  m1 : 1 ≤ most
  m2 : most ≤ 4096
  bs : w64 base = base
  rg : kind = 0 → ∀ i, i < 2 → w64 (hs.getD i 0) = hs.getD i 0
  st : ∃ v', (kind = 0 → v' = v) ∧ o = runH (startK kind base most v') hs ∧ LiveH (startK kind base most v') hs
def RelO (kind base most v : Int) (hs : List Int) (dead : Bool) (o : DOp) : Prop :=
  (dead = true ∧ o.want = wEnd 1 0) ∨ (dead = false ∧ (kind = 4 ∨ most < 1 ∨ 4096 < most) ∧ o = DOp.zero) ∨ (dead = false ∧ RunO kind base most v hs o)
abbrev KRo : Kd := .pair ki (.pair KP2 (.pair ki (.pair .sl (.pair .bool .nil))))
def ropD (kind base most v : Int) (s : Sl) (dead : Bool) : Den KRo := (kind, ((base, (most, ())), (v, (s, (dead, ())))))
end Go.Mx

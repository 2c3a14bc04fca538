/-
  ParkSteps: machines alone on a fresh lot, as plain functions.
-/
import Derived.Test.YtndhbkhhehleaaaMxPn
set_option linter.unusedVariables false
set_option linter.unusedSimpArgs false
set_option linter.unusedSectionVars false
namespace Go.Mx

def runP : Nat → AS × POp → AS × POp
  | 0, x => x
  | n + 1, x => stepP (runP n x).1 (runP n x).2
/-- deque.New(m, 1, 1) where there is room. -/
def layD (m : AS) : AS := (arenaI (arenaI (arenaI m (.rs 5)).2 (.st ((m.cs.length : Int) + 2) ((m.cs.length : Int) + 3))).2 (.st ((m.cs.length : Int) + 3) 1)).2
def layN : Nat → AS → AS × List (Den KP2)
  | 0, m => (m, [])
  | n + 1, m => (layD (layN n m).1, (layN n m).2 ++ [(((layN n m).1.cs.length : Int), ((1 : Int), ()))])
def lot0 (p : Nat) : AS := (arenaI ⟨2 + (p : Int) + (p : Int) * 5, [], [], 0, false⟩ (.rs (2 + (p : Int)))).2
def al1 (p : Nat) : AS × POp := ((layN p (lot0 p)).1, restD 0 p ((p : Int) - 1) (layN p (lot0 p)).2)
def al2 (p : Nat) : AS × POp := runP (2 * p + 1) (al1 p)
def al3 (p : Nat) : AS × POp := runP (p + 1) ((al2 p).1, wakeD 0 p 0)
def al4 (p : Nat) : AS × POp := stepP (al3 p).1 (al2 p).2
def aloneB (p : Nat) : Bool :=
  (List.range (2 * p + 1)).all (fun i => !(runP i (al1 p)).2.parked) && (al2 p).2.parked && (if p = 1 then decide ((al3 p).2.answer.1 = 19) else (decide ((al3 p).2.answer.1 = 18) && decide ((al3 p).2.answer.2 = (p : Int) - 1) && decide ((al4 p).2.answer.1 = 16) && !(al4 p).2.parked))
set_option maxRecDepth 100000 in
theorem aloneB_all : ∀ p : Fin 8, aloneB (p.val + 1) = true := by decide +kernel
end Go.Mx

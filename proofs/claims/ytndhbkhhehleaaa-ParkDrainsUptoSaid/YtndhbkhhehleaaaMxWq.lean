/-
  A park play by its log: the book that is kept of it.
-/
import Derived.Test.YtndhbkhhehleaaaMxWo
import Derived.Test.YtndhbkhhehleaaaMxOa
set_option linter.unusedVariables false
set_option linter.unusedSimpArgs false
set_option linter.unusedSectionVars false
namespace Go.Mx

theorem dno {p : Prop} [Decidable p] {A B : Prop} (hp : ¬ p) (b : B) : (decide p = true → A) ∧ (decide p = false → B) := ⟨fun q => absurd (of_decide_eq_true q) hp, fun _ => b⟩
structure Bk where
  fl : Nat → Int
  ow : Nat → Bool
  cnt : Int
  clr : Int
  dn : Int
def Bk.zero : Bk := ⟨fun _ => 0, fun _ => false, 0, 0, 0⟩
abbrev ac (w : Nat) (k a x y : Int) (ok : Bool) : Acc := ((w : Int), (k, (a, (x, (y, (ok, ()))))))
inductive EStep (P : Nat) (b : Bk) : Acc → Bk → Prop
  | far (w : Nat) (hw : w < P) (ow : b.ow w = false) (e : Acc) (q : DqE (2 + (P : Int)) (w : Int) e) : EStep P b e b
  | ldF (w : Nat) (w0 : w ≠ 0) (hw : w < P) (ow : b.ow w = false) : EStep P b (ac w 0 (2 + w) (b.fl w) 0 true) b
  | stF (w : Nat) (w0 : w ≠ 0) (hw : w < P) (ow : b.ow w = false) : EStep P b (ac w 1 (2 + w) 1 0 true) { b with fl := updN b.fl w 1 }
  | casS (w : Nat) (w0 : w ≠ 0) (hw : w < P) (ow : b.ow w = false) (f : b.fl w = 1) : EStep P b (ac w 2 (2 + w) 1 0 true) { b with fl := updN b.fl w 0, ow := updN b.ow w true }
  | casF (w : Nat) (w0 : w ≠ 0) (hw : w < P) (ow : b.ow w = false) (f : b.fl w ≠ 1) : EStep P b (ac w 2 (2 + w) 1 0 false) b
  | clrS (i : Nat) (i0 : i ≠ 0) (hi : i < P) (ow : b.ow 0 = false) (f : b.fl i = 1) : EStep P b (ac 0 2 (2 + i) 1 0 true) { b with fl := updN b.fl i 0, ow := updN b.ow 0 true, clr := w64 (b.clr + 1) }
  | clrF (i : Nat) (i0 : i ≠ 0) (hi : i < P) (ow : b.ow 0 = false) (f : b.fl i ≠ 1) : EStep P b (ac 0 2 (2 + i) 1 0 false) b
  | stD (ow : b.ow 0 = false) : EStep P b (ac 0 1 1 1 0 true) { b with dn := 1 }
  | ldD (w : Nat) (w0 : w ≠ 0) (hw : w < P) (ow : b.ow w = false) : EStep P b (ac w 0 1 b.dn 0 true) b
  | ldC (ow : b.ow 0 = false) : EStep P b (ac 0 0 0 b.cnt 0 true) b
  | inc (w : Nat) (w0 : w ≠ 0) (hw : w < P) (ow : b.ow w = false) : EStep P b (ac w 3 0 1 (w64 (b.cnt + 1)) true) { b with cnt := w64 (b.cnt + 1) }
  | dec (w : Nat) (hw : w < P) (ow : b.ow w = true) : EStep P b (ac w 3 0 (-1) (w64 (b.cnt + (-1))) true) { b with cnt := w64 (b.cnt + (-1)), ow := updN b.ow w false }
def isLess : SM → Bool
  | .less _ => true
  | _ => false
def owes (m : WM) : Bool := match m with
  | .wu _ => true
  | .fu _ => true
  | _ => false
def wkN : WM → Int
  | .wu _ => 1
  | _ => 0
def puN : WM → Int
  | .push => 1
  | .pend => 1
  | .wk => 1
  | .wc _ => 1
  | .wu _ => 1
  | _ => 0
def finM : WM → Prop
  | .fs => True
  | .fc _ => True
  | .fu _ => True
  | _ => False
def puL (l : List DTd) : Nat := l.countP fun t => decide (t.1 = 0)
structure BkM (td0 : List DTd) (P : Nat) (b : Bk) (s : PkS) : Prop where
  fl : ∀ i, i < P → b.fl i = FLc s (i : Int)
  ow0 : b.ow 0 = owes s.wm
  ow : ∀ i, 1 ≤ i → i < P → b.ow i = isLess (s.sm i)
  cnt : b.cnt = SLc s
  dn : b.dn = DNc s
  wo0 : 0 ≤ s.g.woken
  sub : ∀ t ∈ s.g.todos, t ∈ td0
  pu : s.g.woken + puN s.wm + (puL s.g.todos : Int) ≤ (puL td0 : Int)
  clr : s.g.woken + wkN s.wm ≤ b.clr
  clm : b.clr ≤ (s.g.m.lg.length : Int)
  nof : (∀ t ∈ td0, t.1 = 0 ∨ t.1 = 1) → b.clr = s.g.woken + wkN s.wm ∧ ¬ finM s.wm
theorem puL_cons (t : DTd) (ts : List DTd) : (puL (t :: ts) : Int) = (puL ts : Int) + if t.1 = 0 then 1 else 0 := by
  unfold puL
  rw [List.countP_cons]
  by_cases e : t.1 = 0
  · rw [if_pos e, decide_eq_true e]; simp
  · rw [if_neg e, decide_eq_false e]; simp
section
variable {td0 : List DTd} {P : Nat} {b : Bk} {s s' : PkS} (h : BkM td0 P b s)
include h
end
end Go.Mx

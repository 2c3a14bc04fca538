/-
  A game that was handed in; the functions of a game by their numbers.
-/
import Derived.Test.YtjkecefbbijajabMxV
import Derived.Test.YtjkecefbbijajabMxTb
import Derived.Test.YtjkecefbbijajabMxJd
set_option linter.unusedVariables false
set_option linter.unusedSimpArgs false
set_option maxRecDepth 100000
namespace Go.Mx
open Go.Proofs

def fieldsT (P : Program) (T : TypeId) : List Field := match P.underlying T with
  | some (.struct fs) => fs.toList
  | _ => []
def typeAt (P : Program) (T : TypeId) (i : Nat) : TypeId := (((fieldsT P T)[i]?).map (·.type)).getD 0
theorem DataOf.game {P : Program} {W : World} {B m : Nat} {T : TypeId} {x : Den klaw4Game} (h : DataOf P W B (m + 1 + 1) T klaw4Game x) (hl : Nat.ble 5 (fieldsT P T).length = true) (h1 : elemKd P (typeAt P T 2) = some KTd) (h2 : elemKd P (typeAt P T 4) = some ki) :
    ∃ (ts : List DTd) (ps : List Int), Arr (view W) KTd x.2.2.1 ts ∧ Arr (view W) ki x.2.2.2.2.1 ps := by
  have hh : DataOf P W B (m + 1) (typeAt P T 2) .sl x.2.2.1 ∧ DataOf P W B (m + 1) (typeAt P T 4) .sl x.2.2.2.2.1 := by
    obtain ⟨fs, h1, h2⟩ := h
    have e : fieldsT P T = fs.toList := by unfold fieldsT; rw [h1]
    unfold typeAt
    rw [e] at hl ⊢
    have hl := Nat.le_of_ble_eq_true hl
    generalize fs.toList = l at *
    match l, hl, h2 with
    | f0 :: f1 :: f2 :: f3 :: f4 :: r, _, h2 => exact ⟨h2.2.2.1, h2.2.2.2.2.1⟩
  obtain ⟨ts, a1, _⟩ := hh.1.arr h1
  obtain ⟨ps, b1, _⟩ := hh.2.arr h2
  exact ⟨ts, ps, a1, b1⟩

theorem fitJ {g : Den klaw4Game} {h : Heap} {xs : List DTd} {ys : List Int} {M P : Nat} {Q : Den klaw4Game → Heap → Prop} (ht : Arr h KTd g.2.2.1 xs) (hp : Arr h ki g.2.2.2.2.1 ys) (hM : M ≤ 4096) (hP : P ≤ 1048576) (hQ : ∀ td pk h', New h h' KTd td (fitT M xs) → New h h' ki pk (fitP (1 + g.2.2.2.1 % 4) P ys) → Q ((1 + g.1 % 8), ((1 + g.1 % 8 + g.2.1 % 8), (td, ((g.2.2.2.1 % 4), (pk, ()))))) h') :
    CallT Try.prog 12 [Kd.val klaw4Game g, Kd.val (.int .i64) (M : Int), Kd.val (.int .i64) (P : Int)] false klaw4Game h Q :=
  law4_Game_fit.br (fit_spec ht hp hM hP law4_mod.br hQ)
theorem gplayJ {g : Den klaw4Game} {pk : Sl} {h : Heap} {ts : List DTd} {ps : List Int} {Q : (Den kapiDequeRun × (Bool × Unit)) → Heap → Prop} (ht : Arr h KTd g.2.2.1 ts) (hp : Arr h ki pk ps) (hj : judgeE g.1 g.2.1 ts g.2.2.2.1 ps = 0) (hQ : ∀ ca re lg h', PlayR h h' (playOf g.1 g.2.1 ts g.2.2.2.1 ps) ca re lg → Q ((ca, (re, (lg, ()))), (true, ())) h') :
    CallT Try.prog 13 [Kd.val klaw4Game g, Kd.val .sl pk] true (.pair kapiDequeRun (.pair .bool .nil)) h Q :=
  law4_Game_play.br (dplayJ ht hp (fun e => absurd hj e) fun _ ca re lg h' pr => hQ ca re lg h' pr)
theorem begunJ {g : Den klaw4Game} {cl : Sl} {h : Heap} {cs : List DCl} {ps : List Int} {Q : Bool → Heap → Prop} (hc : Arr h KCl cl cs) (hcn : cs.length ≤ 1048576) (hp : Arr h ki g.2.2.2.2.1 ps) (hn : ps.length ≤ 1048576) (t0 : 0 ≤ g.2.2.2.1) (t3 : g.2.2.2.1 ≤ 3)
    (hb : ∀ w at' : Nat, (w = 0 → (g.2.2.1.len : Int) ≠ 0) → ps[at']? = some (w : Int) → (∀ m, m < at' → ps[m]? ≠ some (w : Int)) → ∃ (j : Nat) (c : DCl), cs[j]? = some c ∧ dWho c = (w : Int) ∧ dBeg c = (at' : Int)) (hQ : Q true h) :
    CallT Try.prog 14 [Kd.val klaw4Game g, Kd.val .sl cl] false .bool h Q :=
  law4_Game_begun.br (begun_spec hc hcn hp hn t0 t3 hb law4_has.br hQ)
end Go.Mx

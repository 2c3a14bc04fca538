/-
  What is proved: plunderlaw4.HistDequePrefix returns true and leaves its arguments as they were, for every input. Condition: what it reads is of bulk at most 1048576.
-/
import Derived.Test.YtjkecefbbijajabMxTd
import Derived.Test.YtjkecefbbijajabMxTg
import Derived.Test.YtjkecefbbijajabMxV
import Derived.Test.YtjkecefbbijajabMb
import Derived.WalkKit
import Derived.ProofKit
import Derived.JoinedCond
namespace Go.Proofs.Ytjkecefbbijajab.histDequePrefix
open Go.ChangeShapes Go.WideShapes Go.ChangeAt Go.RowKit Go.Mx
set_option linter.unusedVariables false
set_option linter.unusedSimpArgs false
set_option maxRecDepth 100000

theorem own : ownKnob Try.prog.godebug = none := by kernel_rfl

theorem call (g : Den klaw4Game) (at' : Int) (W : World) (xs : List DTd) (ys : List Int) (ht : Arr (view W) KTd g.2.2.1 xs) (hp : Arr (view W) ki g.2.2.2.2.1 ys) :
    CallT Try.prog 5 [Kd.val klaw4Game g, Kd.val (.int .i64) at'] false .bool (view W) fun b h' => b = true ∧ le (view W) h' :=
  law4_HistDequePrefix.br (dprefix_spec ht hp fitJ law4_mod.br gplayJ begunJ hist_Cut.br law4_same.br (fun h' l => ⟨rfl, l⟩))

theorem contract (H : Type) (enc : TypeId × Value → H) (W : World) (base : Nat) (args : Array Value) (ds gs : List (DataW H)) (before : List MemPlace)
    (hval : ∀ (j : Nat) t v, Try.f5.params[j]? = some t → args[j]? = some v → Value.okWide Try.prog W .any base t v)
    (hW : DataW.Whole enc Try.prog Try.f5.params.toList Rows.histDequePrefixSpec.vars false W args.toList ds gs before) (hk : Rows.uptoSmall H (ds ++ gs) = true) :
    Calls Try.prog 5 args W fun e W' => ∃ v, e = .returned v ∧ Rows.histDequePrefixSpec.post enc Try.prog Try.f5 false true false false W args v W' := by
  have hW' := hW
  obtain ⟨p, q, hA, hV, rfl, hfz, hnd⟩ := hW
  obtain ⟨rfl, rfl⟩ := trodVars_none hV
  rw [List.append_nil] at hk
  have hB : Rows.uptoBulkAll ds ≤ 1048576 := of_decide_eq_true hk
  obtain ⟨es, e1, e2, e3⟩ := args_of (P := Try.prog) (base := base) (m := 4) (B := 1048576) (ts := Try.f5.params.toList) (ks := [klaw4Game, .int .i64]) (by kernel_rfl) (fun j t v a b => hval j t v (by simpa using a) (by simpa using b)) hA hB
  rcases es with _ | ⟨⟨k1, x1⟩, _ | ⟨⟨k2, x2⟩, _ | ⟨_, _⟩⟩⟩
  · cases e1
  · cases e1
  · simp only [List.map_cons, List.map_nil, List.cons.injEq, and_true] at e1
    obtain ⟨rfl, rfl⟩ := e1
    rw [Try.params5] at e3 hA
    obtain ⟨f1, f2, _⟩ := e3
    obtain ⟨xs, ys, g1, g2⟩ := DataOf.game (m := 2) f1 (by kernel_rfl) (by kernel_rfl) (by kernel_rfl)
    obtain ⟨v0, vs0, d0, ds0, p0, q0, _, rfl, _, _, r0⟩ := trodAll_cons hA
    obtain ⟨v1, vs1, d1, ds1, p1, q1, _, rfl, _, _, r1⟩ := trodAll_cons r0
    obtain ⟨_, rfl, _⟩ := trodAll_nil r1
    refine law_post (bT := Try.f5.resultTypes.getD 0 0) (by kernel_rfl) (by kernel_rfl) (by kernel_rfl) rfl (by kernel_rfl) hW' (fun _ => ⟨rfl, rfl, rfl⟩) ?_
    rw [e2]
    exact call x1 x2 W xs ys g1 g2
  · cases e1

theorem lifted (os : Os) (started : os.Started) (H : Type) (enc : TypeId × Value → H) (F : Stop.Interp) :
    ReturnsInHanded {} Try.checked os 5 .any ((Rows.OpenSpec.upto Rows.histDequePrefixSpec).pre6 enc Try.prog Try.f5 Rows.histDequePrefixUptoRow.domain false) (((Rows.OpenSpec.upto Rows.histDequePrefixSpec).at F).post enc Try.prog Try.f5 false true false false) := by
  refine returnsInHanded_of_cond (C := Try.checked) (s := Rows.OpenSpec.upto Rows.histDequePrefixSpec) (k := Rows.uptoSmall) rfl own started (by kernel_rfl) Try.func5
    (OpenSpec.witness (enc := enc) (C := Try.checked) (s := Rows.OpenSpec.upto Rows.histDequePrefixSpec) (k := Rows.uptoSmall) rfl false ⟨#[], #[.agg #[.int .i64 0, .int .i64 0, .slice none 0 0, .int .i64 0, .slice none 0 0], .int .i64 0], []⟩ 8 (by kernel_rfl) (by kernel_rfl) (by kernel_rfl)
      (x := ([.agg [.lit (.int .i64 0), .lit (.int .i64 0), .nil, .lit (.int .i64 0), .nil], .lit (.int .i64 0)], [], [])) (by kernel_rfl) rfl (by kernel_rfl)) ?_
  intro W base args ds gs before hval hW _ hk _
  exact contract H enc W base args ds gs before hval hW hk

theorem over : Rows.histDequePrefixUptoRow.holds Try.pinned (Rows.OpenSpec.upto Rows.histDequePrefixSpec) :=
  OpenClaim.holds_of_cond 5 Try.f5 rfl rfl rfl rfl rfl rfl rfl ⟨rfl, rfl, rfl, rfl, rfl⟩ rfl rfl rfl rfl rfl (by kernel_rfl) Try.func5 (by kernel_rfl)
    (of_decide_eq_true (by kernel_rfl)) (by unfold Func.isWrapper; first | (rw [if_pos (by decide +kernel)]; kernel_rfl) | (rw [if_neg (by decide +kernel)]; exact ⟨rfl, rfl⟩))
    (fun os started H enc _ F => lifted os started H enc F)

theorem proved : Rows.HistDequePrefixUptoSaid :=
  over
end Go.Proofs.Ytjkecefbbijajab.histDequePrefix

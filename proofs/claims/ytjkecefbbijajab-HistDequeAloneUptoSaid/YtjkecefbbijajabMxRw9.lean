/-
  What is proved: plunderlaw4.HistDequeAlone returns true and leaves its arguments as they were, for every input. Condition: what it reads is of bulk at most 1048576.
-/
import Derived.Test.YtjkecefbbijajabMxTf
import Derived.Test.YtjkecefbbijajabMxTg
import Derived.Test.YtjkecefbbijajabMxV
import Derived.Test.YtjkecefbbijajabMb
import Derived.WalkKit
import Derived.ProofKit
import Derived.JoinedCond
namespace Go.Proofs.Ytjkecefbbijajab.histDequeAlone
open Go.ChangeShapes Go.WideShapes Go.ChangeAt Go.RowKit Go.Mx
set_option linter.unusedVariables false
set_option linter.unusedSimpArgs false
set_option maxRecDepth 100000

theorem own : ownKnob Try.prog.godebug = none := by kernel_rfl

theorem call (g : Den klaw4Game) (W : World) (xs : List DTd) (ys : List Int) (ht : Arr (view W) KTd g.2.2.1 xs) (hp : Arr (view W) ki g.2.2.2.2.1 ys) :
    CallT Try.prog 6 [Kd.val klaw4Game g] false .bool (view W) fun b h' => b = true ∧ le (view W) h' :=
  law4_HistDequeAlone.br (dalone_spec ht hp fitJ (fun a b j q => dplayJ a b (fun e => absurd j e) (fun _ => q)) (fun a q => hist_Serial.br (hserial_all a hist_goodMost.br hist_row_does.br slices_Clone_int64_int64.br fun s r h' a b _ => q s r h' a b)) law4_sameInts.br (fun h' l => ⟨rfl, l⟩))

theorem contract (H : Type) (enc : TypeId × Value → H) (W : World) (base : Nat) (args : Array Value) (ds gs : List (DataW H)) (before : List MemPlace)
    (hval : ∀ (j : Nat) t v, Try.f6.params[j]? = some t → args[j]? = some v → Value.okWide Try.prog W .any base t v)
    (hW : DataW.Whole enc Try.prog Try.f6.params.toList Rows.histDequeAloneSpec.vars false W args.toList ds gs before) (hk : Rows.uptoSmall H (ds ++ gs) = true) :
    Calls Try.prog 6 args W fun e W' => ∃ v, e = .returned v ∧ Rows.histDequeAloneSpec.post enc Try.prog Try.f6 false true false false W args v W' := by
  have hW' := hW
  obtain ⟨p, q, hA, hV, rfl, hfz, hnd⟩ := hW
  obtain ⟨rfl, rfl⟩ := trodVars_none hV
  rw [List.append_nil] at hk
  have hB : Rows.uptoBulkAll ds ≤ 1048576 := of_decide_eq_true hk
  obtain ⟨es, e1, e2, e3⟩ := args_of (P := Try.prog) (base := base) (m := 4) (B := 1048576) (ts := Try.f6.params.toList) (ks := [klaw4Game]) (by kernel_rfl) (fun j t v a b => hval j t v (by simpa using a) (by simpa using b)) hA hB
  rcases es with _ | ⟨⟨k1, x1⟩, _ | ⟨_, _⟩⟩
  · cases e1
  · simp only [List.map_cons, List.map_nil, List.cons.injEq, and_true] at e1
    obtain rfl := e1
    rw [Try.params6] at e3 hA
    obtain ⟨f1, _⟩ := e3
    obtain ⟨xs, ys, g1, g2⟩ := DataOf.game (m := 2) f1 (by kernel_rfl) (by kernel_rfl) (by kernel_rfl)
    obtain ⟨v0, vs0, d0, ds0, p0, q0, _, rfl, _, _, r0⟩ := trodAll_cons hA
    obtain ⟨_, rfl, _⟩ := trodAll_nil r0
    refine law_post (bT := Try.f6.resultTypes.getD 0 0) (by kernel_rfl) (by kernel_rfl) (by kernel_rfl) rfl (by kernel_rfl) hW' (fun _ => ⟨rfl, rfl, rfl⟩) ?_
    rw [e2]
    exact call x1 W xs ys g1 g2
  · cases e1

theorem lifted (os : Os) (started : os.Started) (H : Type) (enc : TypeId × Value → H) (F : Stop.Interp) :
    ReturnsInHanded {} Try.checked os 6 .any ((Rows.OpenSpec.upto Rows.histDequeAloneSpec).pre6 enc Try.prog Try.f6 Rows.histDequeAloneUptoRow.domain false) (((Rows.OpenSpec.upto Rows.histDequeAloneSpec).at F).post enc Try.prog Try.f6 false true false false) := by
  refine returnsInHanded_of_cond (C := Try.checked) (s := Rows.OpenSpec.upto Rows.histDequeAloneSpec) (k := Rows.uptoSmall) rfl own started (by kernel_rfl) Try.func6
    (OpenSpec.witness (enc := enc) (C := Try.checked) (s := Rows.OpenSpec.upto Rows.histDequeAloneSpec) (k := Rows.uptoSmall) rfl false ⟨#[], #[.agg #[.int .i64 0, .int .i64 0, .slice none 0 0, .int .i64 0, .slice none 0 0]], []⟩ 8 (by kernel_rfl) (by kernel_rfl) (by kernel_rfl)
      (x := ([.agg [.lit (.int .i64 0), .lit (.int .i64 0), .nil, .lit (.int .i64 0), .nil]], [], [])) (by kernel_rfl) rfl (by kernel_rfl)) ?_
  intro W base args ds gs before hval hW _ hk _
  exact contract H enc W base args ds gs before hval hW hk

theorem over : Rows.histDequeAloneUptoRow.holds Try.pinned (Rows.OpenSpec.upto Rows.histDequeAloneSpec) :=
  OpenClaim.holds_of_cond 6 Try.f6 rfl rfl rfl rfl rfl rfl rfl ⟨rfl, rfl, rfl, rfl, rfl⟩ rfl rfl rfl rfl rfl (by kernel_rfl) Try.func6 (by kernel_rfl)
    (of_decide_eq_true (by kernel_rfl)) (by unfold Func.isWrapper; first | (rw [if_pos (by decide +kernel)]; kernel_rfl) | (rw [if_neg (by decide +kernel)]; exact ⟨rfl, rfl⟩))
    (fun os started H enc _ F => lifted os started H enc F)

theorem proved : Rows.HistDequeAloneUptoSaid :=
  over
end Go.Proofs.Ytjkecefbbijajab.histDequeAlone

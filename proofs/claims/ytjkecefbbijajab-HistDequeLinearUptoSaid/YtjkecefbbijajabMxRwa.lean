/-
  What is proved: plunderlaw4.HistDequeLinear returns true and leaves its arguments as they were, for every input. Condition: what it reads is of bulk at most 1048576.
-/
import Derived.Test.YtjkecefbbijajabMxTr
import Derived.Test.YtjkecefbbijajabMxTg
import Derived.Test.YtjkecefbbijajabMxV
import Derived.Test.YtjkecefbbijajabMb
import Derived.WalkKit
import Derived.ProofKit
import Derived.JoinedCond
namespace Go.Proofs.Ytjkecefbbijajab.histDequeLinear
open Go.ChangeShapes Go.WideShapes Go.ChangeAt Go.RowKit Go.Mx
set_option linter.unusedVariables false
set_option linter.unusedSimpArgs false
set_option maxRecDepth 100000

theorem own : ownKnob Try.prog.godebug = none := by kernel_rfl

theorem order {l : Sl} {m : Int} {h : Heap} {us : List Cl} {Q : (Sl × (Int × Unit)) → Heap → Prop} (ha : Arr h kapiCall l us) (hn : l.len ≤ 2097152) (hQ : ∀ r e os h', OrdR us m e os → New h h' ki r os → Q (r, (e, ())) h') :
    CallT Try.prog 21 [Kd.val .sl l, Kd.val (.int .i64) m] true (.pair .sl (.pair (.int .i64) .nil)) h Q :=
  hist_Order.br (horder_spec ha hn (F := fun x0 x1 x2 h K => CallT Try.prog 41 [Kd.val .ptr x0, Kd.val (.arr 4 (.int .i64)) x1, Kd.val .sl x2] false .bool h K) hist_goodMost.br (fun h1 h2 h3 => hist_history.br (history_spec h1 h2 (fun g => hist_sound.br (sound_spec hist_may.br g)) h3))
    slices_Clone_int_int.br hist_search_done.br hist_row_does.br hist_search_waits.br hist_search_from.br hQ)
theorem rlegal {a o : Sl} {m : Int} {h : Heap} {us : List Cl} {vs : List Int} {Q : Bool → Heap → Prop} (ha : Arr h kapiCall a us) (ho : Arr h ki o vs) (hn : a.len ≤ 2097152) (hm : o.len ≤ 2097152) (hQ : ∀ (b : Bool) h', (b = true ↔ OkL us m vs) → le h h' → Q b h') :
    CallT Try.prog 22 [Kd.val .sl a, Kd.val (.int .i64) m, Kd.val .sl o] false .bool h Q :=
  ref4_Legal.br (rlegal_spec (c4 := fun x0 h K => CallT Try.prog 57 [Kd.val .sl x0] false .bool h K) ha ho hn hm (fun h1 h2 h3 => ref4_History.br (rhistory_spec h1 h2 (fun g => ref4_single.br (single_spec ref4_mayAnswer.br g)) h3)) ref4_Bad.br
    (fun h1 h2 h3 h4 h5 => ref4_Replay.br (replay_spec h1 h2 h3 h4 ref4_ahead.br ref4_Do.br h5)) hQ)
theorem call (g : Den klaw4Game) (W : World) (xs : List DTd) (ys : List Int) (ht : Arr (view W) KTd g.2.2.1 xs) (hp : Arr (view W) ki g.2.2.2.2.1 ys) :
    CallT Try.prog 7 [Kd.val klaw4Game g] false .bool (view W) fun b h' => b = true ∧ le (view W) h' :=
  law4_HistDequeLinear.br (dlinear_spec ht hp fitJ gplayJ begunJ order rlegal (fun h' l => ⟨rfl, l⟩))

theorem contract (H : Type) (enc : TypeId × Value → H) (W : World) (base : Nat) (args : Array Value) (ds gs : List (DataW H)) (before : List MemPlace)
    (hval : ∀ (j : Nat) t v, Try.f7.params[j]? = some t → args[j]? = some v → Value.okWide Try.prog W .any base t v)
    (hW : DataW.Whole enc Try.prog Try.f7.params.toList Rows.histDequeLinearSpec.vars false W args.toList ds gs before) (hk : Rows.uptoSmall H (ds ++ gs) = true) :
    Calls Try.prog 7 args W fun e W' => ∃ v, e = .returned v ∧ Rows.histDequeLinearSpec.post enc Try.prog Try.f7 false true false false W args v W' := by
  have hW' := hW
  obtain ⟨p, q, hA, hV, rfl, hfz, hnd⟩ := hW
  obtain ⟨rfl, rfl⟩ := trodVars_none hV
  rw [List.append_nil] at hk
  have hB : Rows.uptoBulkAll ds ≤ 1048576 := of_decide_eq_true hk
  obtain ⟨es, e1, e2, e3⟩ := args_of (P := Try.prog) (base := base) (m := 4) (B := 1048576) (ts := Try.f7.params.toList) (ks := [klaw4Game]) (by kernel_rfl) (fun j t v a b => hval j t v (by simpa using a) (by simpa using b)) hA hB
  rcases es with _ | ⟨⟨k1, x1⟩, _ | ⟨_, _⟩⟩
  · cases e1
  · simp only [List.map_cons, List.map_nil, List.cons.injEq, and_true] at e1
    obtain rfl := e1
    rw [Try.params7] at e3 hA
    obtain ⟨f1, _⟩ := e3
    obtain ⟨xs, ys, g1, g2⟩ := DataOf.game (m := 2) f1 (by kernel_rfl) (by kernel_rfl) (by kernel_rfl)
    obtain ⟨v0, vs0, d0, ds0, p0, q0, _, rfl, _, _, r0⟩ := trodAll_cons hA
    obtain ⟨_, rfl, _⟩ := trodAll_nil r0
    refine law_post (bT := Try.f7.resultTypes.getD 0 0) (by kernel_rfl) (by kernel_rfl) (by kernel_rfl) rfl (by kernel_rfl) hW' (fun _ => ⟨rfl, rfl, rfl⟩) ?_
    rw [e2]
    exact call x1 W xs ys g1 g2
  · cases e1

theorem lifted (os : Os) (started : os.Started) (H : Type) (enc : TypeId × Value → H) (F : Stop.Interp) :
    ReturnsInHanded {} Try.checked os 7 .any ((Rows.OpenSpec.upto Rows.histDequeLinearSpec).pre6 enc Try.prog Try.f7 Rows.histDequeLinearUptoRow.domain false) (((Rows.OpenSpec.upto Rows.histDequeLinearSpec).at F).post enc Try.prog Try.f7 false true false false) := by
  refine returnsInHanded_of_cond (C := Try.checked) (s := Rows.OpenSpec.upto Rows.histDequeLinearSpec) (k := Rows.uptoSmall) rfl own started (by kernel_rfl) Try.func7
    (OpenSpec.witness (enc := enc) (C := Try.checked) (s := Rows.OpenSpec.upto Rows.histDequeLinearSpec) (k := Rows.uptoSmall) rfl false ⟨#[], #[.agg #[.int .i64 0, .int .i64 0, .slice none 0 0, .int .i64 0, .slice none 0 0]], []⟩ 8 (by kernel_rfl) (by kernel_rfl) (by kernel_rfl)
      (x := ([.agg [.lit (.int .i64 0), .lit (.int .i64 0), .nil, .lit (.int .i64 0), .nil]], [], [])) (by kernel_rfl) rfl (by kernel_rfl)) ?_
  intro W base args ds gs before hval hW _ hk _
  exact contract H enc W base args ds gs before hval hW hk

theorem over : Rows.histDequeLinearUptoRow.holds Try.pinned (Rows.OpenSpec.upto Rows.histDequeLinearSpec) :=
  OpenClaim.holds_of_cond 7 Try.f7 rfl rfl rfl rfl rfl rfl rfl ⟨rfl, rfl, rfl, rfl, rfl⟩ rfl rfl rfl rfl rfl (by kernel_rfl) Try.func7 (by kernel_rfl)
    (of_decide_eq_true (by kernel_rfl)) (by unfold Func.isWrapper; first | (rw [if_pos (by decide +kernel)]; kernel_rfl) | (rw [if_neg (by decide +kernel)]; exact ⟨rfl, rfl⟩))
    (fun os started H enc _ F => lifted os started H enc F)

theorem proved : Rows.HistDequeLinearUptoSaid :=
  over
end Go.Proofs.Ytjkecefbbijajab.histDequeLinear

/-
  What is proved: plunderlaw21.BuffersOrder returns true and leaves its arguments as they were, for every input. Condition: what it reads is of bulk at most 1048576.
-/
import Derived.Test.YtppehoailhjdfabMxBj
import Derived.Test.YtppehoailhjdfabMxV
import Derived.Test.YtppehoailhjdfabMb
import Derived.WalkKit
import Derived.ProofKit
import Derived.JoinedCond
namespace Go.Proofs.Ytppehoailhjdfab.buffersOrder
open Go.ChangeShapes Go.WideShapes Go.ChangeAt Go.RowKit Go.Mx
set_option linter.unusedVariables false
set_option linter.unusedSimpArgs false
set_option maxRecDepth 100000

theorem own : ownKnob Try.prog.godebug = none := by kernel_rfl

theorem fewJ : FewC false id fun x0 x1 h K => CallT Try.prog 30 [Kd.val .sl x0, Kd.val .bool x1] false .sl h K := fun a b => law21_few.br (few0_spec a b)
theorem sameWJ : SameWC fun x0 x1 h K => CallT Try.prog 32 [Kd.val .sl x0, Kd.val .sl x1] false .bool h K := fun a b c d => law21_sameWaits.br (sameWaits_spec a b c d)
theorem progJ : ProgC fun x0 x1 x2 h K => CallT Try.prog 31 [Kd.val KRun x0, Kd.val .sl x1, Kd.val .sl x2] false .bool h K := fun a b c d e f g i j k l m => law21_progress.br (progC_of lmodJ a b c d e f g i j k l m)
theorem call (size used room : Int) (lists picks : Sl) (W : World) (ls : List (List AMv)) (ps : List Int) (hl : Arr2 (view W) KMv lists ls) (hp : Arr (view W) ki picks ps) :
    CallT Try.prog 6 [Kd.val (.int .i64) size, Kd.val (.int .i64) used, Kd.val (.int .i64) room, Kd.val .sl lists, Kd.val .sl picks] false .bool (view W) fun b h' => b = true ∧ le (view W) h' :=
  law21_BuffersOrder.br (order_spec boundJ fewJ bplayJ progJ sameWJ hl hp fun h' l => ⟨rfl, l⟩)

theorem contract (H : Type) (enc : TypeId × Value → H) (W : World) (base : Nat) (args : Array Value) (ds gs : List (DataW H)) (before : List MemPlace)
    (hval : ∀ (j : Nat) t v, Try.f6.params[j]? = some t → args[j]? = some v → Value.okWide Try.prog W .any base t v)
    (hW : DataW.Whole enc Try.prog Try.f6.params.toList Rows.buffersOrderSpec.vars false W args.toList ds gs before) (hk : Rows.uptoSmall H (ds ++ gs) = true) :
    Calls Try.prog 6 args W fun e W' => ∃ v, e = .returned v ∧ Rows.buffersOrderSpec.post enc Try.prog Try.f6 false true false false W args v W' := by
  have hW' := hW
  obtain ⟨p, q, hA, hV, rfl, hfz, hnd⟩ := hW
  obtain ⟨rfl, rfl⟩ := trodVars_none hV
  rw [List.append_nil] at hk
  have hB : Rows.uptoBulkAll ds ≤ 1048576 := of_decide_eq_true hk
  obtain ⟨es, e1, e2, e3⟩ := args_of (P := Try.prog) (base := base) (m := 6) (B := 1048576) (ts := Try.f6.params.toList) (ks := [.int .i64, .int .i64, .int .i64, .sl, .sl]) (by kernel_rfl) (fun j t v a b => hval j t v (by simpa using a) (by simpa using b)) hA hB
  rcases es with _ | ⟨⟨k1, x1⟩, _ | ⟨⟨k2, x2⟩, _ | ⟨⟨k3, x3⟩, _ | ⟨⟨k4, x4⟩, _ | ⟨⟨k5, x5⟩, _ | ⟨_, _⟩⟩⟩⟩⟩⟩
  · cases e1
  · cases e1
  · cases e1
  · cases e1
  · cases e1
  · simp only [List.map_cons, List.map_nil, List.cons.injEq, and_true] at e1
    obtain ⟨rfl, rfl, rfl, rfl, rfl⟩ := e1
    rw [Try.params6] at e3 hA
    obtain ⟨f1, f2, f3, f4, f5, _⟩ := e3
    obtain ⟨ls, g1, _⟩ := DataOf.arr2 (m := 4) (ke := KMv) f4 (by kernel_rfl) (by kernel_rfl)
    obtain ⟨ps, g2, _⟩ := f5.arr (ke := ki) (by kernel_rfl)
    obtain ⟨v0, vs0, d0, ds0, p0, q0, _, rfl, _, _, r0⟩ := trodAll_cons hA
    obtain ⟨v1, vs1, d1, ds1, p1, q1, _, rfl, _, _, r1⟩ := trodAll_cons r0
    obtain ⟨v2, vs2, d2, ds2, p2, q2, _, rfl, _, _, r2⟩ := trodAll_cons r1
    obtain ⟨v3, vs3, d3, ds3, p3, q3, _, rfl, _, _, r3⟩ := trodAll_cons r2
    obtain ⟨v4, vs4, d4, ds4, p4, q4, _, rfl, _, _, r4⟩ := trodAll_cons r3
    obtain ⟨_, rfl, _⟩ := trodAll_nil r4
    refine law_post (bT := Try.f6.resultTypes.getD 0 0) (by kernel_rfl) (by kernel_rfl) (by kernel_rfl) rfl (by kernel_rfl) hW' (fun _ => ⟨rfl, rfl, rfl⟩) ?_
    rw [e2]
    exact call x1 x2 x3 x4 x5 W ls ps g1 g2
  · cases e1

theorem lifted (os : Os) (started : os.Started) (H : Type) (enc : TypeId × Value → H) (F : Stop.Interp) :
    ReturnsInHanded {} Try.checked os 6 .any ((Rows.OpenSpec.upto Rows.buffersOrderSpec).pre6 enc Try.prog Try.f6 Rows.buffersOrderUptoRow.domain false) (((Rows.OpenSpec.upto Rows.buffersOrderSpec).at F).post enc Try.prog Try.f6 false true false false) := by
  refine returnsInHanded_of_cond (C := Try.checked) (s := Rows.OpenSpec.upto Rows.buffersOrderSpec) (k := Rows.uptoSmall) rfl own started (by kernel_rfl) Try.func6
    (OpenSpec.witness (enc := enc) (C := Try.checked) (s := Rows.OpenSpec.upto Rows.buffersOrderSpec) (k := Rows.uptoSmall) rfl false ⟨#[], #[.int .i64 0, .int .i64 0, .int .i64 0, .slice none 0 0, .slice none 0 0], []⟩ 8 (by kernel_rfl) (by kernel_rfl) (by kernel_rfl)
      (x := ([.lit (.int .i64 0), .lit (.int .i64 0), .lit (.int .i64 0), .nil, .nil], [], [])) (by kernel_rfl) rfl (by kernel_rfl)) ?_
  intro W base args ds gs before hval hW _ hk _
  exact contract H enc W base args ds gs before hval hW hk

theorem over : Rows.buffersOrderUptoRow.holds Try.pinned (Rows.OpenSpec.upto Rows.buffersOrderSpec) :=
  OpenClaim.holds_of_cond 6 Try.f6 rfl rfl rfl rfl rfl rfl rfl ⟨rfl, rfl, rfl, rfl, rfl⟩ rfl rfl rfl rfl rfl (by kernel_rfl) Try.func6 (by kernel_rfl)
    (of_decide_eq_true (by kernel_rfl)) (by unfold Func.isWrapper; first | (rw [if_pos (by decide +kernel)]; kernel_rfl) | (rw [if_neg (by decide +kernel)]; exact ⟨rfl, rfl⟩))
    (fun os started H enc _ F => lifted os started H enc F)

theorem proved : Rows.BuffersOrderUptoSaid :=
  over
end Go.Proofs.Ytppehoailhjdfab.buffersOrder

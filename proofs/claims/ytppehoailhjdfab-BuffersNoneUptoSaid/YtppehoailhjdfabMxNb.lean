/-
  What is proved: plunderlaw21.BuffersNone returns true. Condition: what it reads is of bulk at most 1048576 (it reads nothing).
-/
import Derived.Test.YtppehoailhjdfabMxNa
import Derived.Test.YtppehoailhjdfabMxV
import Derived.Test.YtppehoailhjdfabMb
import Derived.WalkKit
import Derived.ProofKit
import Derived.JoinedCond
namespace Go.Proofs.Ytppehoailhjdfab.buffersNone
open Go.ChangeShapes Go.WideShapes Go.ChangeAt Go.RowKit Go.Mx
set_option linter.unusedVariables false
set_option linter.unusedSimpArgs false
set_option maxRecDepth 100000

theorem own : ownKnob Try.prog.godebug = none := by kernel_rfl

theorem none_ {m : Option Addr} {h : Heap} {Q : Bool → Heap → Prop} (n : NoM h m) (hQ : Q true h) : CallT Try.prog 9 [Kd.val .ptr m] false .bool h Q :=
  law21_none.br (none_spec n buffers_Memory_has.br (fun h => buffers_Memory_View.br h) (fun h => buffers_Memory_Flush.br h) (fun h => buffers_Memory_Waiting.br h) (fun h => buffers_Memory_Cells.br h) (fun h => buffers_Memory_Log.br h) cells_Arena_Cells.br cells_Arena_Log.br hQ)
theorem bare_ {v : Option Addr} {h : Heap} {Q : Bool → Heap → Prop} (n : NoV h v) (hQ : Q true h) : CallT Try.prog 10 [Kd.val .ptr v] false .bool h Q :=
  law21_bare.br (bare_spec n buffers_View_none.br (fun h => buffers_View_Fence.br h) (fun h => buffers_View_Load.br h) (fun h => buffers_View_Store.br h) (fun h => buffers_View_CAS.br h) (fun h => buffers_View_Add.br h) (fun h => buffers_View_Reserve.br h) hQ)

theorem call (W : World) : CallT Try.prog 3 [] false .bool (view W) fun b h' => b = true ∧ le (view W) h' :=
  law21_BuffersNone.br (buffersNone_spec none_ bare_ (fun h' l => ⟨rfl, l⟩))

theorem contract (H : Type) (enc : TypeId × Value → H) (W : World) (base : Nat) (args : Array Value) (ds gs : List (DataW H)) (before : List MemPlace)
    (hval : ∀ (j : Nat) t v, Try.f3.params[j]? = some t → args[j]? = some v → Value.okWide Try.prog W .any base t v)
    (hW : DataW.Whole enc Try.prog Try.f3.params.toList Rows.buffersNoneSpec.vars false W args.toList ds gs before) (hk : Rows.uptoSmall H (ds ++ gs) = true) :
    Calls Try.prog 3 args W fun e W' => ∃ v, e = .returned v ∧ Rows.buffersNoneSpec.post enc Try.prog Try.f3 false true false false W args v W' := by
  have hW' := hW
  obtain ⟨p, q, hA, hV, rfl, hfz, hnd⟩ := hW
  obtain ⟨rfl, rfl⟩ := trodVars_none hV
  rw [List.append_nil] at hk
  have hB : Rows.uptoBulkAll ds ≤ 1048576 := of_decide_eq_true hk
  obtain ⟨es, e1, e2, e3⟩ := args_of (P := Try.prog) (base := base) (m := 3) (B := 1048576) (ts := Try.f3.params.toList) (ks := []) (by kernel_rfl) (fun j t v a _ => by simp at a) hA hB
  rcases es with _ | ⟨_, _⟩
  · rw [Try.params3] at hA
    obtain ⟨_, rfl, _⟩ := trodAll_nil hA
    refine law_post (bT := Try.f3.resultTypes.getD 0 0) (by kernel_rfl) (by kernel_rfl) (by kernel_rfl) rfl (by kernel_rfl) hW' (fun _ => ⟨rfl, rfl, rfl⟩) ?_
    rw [e2]
    exact call W
  · cases e1

theorem lifted (os : Os) (started : os.Started) (H : Type) (enc : TypeId × Value → H) (F : Stop.Interp) :
    ReturnsInHanded {} Try.checked os 3 .any ((Rows.OpenSpec.upto Rows.buffersNoneSpec).pre6 enc Try.prog Try.f3 Rows.buffersNoneUptoRow.domain false) (((Rows.OpenSpec.upto Rows.buffersNoneSpec).at F).post enc Try.prog Try.f3 false true false false) := by
  refine returnsInHanded_of_cond (C := Try.checked) (s := Rows.OpenSpec.upto Rows.buffersNoneSpec) (k := Rows.uptoSmall) rfl own started (by kernel_rfl) Try.func3
    (OpenSpec.witness (enc := enc) (C := Try.checked) (s := Rows.OpenSpec.upto Rows.buffersNoneSpec) (k := Rows.uptoSmall) rfl false ⟨#[], #[], []⟩ 8 (by kernel_rfl) (by kernel_rfl) (by kernel_rfl)
      (x := ([], [], [])) (by kernel_rfl) rfl (by kernel_rfl)) ?_
  intro W base args ds gs before hval hW _ hk _
  exact contract H enc W base args ds gs before hval hW hk

theorem over : Rows.buffersNoneUptoRow.holds Try.pinned (Rows.OpenSpec.upto Rows.buffersNoneSpec) :=
  OpenClaim.holds_of_cond 3 Try.f3 rfl rfl rfl rfl rfl rfl rfl ⟨rfl, rfl, rfl, rfl, rfl⟩ rfl rfl rfl rfl rfl (by kernel_rfl) Try.func3 (by kernel_rfl)
    (of_decide_eq_true (by kernel_rfl)) (by unfold Func.isWrapper; first | (rw [if_pos (by decide +kernel)]; kernel_rfl) | (rw [if_neg (by decide +kernel)]; exact ⟨rfl, rfl⟩))
    (fun os started H enc _ F => lifted os started H enc F)

theorem proved : Rows.BuffersNoneUptoSaid :=
  over
end Go.Proofs.Ytppehoailhjdfab.buffersNone

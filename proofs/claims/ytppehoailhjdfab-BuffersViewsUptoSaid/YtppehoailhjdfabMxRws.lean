/-
  What is proved: plunderlaw21.BuffersViews returns true and leaves its arguments as they were, for every input. Condition: what it reads is of bulk at most 1048576.
-/
import Derived.Test.YtppehoailhjdfabMxVp
import Derived.Test.YtppehoailhjdfabMxBj
import Derived.Test.YtppehoailhjdfabMxV
import Derived.Test.YtppehoailhjdfabMb
import Derived.WalkKit
import Derived.ProofKit
import Derived.JoinedCond
namespace Go.Proofs.Ytppehoailhjdfab.buffersViews
open Go.ChangeShapes Go.WideShapes Go.ChangeAt Go.RowKit Go.Mx
set_option linter.unusedVariables false
set_option linter.unusedSimpArgs false
set_option maxRecDepth 100000

theorem own : ownKnob Try.prog.godebug = none := by kernel_rfl

theorem rrefJ : RRefC fun x0 h K => CallT Try.prog 100 [Kd.val (.int .i64) x0] false KEf h K := fun a => ref2_refused.br (rref_spec a)
theorem rnoteJ : RNoteC fun x0 x1 h K => CallT Try.prog 102 [Kd.val .ptr x0, Kd.val KAcc x1] true .nil h K := fun a b c => ref2_Arena_note.br (rnote_spec a b c)
theorem rresJ : RResC fun x0 x1 h K => CallT Try.prog 101 [Kd.val .ptr x0, Kd.val (.int .i64) x1] false KEf h K := fun a b c d e f g => ref2_Arena_reserve.br (rres_spec rrefJ rnoteJ a b c d e f g)
theorem rdoJ : RDoC fun x0 x1 h K => CallT Try.prog 89 [Kd.val .ptr x0, Kd.val KMv x1] false KEf h K := fun a b c d e => ref2_Arena_Do.br (rdo_spec rrefJ rresJ rnoteJ a b c d e)
theorem rflushJ : RFlushC fun x0 x1 h K => CallT Try.prog 54 [Kd.val .ptr x0, Kd.val (.int .i64) x1] false .bool h K := fun a b c d e => ref21_Memory_Flush.br (rflush_spec rdoJ a b c d e)
theorem rdrainJ : RDrainC fun x0 x1 h K => CallT Try.prog 53 [Kd.val .ptr x0, Kd.val (.int .i64) x1] true .nil h K := fun a b c d e => ref21_Memory_Drain.br (rdrain_spec rflushJ a b c d e)
theorem rinJ : RInC fun x0 x1 h K => CallT Try.prog 99 [Kd.val .ptr x0, Kd.val (.int .i64) x1] false .bool h K := fun a b => ref21_Memory_inUse.br (rin_spec a b)
theorem rrefuJ : RRefuC fun x0 x1 h K => CallT Try.prog 88 [Kd.val .ptr x0, Kd.val KMv x1] false (.int .i64) h K := fun a b c => ref21_Memory_refused.br (rrefu_spec rinJ a b c)
theorem ractJ : RActC fun x0 x1 x2 h K => CallT Try.prog 52 [Kd.val .ptr x0, Kd.val (.int .i64) x1, Kd.val KMv x2] false KEf h K := fun a b c d e => ref21_Memory_Do.br (ract_spec rdrainJ rrefuJ rflushJ rdoJ a b c d e)
theorem ranewJ : RANewC fun x0 h K => CallT Try.prog 48 [Kd.val (.int .i64) x0] true KPl h K := fun a b => ref2_New.br (ranew_spec a b)
theorem rnewJ : RNewC fun x0 x1 x2 h K => CallT Try.prog 11 [Kd.val (.int .i64) x0, Kd.val (.int .i64) x1, Kd.val (.int .i64) x2] true KPl h K := fun a b => ref21_New.br (rnew_spec ranewJ a b)
theorem sameNJ : SameNC fun x0 x1 h K => CallT Try.prog 15 [Kd.val .sl x0, Kd.val .sl x1] false .bool h K := fun a b c d => law21_sameNumbers.br (sameNumbers_spec a b c d)
theorem sameLJ : SameKC KAcc fun x0 x1 h K => CallT Try.prog 17 [Kd.val .sl x0, Kd.val .sl x1] false .bool h K := fun a b c d => law21_sameLog.br (sameL_spec a b c d)
theorem sameWaJ : SameKC KWt fun x0 x1 h K => CallT Try.prog 32 [Kd.val .sl x0, Kd.val .sl x1] false .bool h K := fun a b c d => law21_sameWaits.br (sameW_spec a b c d)
theorem hasNJ : HasNil fun x0 x1 h K => CallT Try.prog 75 [Kd.val .ptr x0, Kd.val (.int .i64) x1] false .bool h K := fun q => buffers_Memory_has.br (hasNil_spec q)
theorem noneNJ : NoneNil fun x0 x1 h K => CallT Try.prog 79 [Kd.val .ptr x0, Kd.val (.int .i64) x1] false .bool h K := fun q => buffers_View_none.br (noneNil_spec (cm := fun _ _ _ => False) q)
theorem nilMJ : NilM (fun x0 x1 h K => CallT Try.prog 39 [Kd.val .ptr x0, Kd.val (.int .i64) x1] false .ptr h K) (fun x0 x1 h K => CallT Try.prog 40 [Kd.val .ptr x0, Kd.val (.int .i64) x1] false .bool h K) (fun x0 x1 h K => CallT Try.prog 41 [Kd.val .ptr x0, Kd.val (.int .i64) x1] false .sl h K) (fun x0 h K => CallT Try.prog 16 [Kd.val .ptr x0] false .sl h K) (fun x0 h K => CallT Try.prog 18 [Kd.val .ptr x0] false .sl h K) where
  v := fun q => buffers_Memory_View.br (hasNJ ⟨fun _ => q, fun e => (by cases e)⟩)
  f := fun q => buffers_Memory_Flush.br (hasNJ ⟨fun _ => ⟨fun _ => q, fun e => (by cases e)⟩, fun e => (by cases e)⟩)
  w := fun q => buffers_Memory_Waiting.br (hasNJ ⟨fun _ => q, fun e => (by cases e)⟩)
  c := fun q => buffers_Memory_Cells.br ⟨fun _ => q, fun e => (by cases e)⟩
  l := fun q => buffers_Memory_Log.br ⟨fun _ => q, fun e => (by cases e)⟩
theorem nilVJ : NilV (fun x0 x1 h K => CallT Try.prog 43 [Kd.val .ptr x0, Kd.val (.int .i64) x1] true K2 h K) (fun x0 x1 x2 h K => CallT Try.prog 44 [Kd.val .ptr x0, Kd.val (.int .i64) x1, Kd.val (.int .i64) x2] false (.int .i64) h K) (fun x0 x1 x2 x3 h K => CallT Try.prog 45 [Kd.val .ptr x0, Kd.val (.int .i64) x1, Kd.val (.int .i64) x2, Kd.val (.int .i64) x3] true (.pair .bool (.pair (.int .i64) .nil)) h K) (fun x0 x1 x2 h K => CallT Try.prog 46 [Kd.val .ptr x0, Kd.val (.int .i64) x1, Kd.val (.int .i64) x2] true K2 h K) (fun x0 x1 h K => CallT Try.prog 47 [Kd.val .ptr x0, Kd.val (.int .i64) x1] true K2 h K) where
  ld := fun q => buffers_View_Load.br (noneNJ ⟨fun _ => q, fun e => (by cases e)⟩)
  st := fun q => buffers_View_Store.br (noneNJ ⟨fun _ => q, fun e => (by cases e)⟩)
  cas := fun q => buffers_View_CAS.br (noneNJ ⟨fun _ => q, fun e => (by cases e)⟩)
  add := fun q => buffers_View_Add.br (noneNJ ⟨fun _ => q, fun e => (by cases e)⟩)
  res := fun {h n Q} hQ => buffers_View_Reserve.br (by
    refine ⟨fun e => ?_, fun e => ⟨fun _ => ⟨fun _ => ?_, fun f => (by cases f)⟩, fun f => (by cases f)⟩⟩
    · rw [if_pos (of_decide_eq_true e)] at hQ; exact hQ
    · rw [if_neg (of_decide_eq_false e)] at hQ; exact hQ)
theorem nilFJ : NilF fun x0 h K => CallT Try.prog 42 [Kd.val .ptr x0] true .nil h K := fun q => buffers_View_Fence.br (nilF_spec q)
theorem byJ : ByC fun x0 x1 h K => CallT Try.prog 51 [Kd.val .ptr x0, Kd.val KMv x1] false KEf h K := ⟨fun a b => law21_by.br ((by_spec nilVJ vloadJ vstoreJ vcasJ vaddJ vresJ).1 a b), fun a b c d e f => law21_by.br ((by_spec nilVJ vloadJ vstoreJ vcasJ vaddJ vresJ).2 a b c d e f)⟩
theorem badInJ : BadInC fun x0 x1 h K => CallT Try.prog 99 [Kd.val .ptr x0, Kd.val (.int .i64) x1] false .bool h K := fun a b => ref21_Memory_inUse.br (badIn_spec a b)
theorem badRefJ : BadRefC fun x0 x1 h K => CallT Try.prog 88 [Kd.val .ptr x0, Kd.val KMv x1] false (.int .i64) h K := fun a b => ref21_Memory_refused.br (badRef_spec badInJ a b)
theorem badDoJ : BadDoC fun x0 x1 x2 h K => CallT Try.prog 52 [Kd.val .ptr x0, Kd.val (.int .i64) x1, Kd.val KMv x2] false KEf h K := fun a b c => ref21_Memory_Do.br (badDo_spec badRefJ a b c)
theorem badDrJ : BadDrC fun x0 x1 h K => CallT Try.prog 53 [Kd.val .ptr x0, Kd.val (.int .i64) x1] true .nil h K := fun a b => ref21_Memory_Drain.br (badDr_spec a b)
theorem badFlJ : BadFlC fun x0 x1 h K => CallT Try.prog 54 [Kd.val .ptr x0, Kd.val (.int .i64) x1] false .bool h K := fun a b => ref21_Memory_Flush.br (badFl_spec a b)
theorem keepJ : KeepC fun x0 x1 x2 x3 h K => CallT Try.prog 55 [Kd.val .ptr x0, Kd.val .sl x1, Kd.val .sl x2, Kd.val .sl x3] true .nil h K := fun a b c d e f g i j k l m => law21_shelf_keep.br (keep_spec a b c d e f g i j k l m)
theorem standJ : StandC fun x0 h K => CallT Try.prog 14 [Kd.val .ptr x0] false .bool h K := fun a b c => law21_shelf_stands.br (stands_spec a b c)
theorem movedJ : MovedC fun x0 x1 x2 x3 h K => CallT Try.prog 13 [Kd.val .ptr x0, Kd.val .ptr x1, Kd.val KMv x2, Kd.val .ptr x3] false .bool h K := fun a b c d e f => law21_moved.br (moved_spec nilMJ nilFJ viewJ rnewJ byJ ractJ badDoJ vfenceJ rdrainJ badDrJ flushJ rflushJ badFlJ waitJ sameWaJ keepJ cellsJ sameNJ logJ sameLJ a b c d e f)
theorem kwJ : KpC KWt fun x0 x1 x2 h K => CallT Try.prog 90 [Kd.val .ptr x0, Kd.val .sl x1, Kd.val .sl x2] false .bool h K := fun a b c d e f g i => law21_Kept_waits.br (kwaits_spec sameWaJ a b c d e f g i)
theorem knJ : KpC ki fun x0 x1 x2 h K => CallT Try.prog 91 [Kd.val .ptr x0, Kd.val .sl x1, Kd.val .sl x2] false .bool h K := fun a b c d e f g i => law21_Kept_numbers.br (knumbers_spec sameNJ a b c d e f g i)
theorem kaJ : KpC KAcc fun x0 x1 x2 h K => CallT Try.prog 92 [Kd.val .ptr x0, Kd.val .sl x1, Kd.val .sl x2] false .bool h K := fun a b c d e f g i => law21_Kept_accesses.br (kaccs_spec sameLJ a b c d e f g i)
theorem askJ : AskedC fun x0 x1 x2 h K => CallT Try.prog 58 [Kd.val .ptr x0, Kd.val .ptr x1, Kd.val .ptr x2] false .bool h K := fun a b c d e f g => law21_Kept_asked.br (asked_spec waitJ kwJ cellsJ nilMJ.c knJ logJ nilMJ.l kaJ a b c d e f g)
theorem aloneJ : AloneC fun x0 h K => CallT Try.prog 59 [Kd.val .ptr x0] false .bool h K := fun a b c => law21_Kept_alone.br (alone_spec sameWaJ sameNJ sameLJ keepJ standJ a b c)
theorem untJ : UntoldC fun x0 x1 x2 x3 h K => CallT Try.prog 19 [Kd.val (.int .i64) x0, Kd.val (.int .i64) x1, Kd.val (.int .i64) x2, Kd.val .sl x3] false .bool h K := fun a b c d => law21_untold.br (untold_spec rnewJ bnewJ movedJ askJ aloneJ a b c d)
theorem call (size actors room : Int) (moves : Sl) (W : World) (ms : List AMv) (hm : Arr (view W) KMv moves ms) (hb : ms.length ≤ 1048576) :
    CallT Try.prog 4 [Kd.val (.int .i64) size, Kd.val (.int .i64) actors, Kd.val (.int .i64) room, Kd.val .sl moves] false .bool (view W) fun b h' => b = true ∧ le (view W) h' :=
  law21_BuffersViews.br (views_spec rnewJ bnewJ movedJ standJ cellsJ nilMJ.c sameNJ logJ nilMJ.l sameLJ untJ hm hb fun h' l => ⟨rfl, l⟩)

theorem contract (H : Type) (enc : TypeId × Value → H) (W : World) (base : Nat) (args : Array Value) (ds gs : List (DataW H)) (before : List MemPlace)
    (hval : ∀ (j : Nat) t v, Try.f4.params[j]? = some t → args[j]? = some v → Value.okWide Try.prog W .any base t v)
    (hW : DataW.Whole enc Try.prog Try.f4.params.toList Rows.buffersViewsSpec.vars false W args.toList ds gs before) (hk : Rows.uptoSmall H (ds ++ gs) = true) :
    Calls Try.prog 4 args W fun e W' => ∃ v, e = .returned v ∧ Rows.buffersViewsSpec.post enc Try.prog Try.f4 false true false false W args v W' := by
  have hW' := hW
  obtain ⟨p, q, hA, hV, rfl, hfz, hnd⟩ := hW
  obtain ⟨rfl, rfl⟩ := trodVars_none hV
  rw [List.append_nil] at hk
  have hB : Rows.uptoBulkAll ds ≤ 1048576 := of_decide_eq_true hk
  obtain ⟨es, e1, e2, e3⟩ := args_of (P := Try.prog) (base := base) (m := 6) (B := 1048576) (ts := Try.f4.params.toList) (ks := [.int .i64, .int .i64, .int .i64, .sl]) (by kernel_rfl) (fun j t v a b => hval j t v (by simpa using a) (by simpa using b)) hA hB
  rcases es with _ | ⟨⟨k1, x1⟩, _ | ⟨⟨k2, x2⟩, _ | ⟨⟨k3, x3⟩, _ | ⟨⟨k4, x4⟩, _ | ⟨_, _⟩⟩⟩⟩⟩
  · cases e1
  · cases e1
  · cases e1
  · cases e1
  · simp only [List.map_cons, List.map_nil, List.cons.injEq, and_true] at e1
    obtain ⟨rfl, rfl, rfl, rfl⟩ := e1
    rw [Try.params4] at e3 hA
    obtain ⟨f1, f2, f3, f4, _⟩ := e3
    obtain ⟨ms, g1, g2, _⟩ := f4.arr (ke := KMv) (by kernel_rfl)
    obtain ⟨v0, vs0, d0, ds0, p0, q0, _, rfl, _, _, r0⟩ := trodAll_cons hA
    obtain ⟨v1, vs1, d1, ds1, p1, q1, _, rfl, _, _, r1⟩ := trodAll_cons r0
    obtain ⟨v2, vs2, d2, ds2, p2, q2, _, rfl, _, _, r2⟩ := trodAll_cons r1
    obtain ⟨v3, vs3, d3, ds3, p3, q3, _, rfl, _, _, r3⟩ := trodAll_cons r2
    obtain ⟨_, rfl, _⟩ := trodAll_nil r3
    refine law_post (bT := Try.f4.resultTypes.getD 0 0) (by kernel_rfl) (by kernel_rfl) (by kernel_rfl) rfl (by kernel_rfl) hW' (fun _ => ⟨rfl, rfl, rfl⟩) ?_
    rw [e2]
    exact call x1 x2 x3 x4 W ms g1 (by rw [g1.1]; exact g2)
  · cases e1

theorem lifted (os : Os) (started : os.Started) (H : Type) (enc : TypeId × Value → H) (F : Stop.Interp) :
    ReturnsInHanded {} Try.checked os 4 .any ((Rows.OpenSpec.upto Rows.buffersViewsSpec).pre6 enc Try.prog Try.f4 Rows.buffersViewsUptoRow.domain false) (((Rows.OpenSpec.upto Rows.buffersViewsSpec).at F).post enc Try.prog Try.f4 false true false false) := by
  refine returnsInHanded_of_cond (C := Try.checked) (s := Rows.OpenSpec.upto Rows.buffersViewsSpec) (k := Rows.uptoSmall) rfl own started (by kernel_rfl) Try.func4
    (OpenSpec.witness (enc := enc) (C := Try.checked) (s := Rows.OpenSpec.upto Rows.buffersViewsSpec) (k := Rows.uptoSmall) rfl false ⟨#[], #[.int .i64 0, .int .i64 0, .int .i64 0, .slice none 0 0], []⟩ 8 (by kernel_rfl) (by kernel_rfl) (by kernel_rfl)
      (x := ([.lit (.int .i64 0), .lit (.int .i64 0), .lit (.int .i64 0), .nil], [], [])) (by kernel_rfl) rfl (by kernel_rfl)) ?_
  intro W base args ds gs before hval hW _ hk _
  exact contract H enc W base args ds gs before hval hW hk

theorem over : Rows.buffersViewsUptoRow.holds Try.pinned (Rows.OpenSpec.upto Rows.buffersViewsSpec) :=
  OpenClaim.holds_of_cond 4 Try.f4 rfl rfl rfl rfl rfl rfl rfl ⟨rfl, rfl, rfl, rfl, rfl⟩ rfl rfl rfl rfl rfl (by kernel_rfl) Try.func4 (by kernel_rfl)
    (of_decide_eq_true (by kernel_rfl)) (by unfold Func.isWrapper; first | (rw [if_pos (by decide +kernel)]; kernel_rfl) | (rw [if_neg (by decide +kernel)]; exact ⟨rfl, rfl⟩))
    (fun os started H enc _ F => lifted os started H enc F)

theorem proved : Rows.BuffersViewsUptoSaid :=
  over
end Go.Proofs.Ytppehoailhjdfab.buffersViews

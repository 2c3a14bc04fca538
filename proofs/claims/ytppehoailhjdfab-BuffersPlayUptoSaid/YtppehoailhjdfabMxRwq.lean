/-
  What is proved: plunderlaw21.BuffersPlay returns true and leaves its arguments as they were, for every input. Condition: what it reads is of bulk at most 1048576.
-/
import Derived.Test.YtppehoailhjdfabMxVj
import Derived.Test.YtppehoailhjdfabMxVe
import Derived.Test.YtppehoailhjdfabMxBj
import Derived.Test.YtppehoailhjdfabMxV
import Derived.Test.YtppehoailhjdfabMb
import Derived.WalkKit
import Derived.ProofKit
import Derived.JoinedCond
namespace Go.Proofs.Ytppehoailhjdfab.buffersPlay
open Go.ChangeShapes Go.WideShapes Go.ChangeAt Go.RowKit Go.Mx
set_option linter.unusedVariables false
set_option linter.unusedSimpArgs false
set_option maxRecDepth 100000

theorem own : ownKnob Try.prog.godebug = none := by kernel_rfl

theorem rrefJ : RRefC fun x0 h K => CallT Try.prog 100 [Kd.val (.int .i64) x0] false KEf h K := fun a => ref2_refused.br (rref_spec a)
theorem rnoteJ : RNoteC fun x0 x1 h K => CallT Try.prog 102 [Kd.val .ptr x0, Kd.val KAcc x1] true .nil h K := fun a b c => ref2_Arena_note.br (rnote_spec a b c)
theorem rresJ : RResC fun x0 x1 h K => CallT Try.prog 101 [Kd.val .ptr x0, Kd.val (.int .i64) x1] false KEf h K := fun a b c d e f g => ref2_Arena_reserve.br (rres_spec rrefJ rnoteJ a b c d e f g)
theorem rdoJ : RDoC fun x0 x1 h K => CallT Try.prog 89 [Kd.val .ptr x0, Kd.val KMv x1] false KEf h K := fun a b c d e => ref2_Arena_Do.br (rdo_spec rrefJ rresJ rnoteJ a b c d e)
theorem rflushJ : RFlushC fun x0 x1 h K => CallT Try.prog 54 [Kd.val .ptr x0, Kd.val (.int .i64) x1] false .bool h K := fun a b c d e => ref21_Memory_Flush.br (rflush_spec rdoJ a b c d e)
theorem rdrainJ : RDrainC fun x0 x1 h K => CallT Try.prog 53 [Kd.val .ptr x0, Kd.val (.int .i64) x1] true .nil h K := fun a b c d e => ref21_Memory_Drain.br (rdrain_spec rflushJ a b c d e)
theorem rinJ : RInC fun x0 x1 h K => CallT Try.prog 99 [Kd.val .ptr x0, Kd.val (.int .i64) x1] false .bool h K := fun a b => ref21_Memory_inUse.br (rin_spec a b)
theorem rrefuJ : RRefuC fun x0 x1 h K => CallT Try.prog 88 [Kd.val .ptr x0, Kd.val KMv x1] false (.int .i64) h K := fun a b c => ref21_Memory_refused.br (rrefu_spec rinJ a b c)
theorem ractJ : RActC fun x0 x1 x2 h K => CallT Try.prog 52 [Kd.val .ptr x0, Kd.val (.int .i64) x1, Kd.val KMv x2] false KEf h K := fun a b c d e => ref21_Memory_Do.br (ract_spec rdrainJ rrefuJ rflushJ rdoJ a b c d e)
theorem ranewJ : RANewC fun x0 h K => CallT Try.prog 48 [Kd.val (.int .i64) x0] true KPl h K := fun a b => ref2_New.br (ranew_spec a b)
theorem rnewJ : RNewC fun x0 x1 x2 h K => CallT Try.prog 11 [Kd.val (.int .i64) x0, Kd.val (.int .i64) x1, Kd.val (.int .i64) x2] true KPl h K := fun a b => ref21_New.br (rnew_spec ranewJ a b)
theorem rusingJ : RUsingC fun x0 x1 x2 x3 h K => CallT Try.prog 61 [Kd.val (.int .i64) x0, Kd.val (.int .i64) x1, Kd.val (.int .i64) x2, Kd.val (.int .i64) x3] false .ptr h K := fun a b c d e f g i => ref21_using.br (rusing_spec rnewJ a b c d e f g i)
theorem rmodJ : ModC fun x0 x1 h K => CallT Try.prog 62 [Kd.val (.int .i64) x0, Kd.val (.int .i64) x1] false (.int .i64) h K := fun a b c => ref21_mod.br (rmod_spec a b c)
theorem refusesJ : JudgedC fun x0 x1 x2 x3 x4 h K => CallT Try.prog 60 [Kd.val (.int .i64) x0, Kd.val (.int .i64) x1, Kd.val (.int .i64) x2, Kd.val .sl x3, Kd.val .sl x4] false (.int .i64) h K := fun a b c => ref21_Refuses.br (refuses_spec a b c)
theorem rplayJ : PlayC fun x0 x1 x2 x3 x4 h K => CallT Try.prog 20 [Kd.val (.int .i64) x0, Kd.val (.int .i64) x1, Kd.val (.int .i64) x2, Kd.val .sl x3, Kd.val .sl x4] true (.pair KRun (.pair (.int .i64) .nil)) h K := fun a b c d => ref21_Play.br (rplay_spec rmodJ rflushJ ractJ refusesJ rusingJ a b c d)
theorem oddJ : OddC fun x0 h K => CallT Try.prog 63 [Kd.val (.int .i64) x0] false KMv h K := fun a => law21_odd.br (odd_spec a)
theorem wrapJ : WrapC fun x0 h K => CallT Try.prog 21 [Kd.val .sl x0] false KGift h K := fun a b c d => law21_wrap.br (wrap_spec oddJ a b c d)
theorem spareJ : SpareC fun x0 h K => CallT Try.prog 22 [Kd.val .sl x0] false .sl h K := fun a b c => law21_spare.br (spare_spec a b c)
theorem turnJ : TurnC fun x0 h K => CallT Try.prog 70 [Kd.val .sl x0] false .sl h K := fun a b c d => law21_turned.br (turn_spec a b c d)
theorem layJ : LayC fun x0 x1 h K => CallT Try.prog 72 [Kd.val .sl x0, Kd.val .sl x1] true .nil h K := fun a b c d e f g => law21_lay.br (lay_spec a b c d e f g)
theorem aroundJ : AroundC fun x0 h K => CallT Try.prog 71 [Kd.val .sl x0] false .sl h K := fun a b c => law21_around.br (around_spec a b c)
theorem sameNJ : SameNC fun x0 x1 h K => CallT Try.prog 15 [Kd.val .sl x0, Kd.val .sl x1] false .bool h K := fun a b c d => law21_sameNumbers.br (sameNumbers_spec a b c d)
theorem sameLJ : SameKC KAcc fun x0 x1 h K => CallT Try.prog 17 [Kd.val .sl x0, Kd.val .sl x1] false .bool h K := fun a b c d => law21_sameLog.br (sameL_spec a b c d)
theorem sameEJ : SameKC KEf fun x0 x1 h K => CallT Try.prog 68 [Kd.val .sl x0, Kd.val .sl x1] false .bool h K := fun a b c d => law21_sameEffects.br (sameE_spec a b c d)
theorem sameWaJ : SameKC KWt fun x0 x1 h K => CallT Try.prog 32 [Kd.val .sl x0, Kd.val .sl x1] false .bool h K := fun a b c d => law21_sameWaits.br (sameW_spec a b c d)
theorem sameAJ : SameKC KMv fun x0 x1 h K => CallT Try.prog 69 [Kd.val .sl x0, Kd.val .sl x1] false .bool h K := fun a b c d => law21_sameActs.br (sameA_spec a b c d)
theorem sameIJ : SameNC fun x0 x1 h K => CallT Try.prog 27 [Kd.val .sl x0, Kd.val .sl x1] false .bool h K := fun a b c d => law21_sameInts.br (sameI_spec a b c d)
theorem sameRJ : SameRC fun x0 x1 h K => CallT Try.prog 24 [Kd.val KRun x0, Kd.val KRun x1] false .bool h K := fun a b c d => law21_sameRun.br (sameRun_spec sameNJ sameLJ sameEJ sameWaJ a b c d)
theorem spoilJ : SpoilC fun x0 h K => CallT Try.prog 25 [Kd.val KRun x0] false .bool h K := fun a b c => law21_spoil.br (spoil_spec a b c)
theorem untJ : UntC fun x0 x1 h K => CallT Try.prog 26 [Kd.val KGift x0, Kd.val .sl x1] false .bool h K := fun a b c d e => law21_gift_untouched.br (unt_spec sameAJ oddJ a b c d e)
theorem placedJ : PlacedC fun x0 x1 x2 x3 x4 h K => CallT Try.prog 28 [Kd.val (.int .i64) x0, Kd.val (.int .i64) x1, Kd.val (.int .i64) x2, Kd.val .sl x3, Kd.val .sl x4] false .bool h K := fun a b c d e f => law21_playPlaced.br (placed_spec turnJ aroundJ wrapJ spareJ (playN_of bplayJ) layJ (playN_of rplayJ) sameRJ a b c d e f)
theorem call (size used room : Int) (lists picks : Sl) (W : World) (ls : List (List AMv)) (ps : List Int) (hl : Arr2 (view W) KMv lists ls) (hp : Arr (view W) ki picks ps) (b1 : ls.length ≤ 1048576) (b2 : ∀ l ∈ ls, l.length ≤ 1048576) (b3 : ps.length ≤ 1048576) :
    CallT Try.prog 5 [Kd.val (.int .i64) size, Kd.val (.int .i64) used, Kd.val (.int .i64) room, Kd.val .sl lists, Kd.val .sl picks] false .bool (view W) fun b h' => b = true ∧ le (view W) h' :=
  law21_BuffersPlay.br (play_law (playN_of rplayJ) wrapJ spareJ (playN_of bplayJ) sameRJ spoilJ untJ sameIJ placedJ hl hp b1 b2 b3 fun h' l => ⟨rfl, l⟩)

theorem contract (H : Type) (enc : TypeId × Value → H) (W : World) (base : Nat) (args : Array Value) (ds gs : List (DataW H)) (before : List MemPlace)
    (hval : ∀ (j : Nat) t v, Try.f5.params[j]? = some t → args[j]? = some v → Value.okWide Try.prog W .any base t v)
    (hW : DataW.Whole enc Try.prog Try.f5.params.toList Rows.buffersPlaySpec.vars false W args.toList ds gs before) (hk : Rows.uptoSmall H (ds ++ gs) = true) :
    Calls Try.prog 5 args W fun e W' => ∃ v, e = .returned v ∧ Rows.buffersPlaySpec.post enc Try.prog Try.f5 false true false false W args v W' := by
  have hW' := hW
  obtain ⟨p, q, hA, hV, rfl, hfz, hnd⟩ := hW
  obtain ⟨rfl, rfl⟩ := trodVars_none hV
  rw [List.append_nil] at hk
  have hB : Rows.uptoBulkAll ds ≤ 1048576 := of_decide_eq_true hk
  obtain ⟨es, e1, e2, e3⟩ := args_of (P := Try.prog) (base := base) (m := 6) (B := 1048576) (ts := Try.f5.params.toList) (ks := [.int .i64, .int .i64, .int .i64, .sl, .sl]) (by kernel_rfl) (fun j t v a b => hval j t v (by simpa using a) (by simpa using b)) hA hB
  rcases es with _ | ⟨⟨k1, x1⟩, _ | ⟨⟨k2, x2⟩, _ | ⟨⟨k3, x3⟩, _ | ⟨⟨k4, x4⟩, _ | ⟨⟨k5, x5⟩, _ | ⟨_, _⟩⟩⟩⟩⟩⟩
  · cases e1
  · cases e1
  · cases e1
  · cases e1
  · cases e1
  · simp only [List.map_cons, List.map_nil, List.cons.injEq, and_true] at e1
    obtain ⟨rfl, rfl, rfl, rfl, rfl⟩ := e1
    rw [Try.params5] at e3 hA
    obtain ⟨f1, f2, f3, f4, f5, _⟩ := e3
    obtain ⟨ls, g1, g3, g4⟩ := DataOf.arr2 (m := 4) (ke := KMv) f4 (by kernel_rfl) (by kernel_rfl)
    obtain ⟨ps, g2, g5, _⟩ := f5.arr (ke := ki) (by kernel_rfl)
    obtain ⟨v0, vs0, d0, ds0, p0, q0, _, rfl, _, _, r0⟩ := trodAll_cons hA
    obtain ⟨v1, vs1, d1, ds1, p1, q1, _, rfl, _, _, r1⟩ := trodAll_cons r0
    obtain ⟨v2, vs2, d2, ds2, p2, q2, _, rfl, _, _, r2⟩ := trodAll_cons r1
    obtain ⟨v3, vs3, d3, ds3, p3, q3, _, rfl, _, _, r3⟩ := trodAll_cons r2
    obtain ⟨v4, vs4, d4, ds4, p4, q4, _, rfl, _, _, r4⟩ := trodAll_cons r3
    obtain ⟨_, rfl, _⟩ := trodAll_nil r4
    refine law_post (bT := Try.f5.resultTypes.getD 0 0) (by kernel_rfl) (by kernel_rfl) (by kernel_rfl) rfl (by kernel_rfl) hW' (fun _ => ⟨rfl, rfl, rfl⟩) ?_
    rw [e2]
    exact call x1 x2 x3 x4 x5 W ls ps g1 g2 g3 g4 (by rw [g2.1]; exact g5)
  · cases e1

theorem lifted (os : Os) (started : os.Started) (H : Type) (enc : TypeId × Value → H) (F : Stop.Interp) :
    ReturnsInHanded {} Try.checked os 5 .any ((Rows.OpenSpec.upto Rows.buffersPlaySpec).pre6 enc Try.prog Try.f5 Rows.buffersPlayUptoRow.domain false) (((Rows.OpenSpec.upto Rows.buffersPlaySpec).at F).post enc Try.prog Try.f5 false true false false) := by
  refine returnsInHanded_of_cond (C := Try.checked) (s := Rows.OpenSpec.upto Rows.buffersPlaySpec) (k := Rows.uptoSmall) rfl own started (by kernel_rfl) Try.func5
    (OpenSpec.witness (enc := enc) (C := Try.checked) (s := Rows.OpenSpec.upto Rows.buffersPlaySpec) (k := Rows.uptoSmall) rfl false ⟨#[], #[.int .i64 0, .int .i64 0, .int .i64 0, .slice none 0 0, .slice none 0 0], []⟩ 8 (by kernel_rfl) (by kernel_rfl) (by kernel_rfl)
      (x := ([.lit (.int .i64 0), .lit (.int .i64 0), .lit (.int .i64 0), .nil, .nil], [], [])) (by kernel_rfl) rfl (by kernel_rfl)) ?_
  intro W base args ds gs before hval hW _ hk _
  exact contract H enc W base args ds gs before hval hW hk

theorem over : Rows.buffersPlayUptoRow.holds Try.pinned (Rows.OpenSpec.upto Rows.buffersPlaySpec) :=
  OpenClaim.holds_of_cond 5 Try.f5 rfl rfl rfl rfl rfl rfl rfl ⟨rfl, rfl, rfl, rfl, rfl⟩ rfl rfl rfl rfl rfl (by kernel_rfl) Try.func5 (by kernel_rfl)
    (of_decide_eq_true (by kernel_rfl)) (by unfold Func.isWrapper; first | (rw [if_pos (by decide +kernel)]; kernel_rfl) | (rw [if_neg (by decide +kernel)]; exact ⟨rfl, rfl⟩))
    (fun os started H enc _ F => lifted os started H enc F)

theorem proved : Rows.BuffersPlayUptoSaid :=
  over
end Go.Proofs.Ytppehoailhjdfab.buffersPlay

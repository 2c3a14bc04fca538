/-
  What is proved: plunderlaw21.BuffersCalm returns true and leaves its arguments as they were, for every input. Condition: what it reads is of bulk at most 1048576.
-/
import Derived.Test.YthkjfdbmkggemaaMxGb
import Derived.Test.YthkjfdbmkggemaaMxBj
import Derived.Test.YthkjfdbmkggemaaMxV
import Derived.Test.YthkjfdbmkggemaaMb
import Derived.WalkKit
import Derived.ProofKit
import Derived.JoinedCond
namespace Go.Proofs.Ythkjfdbmkggemaa.buffersCalm
open Go.ChangeShapes Go.WideShapes Go.ChangeAt Go.RowKit Go.Mx
set_option linter.unusedVariables false
set_option linter.unusedSimpArgs false
set_option maxRecDepth 100000

theorem own : ownKnob Try.prog.godebug = none := by kernel_rfl

theorem loadEJ : LoadE fun x0 x1 h K => CallT Try.prog 62 [Kd.val .ptr x0, Kd.val (.int .i64) x1] true K2 h K := fun o hl hE hQ => cells_Arena_Load.br (load_spec o hl cells_ledger_has.br (fun h => cells_Arena_outside.br h) cells_Arena_note.br hE hQ)
theorem storeEJ : StoreE fun x0 x1 x2 h K => CallT Try.prog 54 [Kd.val .ptr x0, Kd.val (.int .i64) x1, Kd.val (.int .i64) x2] false (.int .i64) h K := fun o hl hE hQ => cells_Arena_Store.br (store_spec o hl cells_ledger_has.br (fun h => cells_Arena_outside.br h) cells_Arena_note.br hE hQ)
theorem casEJ : CasE fun x0 x1 x2 x3 h K => CallT Try.prog 63 [Kd.val .ptr x0, Kd.val (.int .i64) x1, Kd.val (.int .i64) x2, Kd.val (.int .i64) x3] true (.pair .bool (.pair (.int .i64) .nil)) h K := fun o hl hE hQ => cells_Arena_CAS.br (cas_spec o hl cells_ledger_has.br (fun h => cells_Arena_outside.br h) cells_Arena_note.br hE hQ)
theorem addEJ : AddE fun x0 x1 x2 h K => CallT Try.prog 64 [Kd.val .ptr x0, Kd.val (.int .i64) x1, Kd.val (.int .i64) x2] true K2 h K := fun o hl hE hQ => cells_Arena_Add.br (add_spec o hl cells_ledger_has.br (fun h => cells_Arena_outside.br h) cells_Arena_note.br hE hQ)
theorem resEJ : ResE fun x0 x1 h K => CallT Try.prog 51 [Kd.val .ptr x0, Kd.val (.int .i64) x1] true K2 h K := fun o hl hf hz hC hR hQ => cells_Arena_Reserve.br (reserve_spec o hl hf hz cells_ledger_refuse.br cells_ledger_take.br cells_Arena_note.br hC hR hQ)
theorem aactJ : AActC fun x0 x1 h K => CallT Try.prog 36 [Kd.val .ptr x0, Kd.val KMv x1] false KEf h K := fun o hl hf hz hQ => cells_Arena_act.br (aact_spec whoJ loadEJ storeEJ casEJ addEJ resEJ o hl hf hz hQ)
theorem cplayJ : CPlayC fun x0 x1 h K => CallT Try.prog 12 [Kd.val (.int .i64) x0, Kd.val .sl x1] true (.pair KCr (.pair (.int .i64) .nil)) h K := fun a b c d e => cells_Play.br (cplay_spec anewJ watchJ aactJ acellsJ alogJ a b c d e)
theorem opnJ : OpnC fun x0 x1 h K => CallT Try.prog 13 [Kd.val (.int .i64) x0, Kd.val .sl x1] false .sl h K := fun a b c => law21_opened.br (opn_spec a b c)
theorem fewJ : FewC false id fun x0 x1 h K => CallT Try.prog 8 [Kd.val .sl x0, Kd.val .bool x1] false .sl h K := fun a b => law21_few.br (few0_spec a b)
theorem progJ : ProgC fun x0 x1 x2 h K => CallT Try.prog 11 [Kd.val KRun x0, Kd.val .sl x1, Kd.val .sl x2] false .bool h K := fun a b c d e f g i j k l m => law21_progress.br (progC_of lmodJ a b c d e f g i j k l m)
theorem privJ : PrivC fun x0 h K => CallT Try.prog 7 [Kd.val .sl x0] false .sl h K := fun a b c d => law21_private.br (priv_spec lmodJ a b c d)
theorem call (room : Int) (lists picks : Sl) (W : World) (ls : List (List AMv)) (ps : List Int) (hl : Arr2 (view W) KMv lists ls) (hp : Arr (view W) ki picks ps) :
    CallT Try.prog 3 [Kd.val (.int .i64) room, Kd.val .sl lists, Kd.val .sl picks] false .bool (view W) fun b h' => b = true ∧ le (view W) h' :=
  law21_BuffersCalm.br (calm_spec fewJ privJ lmodJ bplayJ progJ opnJ cplayJ hl hp fun h' l => ⟨rfl, l⟩)

theorem contract (H : Type) (enc : TypeId × Value → H) (W : World) (base : Nat) (args : Array Value) (ds gs : List (DataW H)) (before : List MemPlace)
    (hval : ∀ (j : Nat) t v, Try.f3.params[j]? = some t → args[j]? = some v → Value.okWide Try.prog W .any base t v)
    (hW : DataW.Whole enc Try.prog Try.f3.params.toList Rows.buffersCalmSpec.vars false W args.toList ds gs before) (hk : Rows.uptoSmall H (ds ++ gs) = true) :
    Calls Try.prog 3 args W fun e W' => ∃ v, e = .returned v ∧ Rows.buffersCalmSpec.post enc Try.prog Try.f3 false true false false W args v W' := by
  have hW' := hW
  obtain ⟨p, q, hA, hV, rfl, hfz, hnd⟩ := hW
  obtain ⟨rfl, rfl⟩ := trodVars_none hV
  rw [List.append_nil] at hk
  have hB : Rows.uptoBulkAll ds ≤ 1048576 := of_decide_eq_true hk
  obtain ⟨es, e1, e2, e3⟩ := args_of (P := Try.prog) (base := base) (m := 6) (B := 1048576) (ts := Try.f3.params.toList) (ks := [.int .i64, .sl, .sl]) (by kernel_rfl) (fun j t v a b => hval j t v (by simpa using a) (by simpa using b)) hA hB
  rcases es with _ | ⟨⟨k1, x1⟩, _ | ⟨⟨k2, x2⟩, _ | ⟨⟨k3, x3⟩, _ | ⟨_, _⟩⟩⟩⟩
  · cases e1
  · cases e1
  · cases e1
  · simp only [List.map_cons, List.map_nil, List.cons.injEq, and_true] at e1
    obtain ⟨rfl, rfl, rfl⟩ := e1
    rw [Try.params3] at e3 hA
    obtain ⟨f1, f2, f3, _⟩ := e3
    obtain ⟨ls, g1, _⟩ := DataOf.arr2 (m := 4) (ke := KMv) f2 (by kernel_rfl) (by kernel_rfl)
    obtain ⟨ps, g2, _⟩ := f3.arr (ke := ki) (by kernel_rfl)
    obtain ⟨v0, vs0, d0, ds0, p0, q0, _, rfl, _, _, r0⟩ := trodAll_cons hA
    obtain ⟨v1, vs1, d1, ds1, p1, q1, _, rfl, _, _, r1⟩ := trodAll_cons r0
    obtain ⟨v2, vs2, d2, ds2, p2, q2, _, rfl, _, _, r2⟩ := trodAll_cons r1
    obtain ⟨_, rfl, _⟩ := trodAll_nil r2
    refine law_post (bT := Try.f3.resultTypes.getD 0 0) (by kernel_rfl) (by kernel_rfl) (by kernel_rfl) rfl (by kernel_rfl) hW' (fun _ => ⟨rfl, rfl, rfl⟩) ?_
    rw [e2]
    exact call x1 x2 x3 W ls ps g1 g2
  · cases e1

theorem lifted (os : Os) (started : os.Started) (H : Type) (enc : TypeId × Value → H) (F : Stop.Interp) :
    ReturnsInHanded {} Try.checked os 3 .any ((Rows.OpenSpec.upto Rows.buffersCalmSpec).pre6 enc Try.prog Try.f3 Rows.buffersCalmUptoRow.domain false) (((Rows.OpenSpec.upto Rows.buffersCalmSpec).at F).post enc Try.prog Try.f3 false true false false) := by
  refine returnsInHanded_of_cond (C := Try.checked) (s := Rows.OpenSpec.upto Rows.buffersCalmSpec) (k := Rows.uptoSmall) rfl own started (by kernel_rfl) Try.func3
    (OpenSpec.witness (enc := enc) (C := Try.checked) (s := Rows.OpenSpec.upto Rows.buffersCalmSpec) (k := Rows.uptoSmall) rfl false ⟨#[], #[.int .i64 0, .slice none 0 0, .slice none 0 0], []⟩ 8 (by kernel_rfl) (by kernel_rfl) (by kernel_rfl)
      (x := ([.lit (.int .i64 0), .nil, .nil], [], [])) (by kernel_rfl) rfl (by kernel_rfl)) ?_
  intro W base args ds gs before hval hW _ hk _
  exact contract H enc W base args ds gs before hval hW hk

theorem over : Rows.buffersCalmUptoRow.holds Try.pinned (Rows.OpenSpec.upto Rows.buffersCalmSpec) :=
  OpenClaim.holds_of_cond 3 Try.f3 rfl rfl rfl rfl rfl rfl rfl ⟨rfl, rfl, rfl, rfl, rfl⟩ rfl rfl rfl rfl rfl (by kernel_rfl) Try.func3 (by kernel_rfl)
    (of_decide_eq_true (by kernel_rfl)) (by unfold Func.isWrapper; first | (rw [if_pos (by decide +kernel)]; kernel_rfl) | (rw [if_neg (by decide +kernel)]; exact ⟨rfl, rfl⟩))
    (fun os started H enc _ F => lifted os started H enc F)

theorem proved : Rows.BuffersCalmUptoSaid :=
  over
end Go.Proofs.Ythkjfdbmkggemaa.buffersCalm

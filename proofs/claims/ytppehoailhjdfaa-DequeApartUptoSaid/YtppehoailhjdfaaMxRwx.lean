/-
  What is proved: plunderlaw3.DequeApart returns true and leaves its arguments as they were, for every input. Condition: what it reads is of bulk at most 1048576.
-/
import Derived.Test.YtppehoailhjdfaaMxSs
import Derived.Test.YtppehoailhjdfaaMxV
import Derived.Test.YtppehoailhjdfaaMb
import Derived.WalkKit
import Derived.ProofKit
import Derived.JoinedCond
namespace Go.Proofs.Ytppehoailhjdfaa.dequeApart
open Go.ChangeShapes Go.WideShapes Go.ChangeAt Go.RowKit Go.Mx
set_option linter.unusedVariables false
set_option linter.unusedSimpArgs false
set_option maxRecDepth 100000

theorem own : ownKnob Try.prog.godebug = none := by kernel_rfl

abbrev cLd : Value → Int → Heap → (Den KP2 → Heap → Prop) → Prop := fun x0 x1 h K => InvT Try.prog "Load" x0 [Kd.val (.int .i64) x1] true KP2 h K
abbrev cRs : Value → Int → Heap → (Den KP2 → Heap → Prop) → Prop := fun x0 x1 h K => InvT Try.prog "Reserve" x0 [Kd.val (.int .i64) x1] true KP2 h K
abbrev cSt : Value → Int → Int → Heap → (Int → Heap → Prop) → Prop := fun x0 x1 x2 h K => InvT Try.prog "Store" x0 [Kd.val (.int .i64) x1, Kd.val (.int .i64) x2] false (.int .i64) h K
abbrev cCs : Value → Int → Int → Int → Heap → ((Bool × (Int × Unit)) → Heap → Prop) → Prop := fun x0 x1 x2 x3 h K => InvT Try.prog "CAS" x0 [Kd.val (.int .i64) x1, Kd.val (.int .i64) x2, Kd.val (.int .i64) x3] true (.pair .bool (.pair (.int .i64) .nil)) h K

theorem arC (b : Nat) : ArC cLd cRs cSt cCs (NilT Try.prog) (.iface 24 (.pointer (some (ptr b)))) b where
  iface := trivial
  some' := rfl
  nil := fun n e => by
    rcases e with rfl | rfl
    · exact NilT.of (f := 128) (by kernel_rfl) _
    · exact NilT.of (f := 53) (by kernel_rfl) _
  load := fun o hl hE hQ => InvT.of (f := 128) (by kernel_rfl) (cells_Arena_Load.br (load_spec o hl cells_ledger_has.br (fun h => cells_Arena_outside.br h) cells_Arena_note.br hE hQ))
  store := fun o hl hE hQ => InvT.of (f := 53) (by kernel_rfl) (cells_Arena_Store.br (store_spec o hl cells_ledger_has.br (fun h => cells_Arena_outside.br h) cells_Arena_note.br hE hQ))
  cas := fun o hl hE hQ => InvT.of (f := 127) (by kernel_rfl) (cells_Arena_CAS.br (cas_spec o hl cells_ledger_has.br (fun h => cells_Arena_outside.br h) cells_Arena_note.br hE hQ))
  reserve := fun o hl hf hz hC hR hQ => InvT.of (f := 52) (by kernel_rfl) (cells_Arena_Reserve.br (reserve_spec o hl hf hz cells_ledger_refuse.br cells_ledger_take.br cells_Arena_note.br hC hR hQ))

theorem dstepJ {h0 : Heap} {b : Nat} {h : Heap} {s : AS} {S : Nat → Prop} {x : DOp} {Q : Den KOp → Heap → Prop} (hR : RA h0 b s S h) (hl : s.lg.length ≤ 1000000000) (hf : (s.cs.length : Int) ≤ s.sz) (hz : s.sz ≤ 1048576) (ok : x.Ok)
    (hQ : ∀ S' h', RA h0 b (stepD arenaI s x).1 S' h' → Step S S' h h' → Q (stepD arenaI s x).2.den h') : CallT Try.prog 30 [Kd.val .iface (.iface 24 (.pointer (some (ptr b)))), Kd.val KOp x.den] false KOp h Q :=
  deque_Step.br (dstep_spec ((arC b).mem hR hl hf hz) ok deque_Op_over.br deque_Op_access.br deque_Op_pushed.br deque_Op_popped.br deque_Op_stolen.br deque_Op_looked.br deque_place.br deque_Op_next.br hR hQ)
theorem pushOJ : OpJ1 fun x0 x1 h K => CallT Try.prog 37 [Kd.val KP2 x0, Kd.val (.int .i64) x1] false KOp h K := fun q => deque_Push.br (dpush_spec deque_begin.br q)
theorem popOJ : OpJ DOp.pop fun x0 h K => CallT Try.prog 38 [Kd.val KP2 x0] false KOp h K := fun q => deque_Pop.br (dpop_spec deque_begin.br q)
theorem stealOJ : OpJ DOp.steal fun x0 h K => CallT Try.prog 39 [Kd.val KP2 x0] false KOp h K := fun q => deque_Steal.br (dsteal_spec deque_begin.br q)
theorem lookOJ : OpJ DOp.look fun x0 h K => CallT Try.prog 40 [Kd.val KP2 x0] false KOp h K := fun q => deque_Look.br (dlook_spec deque_begin.br q)
theorem answJ : AnswJ fun x0 h K => CallT Try.prog 34 [Kd.val KOp x0] true KP2 h K := fun q => deque_Answer.br (answer_spec q)
theorem stepOJ : StepJ 24 fun x0 x1 h K => CallT Try.prog 30 [Kd.val .iface x0, Kd.val KOp x1] false KOp h K := fun a b c d e f => dstepJ a b c d e f
theorem wholeOJ : WholeJ fun x0 x1 x2 h K => CallT Try.prog 41 [Kd.val .ptr x0, Kd.val KOp x1, Kd.val (.int .i64) x2] true (.pair ki (.pair ki (.pair .bool .nil))) h K := fun a b c d e f => law3_whole.br (whole_spec answJ stepOJ a b c d e f)
theorem worksOJ : WorksJ fun x0 x1 h K => CallT Try.prog 42 [Kd.val .ptr x0, Kd.val KP2 x1] false .bool h K := fun a b c d e f g i j k l m n => law3_works.br (works_spec pushOJ wholeOJ stealOJ lookOJ a b c d e f g i j k l m n)
theorem turnedOJ : TurnedJ fun x0 x1 x2 x3 h K => CallT Try.prog 43 [Kd.val .ptr x0, Kd.val KP2 x1, Kd.val KOp x2, Kd.val KTrn x3] false KOp h K := fun a b c d e f g => law3_turned.br (turned_spec answJ pushOJ stealOJ popOJ stepOJ a b c d e f g)
theorem layOJ : LayJ 24 fun x0 x1 x2 h K => CallT Try.prog 21 [Kd.val .iface x0, Kd.val (.int .i64) x1, Kd.val (.int .i64) x2] true (.pair KP2 (.pair ki .nil)) h K := fun a b c d e => deque_New.br (dnewG_spec arC deque_capsOK.br a b c d e)
theorem call (l m l' m' : Int) (td : Sl) (W : World) (ts : List (Den KTrn)) (ht : Arr (view W) KTrn td ts) (hn : ts.length ≤ 1048576) :
    CallT Try.prog 7 [Kd.val (.int .i64) l, Kd.val (.int .i64) m, Kd.val (.int .i64) l', Kd.val (.int .i64) m', Kd.val .sl td] false .bool (view W) fun b h' => b = true ∧ le (view W) h' :=
  law3_DequeApart.br (apart_spec (fun p q => law3_capsOK.br (caps_spec (h := _) p q)) (fun p q => deque_Cells.br (dcells_spec deque_capsOK.br p q)) (fun p q => cells_New.br (cnew_spec cells_good.br p q)) layOJ worksOJ (fun a b c => law3_mod.br (modR_spec a b c)) turnedOJ answJ ht hn (fun h' l => ⟨rfl, l⟩))

theorem contract (H : Type) (enc : TypeId × Value → H) (W : World) (base : Nat) (args : Array Value) (ds gs : List (DataW H)) (before : List MemPlace)
    (hval : ∀ (j : Nat) t v, Try.f7.params[j]? = some t → args[j]? = some v → Value.okWide Try.prog W .any base t v)
    (hW : DataW.Whole enc Try.prog Try.f7.params.toList Rows.dequeApartSpec.vars false W args.toList ds gs before) (hk : Rows.uptoSmall H (ds ++ gs) = true) :
    Calls Try.prog 7 args W fun e W' => ∃ v, e = .returned v ∧ Rows.dequeApartSpec.post enc Try.prog Try.f7 false true false false W args v W' := by
  have hW' := hW
  obtain ⟨p, q, hA, hV, rfl, hfz, hnd⟩ := hW
  obtain ⟨rfl, rfl⟩ := trodVars_none hV
  rw [List.append_nil] at hk
  have hB : Rows.uptoBulkAll ds ≤ 1048576 := of_decide_eq_true hk
  obtain ⟨es, e1, e2, e3⟩ := args_of (P := Try.prog) (base := base) (m := 5) (B := 1048576) (ts := Try.f7.params.toList) (ks := [.int .i64, .int .i64, .int .i64, .int .i64, .sl]) (by kernel_rfl) (fun j t v a b => hval j t v (by simpa using a) (by simpa using b)) hA hB
  rcases es with _ | ⟨⟨k1, x1⟩, _ | ⟨⟨k2, x2⟩, _ | ⟨⟨k3, x3⟩, _ | ⟨⟨k4, x4⟩, _ | ⟨⟨k5, x5⟩, _ | ⟨_, _⟩⟩⟩⟩⟩⟩
  · cases e1
  · cases e1
  · cases e1
  · cases e1
  · cases e1
  · simp only [List.map_cons, List.map_nil, List.cons.injEq, and_true] at e1
    obtain ⟨rfl, rfl, rfl, rfl, rfl⟩ := e1
    rw [Try.params7] at e3 hA
    obtain ⟨f1, f2, f3, f4, f5, _⟩ := e3
    obtain ⟨ts, g1, g2, _, _⟩ := f5.arr (ke := KTrn) (by kernel_rfl)
    obtain ⟨v0, vs0, d0, ds0, p0, q0, _, rfl, _, _, r0⟩ := trodAll_cons hA
    obtain ⟨v1, vs1, d1, ds1, p1, q1, _, rfl, _, _, r1⟩ := trodAll_cons r0
    obtain ⟨v2, vs2, d2, ds2, p2, q2, _, rfl, _, _, r2⟩ := trodAll_cons r1
    obtain ⟨v3, vs3, d3, ds3, p3, q3, _, rfl, _, _, r3⟩ := trodAll_cons r2
    obtain ⟨v4, vs4, d4, ds4, p4, q4, _, rfl, _, _, r4⟩ := trodAll_cons r3
    obtain ⟨_, rfl, _⟩ := trodAll_nil r4
    refine law_post (bT := Try.f7.resultTypes.getD 0 0) (by kernel_rfl) (by kernel_rfl) (by kernel_rfl) rfl (by kernel_rfl) hW' (fun _ => ⟨rfl, rfl, rfl⟩) ?_
    rw [e2]
    exact call x1 x2 x3 x4 x5 W ts g1 (by rw [g1.1]; exact g2)
  · cases e1

theorem lifted (os : Os) (started : os.Started) (H : Type) (enc : TypeId × Value → H) (F : Stop.Interp) :
    ReturnsInHanded {} Try.checked os 7 .any ((Rows.OpenSpec.upto Rows.dequeApartSpec).pre6 enc Try.prog Try.f7 Rows.dequeApartUptoRow.domain false) (((Rows.OpenSpec.upto Rows.dequeApartSpec).at F).post enc Try.prog Try.f7 false true false false) := by
  refine returnsInHanded_of_cond (C := Try.checked) (s := Rows.OpenSpec.upto Rows.dequeApartSpec) (k := Rows.uptoSmall) rfl own started (by kernel_rfl) Try.func7
    (OpenSpec.witness (enc := enc) (C := Try.checked) (s := Rows.OpenSpec.upto Rows.dequeApartSpec) (k := Rows.uptoSmall) rfl false ⟨#[], #[.int .i64 0, .int .i64 0, .int .i64 0, .int .i64 0, .slice none 0 0], []⟩ 8 (by kernel_rfl) (by kernel_rfl) (by kernel_rfl)
      (x := ([.lit (.int .i64 0), .lit (.int .i64 0), .lit (.int .i64 0), .lit (.int .i64 0), .nil], [], [])) (by kernel_rfl) rfl (by kernel_rfl)) ?_
  intro W base args ds gs before hval hW _ hk _
  exact contract H enc W base args ds gs before hval hW hk

theorem over : Rows.dequeApartUptoRow.holds Try.pinned (Rows.OpenSpec.upto Rows.dequeApartSpec) :=
  OpenClaim.holds_of_cond 7 Try.f7 rfl rfl rfl rfl rfl rfl rfl ⟨rfl, rfl, rfl, rfl, rfl⟩ rfl rfl rfl rfl rfl (by kernel_rfl) Try.func7 (by kernel_rfl)
    (of_decide_eq_true (by kernel_rfl)) (by unfold Func.isWrapper; first | (rw [if_pos (by decide +kernel)]; kernel_rfl) | (rw [if_neg (by decide +kernel)]; exact ⟨rfl, rfl⟩))
    (fun os started H enc _ F => lifted os started H enc F)

theorem proved : Rows.DequeApartUptoSaid :=
  over
end Go.Proofs.Ytppehoailhjdfaa.dequeApart

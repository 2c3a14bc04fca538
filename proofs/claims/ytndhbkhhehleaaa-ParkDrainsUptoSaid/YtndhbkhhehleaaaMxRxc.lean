/-
  What is proved: plunderlaw9.ParkDrains returns true and leaves its arguments as they were, for every input. Condition: what it reads is of bulk at most 1048576.
-/
import Derived.Test.YtndhbkhhehleaaaMxDu
import Derived.Test.YtndhbkhhehleaaaMxJp
import Derived.Test.YtndhbkhhehleaaaMxV
import Derived.Test.YtndhbkhhehleaaaMb
import Derived.WalkKit
import Derived.ProofKit
import Derived.JoinedCond
namespace Go.Proofs.Ytndhbkhhehleaaa.parkDrains
open Go.ChangeShapes Go.WideShapes Go.ChangeAt Go.RowKit Go.Mx
set_option linter.unusedVariables false
set_option linter.unusedSimpArgs false
set_option maxRecDepth 100000

theorem own : ownKnob Try.prog.godebug = none := by kernel_rfl

theorem call (first most sl : Int) (td pk : Sl) (W : World) (ts : List DTd) (ps : List Int) (ht : Arr (view W) KTd td ts) (hp : Arr (view W) ki pk ps) :
    CallT Try.prog 6 [Kd.val (.int .i64) first, Kd.val (.int .i64) most, Kd.val (.int .i64) sl, Kd.val .sl td, Kd.val .sl pk] false .bool (view W) fun b h' => b = true ∧ le (view W) h' :=
  law9_ParkDrains.br (drains_spec (fun a b c d => fair9J a b c d) (fun a b c => law9_numbered.br (numbered_spec a b c)) (fun a b c d e f g => law9_rounds.br (rounds_spec a b c d e f g)) playJ (fun a b c d e f g i j => law9_once.br (once_spec a b c d e f g i j)) (fun a b c d => law9_sameTakes.br (sameTakes_spec a b c d)) (fun a b c d e => law9_awake.br (awake_spec a b c d e)) ht hp (fun h' l => ⟨rfl, l⟩))

theorem contract (H : Type) (enc : TypeId × Value → H) (W : World) (base : Nat) (args : Array Value) (ds gs : List (DataW H)) (before : List MemPlace)
    (hval : ∀ (j : Nat) t v, Try.f6.params[j]? = some t → args[j]? = some v → Value.okWide Try.prog W .any base t v)
    (hW : DataW.Whole enc Try.prog Try.f6.params.toList Rows.parkDrainsSpec.vars false W args.toList ds gs before) (hk : Rows.uptoSmall H (ds ++ gs) = true) :
    Calls Try.prog 6 args W fun e W' => ∃ v, e = .returned v ∧ Rows.parkDrainsSpec.post enc Try.prog Try.f6 false true false false W args v W' := by
  have hW' := hW
  obtain ⟨p, q, hA, hV, rfl, hfz, hnd⟩ := hW
  obtain ⟨rfl, rfl⟩ := trodVars_none hV
  rw [List.append_nil] at hk
  have hB : Rows.uptoBulkAll ds ≤ 1048576 := of_decide_eq_true hk
  obtain ⟨es, e1, e2, e3⟩ := args_of (P := Try.prog) (base := base) (m := 3) (B := 1048576) (ts := Try.f6.params.toList) (ks := [.int .i64, .int .i64, .int .i64, .sl, .sl]) (by kernel_rfl) (fun j t v a b => hval j t v (by simpa using a) (by simpa using b)) hA hB
  rcases es with _ | ⟨⟨k1, x1⟩, _ | ⟨⟨k2, x2⟩, _ | ⟨⟨k3, x3⟩, _ | ⟨⟨k4, x4⟩, _ | ⟨⟨k5, x5⟩, _ | ⟨_, _⟩⟩⟩⟩⟩⟩
  · cases e1
  · cases e1
  · cases e1
  · cases e1
  · cases e1
  · simp only [List.map_cons, List.map_nil, List.cons.injEq, and_true] at e1
    obtain ⟨rfl, rfl, rfl, rfl, rfl⟩ := e1
    rw [Try.params6] at e3 hA
    obtain ⟨f1, f2, f3, f4, f5, _⟩ := e3
    obtain ⟨ts, g1, _, _, _⟩ := f4.arr (ke := KTd) (by kernel_rfl)
    obtain ⟨ps, g2, _, _, _⟩ := f5.arr (ke := ki) (by kernel_rfl)
    obtain ⟨v0, vs0, d0, ds0, p0, q0, _, rfl, _, _, r0⟩ := trodAll_cons hA
    obtain ⟨v1, vs1, d1, ds1, p1, q1, _, rfl, _, _, r1⟩ := trodAll_cons r0
    obtain ⟨v2, vs2, d2, ds2, p2, q2, _, rfl, _, _, r2⟩ := trodAll_cons r1
    obtain ⟨v3, vs3, d3, ds3, p3, q3, _, rfl, _, _, r3⟩ := trodAll_cons r2
    obtain ⟨v4, vs4, d4, ds4, p4, q4, _, rfl, _, _, r4⟩ := trodAll_cons r3
    obtain ⟨_, rfl, _⟩ := trodAll_nil r4
    refine law_post (bT := Try.f6.resultTypes.getD 0 0) (by kernel_rfl) (by kernel_rfl) (by kernel_rfl) rfl (by kernel_rfl) hW' (fun _ => ⟨rfl, rfl, rfl⟩) ?_
    rw [e2]
    exact call x1 x2 x3 x4 x5 W ts ps g1 g2
  · cases e1

theorem lifted (os : Os) (started : os.Started) (H : Type) (enc : TypeId × Value → H) (F : Stop.Interp) :
    ReturnsInHanded {} Try.checked os 6 .any ((Rows.OpenSpec.upto Rows.parkDrainsSpec).pre6 enc Try.prog Try.f6 Rows.parkDrainsUptoRow.domain false) (((Rows.OpenSpec.upto Rows.parkDrainsSpec).at F).post enc Try.prog Try.f6 false true false false) := by
  refine returnsInHanded_of_cond (C := Try.checked) (s := Rows.OpenSpec.upto Rows.parkDrainsSpec) (k := Rows.uptoSmall) rfl own started (by kernel_rfl) Try.func6
    (OpenSpec.witness (enc := enc) (C := Try.checked) (s := Rows.OpenSpec.upto Rows.parkDrainsSpec) (k := Rows.uptoSmall) rfl false ⟨#[], #[.int .i64 0, .int .i64 0, .int .i64 0, .slice none 0 0, .slice none 0 0], []⟩ 8 (by kernel_rfl) (by kernel_rfl) (by kernel_rfl)
      (x := ([.lit (.int .i64 0), .lit (.int .i64 0), .lit (.int .i64 0), .nil, .nil], [], [])) (by kernel_rfl) rfl (by kernel_rfl)) ?_
  intro W base args ds gs before hval hW _ hk _
  exact contract H enc W base args ds gs before hval hW hk

theorem over : Rows.parkDrainsUptoRow.holds Try.pinned (Rows.OpenSpec.upto Rows.parkDrainsSpec) :=
  OpenClaim.holds_of_cond 6 Try.f6 rfl rfl rfl rfl rfl rfl rfl ⟨rfl, rfl, rfl, rfl, rfl⟩ rfl rfl rfl rfl rfl (by kernel_rfl) Try.func6 (by kernel_rfl)
    (of_decide_eq_true (by kernel_rfl)) (by unfold Func.isWrapper; first | (rw [if_pos (by decide +kernel)]; kernel_rfl) | (rw [if_neg (by decide +kernel)]; exact ⟨rfl, rfl⟩))
    (fun os started H enc _ F => lifted os started H enc F)

theorem proved : Rows.ParkDrainsUptoSaid :=
  over
end Go.Proofs.Ytndhbkhhehleaaa.parkDrains

/-
  What is proved: plunderlaw3.DequePlay returns true and leaves its arguments as they were, for every input. Condition: what it reads is of bulk at most 1048576.
-/
import Derived.Test.YtjkecefbbijajaaMxUh
import Derived.Test.YtjkecefbbijajaaMxJd
import Derived.Test.YtjkecefbbijajaaMxV
import Derived.Test.YtjkecefbbijajaaMb
import Derived.WalkKit
import Derived.ProofKit
import Derived.JoinedCond
namespace Go.Proofs.Ytjkecefbbijajaa.dequePlay
open Go.ChangeShapes Go.WideShapes Go.ChangeAt Go.RowKit Go.Mx
set_option linter.unusedVariables false
set_option linter.unusedSimpArgs false
set_option maxRecDepth 100000

theorem own : ownKnob Try.prog.godebug = none := by kernel_rfl

theorem wloadJ : WLoadC fun x0 h K => CallT Try.prog 70 [Kd.val (.int .i64) x0] false KWn h K := fun q => ref3_load.br (wload_spec q)
theorem wstoreJ : WStoreC fun x0 x1 h K => CallT Try.prog 48 [Kd.val (.int .i64) x0, Kd.val (.int .i64) x1] false KWn h K := fun q => ref3_store.br (wstore_spec q)
theorem wendJ : WEndC fun x0 x1 h K => CallT Try.prog 65 [Kd.val (.int .i64) x0, Kd.val (.int .i64) x1] false KWn h K := fun q => ref3_end.br (wend_spec q)
theorem wmodJ : WModC fun x0 x1 h K => CallT Try.prog 34 [Kd.val (.int .i64) x0, Kd.val (.int .i64) x1] false (.int .i64) h K := fun a b => ref3_Mod.br (wmod_spec a b)
theorem watJ : WAtC fun x0 x1 x2 h K => CallT Try.prog 52 [Kd.val (.int .i64) x0, Kd.val (.int .i64) x1, Kd.val (.int .i64) x2] false (.int .i64) h K := fun a b => ref3_at.br (wat_spec wmodJ a b)
theorem wlastJ : WLastC fun x0 x1 x2 x3 x4 x5 h K => CallT Try.prog 71 [Kd.val KP2 x0, Kd.val (.int .i64) x1, Kd.val (.int .i64) x2, Kd.val (.int .i64) x3, Kd.val (.int .i64) x4, Kd.val (.int .i64) x5] false KWn h K := fun a b => ref3_last.br (wlast_spec watJ wstoreJ wendJ a b)
theorem wpushJ {base most v : Int} {s : Sl} {h : Heap} {hs : List Int} {Q : Wn → Heap → Prop} (m1 : 1 ≤ most) (m2 : most ≤ 4096) (a : Arr h ki s hs) (hl : hs.length ≤ 1000000000) (hQ : Q (pushR base most v hs) h) : CallT Try.prog 66 [Kd.val KP2 (base, (most, ())), Kd.val (.int .i64) v, Kd.val .sl s] false KWn h Q :=
  ref3_push.br (wpush_spec wloadJ wstoreJ wendJ watJ wlastJ m1 m2 a hl hQ)
theorem wpopJ : WHC popR fun x0 x1 h K => CallT Try.prog 67 [Kd.val KP2 x0, Kd.val .sl x1] false KWn h K := fun a b c => ref3_pop.br (wpop_spec wloadJ wstoreJ wendJ watJ a b c)
theorem wstealJ : WHC stealR fun x0 x1 h K => CallT Try.prog 68 [Kd.val KP2 x0, Kd.val .sl x1] false KWn h K := fun a b c => ref3_steal.br (wsteal_spec wloadJ wendJ watJ a b c)
theorem wlookJ : WHC lookR fun x0 x1 h K => CallT Try.prog 69 [Kd.val KP2 x0, Kd.val .sl x1] false KWn h K := fun a b c => ref3_look.br (wlook_spec wloadJ wendJ a b c)
theorem rnextJ : RNextC fun x0 h K => CallT Try.prog 62 [Kd.val KRo x0] false KWn h K := fun a b c d => ref3_Next.br (rnext_spec (cp := fun x0 x1 x2 h K => CallT Try.prog 66 [Kd.val KP2 x0, Kd.val (.int .i64) x1, Kd.val .sl x2] false KWn h K) wendJ wpushJ wpopJ wstealJ wlookJ a b c d)
theorem mdoJ : MDoC fun x0 x1 h K => CallT Try.prog 47 [Kd.val .ptr x0, Kd.val KWn x1] true (.pair ki (.pair .bool .nil)) h K := fun a b c d e => ref3_Mem_Do.br (mdo_spec a b c d e)
theorem rstep3J : RStepC fun x0 x1 h K => CallT Try.prog 50 [Kd.val .ptr x0, Kd.val KRo x1] false KRo h K := fun a b c d e f g i j k l => ref3_Step.br (rstep_spec rnextJ mdoJ a b c d e f g i j k l)
theorem rans3J : RAnsC fun x0 h K => CallT Try.prog 51 [Kd.val KRo x0] true KP2 h K := fun a b c d => ref3_Answer.br (rans_spec rnextJ a b c d)
theorem rpick3J : RPickC fun x0 x1 x2 h K => CallT Try.prog 33 [Kd.val .ptr x0, Kd.val (.int .i64) x1, Kd.val (.int .i64) x2] true .nil h K := fun a b c d e f g i j k => ref3_Stage_pick.br (rpick_spec rstep3J rans3J (fun {_ _ _ _ _ _ _ _ _ _ _ _ _ _} o {_} w x m1 m2 t l {_ _} q => ref3_Stage_begin.br (rbegin_spec o w x m1 m2 t l q)) a b c d e f g i j k)
theorem rcapJ : CapC fun x0 x1 h K => CallT Try.prog 46 [Kd.val (.int .i64) x0, Kd.val (.int .i64) x1] false .bool h K := fun a b => ref3_CapOK.br (rcapC_spec a b)
theorem rbadJ : JudgeC fun x0 x1 x2 x3 x4 h K => CallT Try.prog 31 [Kd.val (.int .i64) x0, Kd.val (.int .i64) x1, Kd.val .sl x2, Kd.val (.int .i64) x3, Kd.val .sl x4] false (.int .i64) h K := fun a b c => ref3_Bad.br (rbad_spec rcapJ a b c)
theorem rnew3J : RNew3C fun x0 x1 x2 h K => CallT Try.prog 32 [Kd.val .ptr x0, Kd.val (.int .i64) x1, Kd.val (.int .i64) x2] true (.pair KP2 (.pair ki .nil)) h K := fun a b c => ref3_New.br (rnew3_spec rcapJ mdoJ wstoreJ a b c)
theorem rrest3J : RRestC fun x0 x1 h K => CallT Try.prog 35 [Kd.val .ptr x0, Kd.val KP2 x1] false .sl h K := fun a b c => ref3_Rest.br (rrest_spec watJ a b c)
theorem rplay3J : Play3C fun x0 x1 x2 x3 x4 h K => CallT Try.prog 10 [Kd.val (.int .i64) x0, Kd.val (.int .i64) x1, Kd.val .sl x2, Kd.val (.int .i64) x3, Kd.val .sl x4] true (.pair KRu (.pair ki .nil)) h K := fun a b c d => ref3_Play.br (rplay3_spec rbadJ rnew3J wmodJ rpick3J rrest3J a b c d)
theorem dplay3J : Play3C fun x0 x1 x2 x3 x4 h K => CallT Try.prog 9 [Kd.val (.int .i64) x0, Kd.val (.int .i64) x1, Kd.val .sl x2, Kd.val (.int .i64) x3, Kd.val .sl x4] true (.pair KRu (.pair ki .nil)) h K := fun a b c d => dplayJ a b c d
theorem sameC3J : Same3 KCl fun x0 x1 h K => CallT Try.prog 11 [Kd.val .sl x0, Kd.val .sl x1] false .bool h K := fun a b c d => law3_sameCalls.br (sameC3_spec a b c d)
theorem sameL3J : Same3 KAcc fun x0 x1 h K => CallT Try.prog 13 [Kd.val .sl x0, Kd.val .sl x1] false .bool h K := fun a b c d => law3_sameLog.br (sameL3_spec a b c d)
theorem sameI3J : Same3 ki fun x0 x1 h K => CallT Try.prog 12 [Kd.val .sl x0, Kd.val .sl x1] false .bool h K := fun a b c d => law3_sameInts.br (sameI3_spec a b c d)
theorem call (first most : Int) (td : Sl) (thieves : Int) (pk : Sl) (W : World) (ts : List DTd) (ps : List Int) (ht : Arr (view W) KTd td ts) (hp : Arr (view W) ki pk ps) (b1 : ts.length ≤ 1048576) (b2 : ps.length ≤ 1048576) :
    CallT Try.prog 3 [Kd.val (.int .i64) first, Kd.val (.int .i64) most, Kd.val .sl td, Kd.val (.int .i64) thieves, Kd.val .sl pk] false .bool (view W) fun b h' => b = true ∧ le (view W) h' :=
  law3_DequePlay.br (dplay_law (playD_of dplay3J) (playD_of rplay3J) sameC3J sameI3J sameL3J ht hp (by omega) (by omega) fun h' l => ⟨rfl, l⟩)

theorem contract (H : Type) (enc : TypeId × Value → H) (W : World) (base : Nat) (args : Array Value) (ds gs : List (DataW H)) (before : List MemPlace)
    (hval : ∀ (j : Nat) t v, Try.f3.params[j]? = some t → args[j]? = some v → Value.okWide Try.prog W .any base t v)
    (hW : DataW.Whole enc Try.prog Try.f3.params.toList Rows.dequePlaySpec.vars false W args.toList ds gs before) (hk : Rows.uptoSmall H (ds ++ gs) = true) :
    Calls Try.prog 3 args W fun e W' => ∃ v, e = .returned v ∧ Rows.dequePlaySpec.post enc Try.prog Try.f3 false true false false W args v W' := by
  have hW' := hW
  obtain ⟨p, q, hA, hV, rfl, hfz, hnd⟩ := hW
  obtain ⟨rfl, rfl⟩ := trodVars_none hV
  rw [List.append_nil] at hk
  have hB : Rows.uptoBulkAll ds ≤ 1048576 := of_decide_eq_true hk
  obtain ⟨es, e1, e2, e3⟩ := args_of (P := Try.prog) (base := base) (m := 6) (B := 1048576) (ts := Try.f3.params.toList) (ks := [.int .i64, .int .i64, .sl, .int .i64, .sl]) (by kernel_rfl) (fun j t v a b => hval j t v (by simpa using a) (by simpa using b)) hA hB
  rcases es with _ | ⟨⟨k1, x1⟩, _ | ⟨⟨k2, x2⟩, _ | ⟨⟨k3, x3⟩, _ | ⟨⟨k4, x4⟩, _ | ⟨⟨k5, x5⟩, _ | ⟨_, _⟩⟩⟩⟩⟩⟩
  · cases e1
  · cases e1
  · cases e1
  · cases e1
  · cases e1
  · simp only [List.map_cons, List.map_nil, List.cons.injEq, and_true] at e1
    obtain ⟨rfl, rfl, rfl, rfl, rfl⟩ := e1
    rw [Try.params3] at e3 hA
    obtain ⟨f1, f2, f3, f4, f5, _⟩ := e3
    obtain ⟨ts, g1, g2, _⟩ := f3.arr (ke := KTd) (by kernel_rfl)
    obtain ⟨ps, g3, g4, _⟩ := f5.arr (ke := ki) (by kernel_rfl)
    obtain ⟨v0, vs0, d0, ds0, p0, q0, _, rfl, _, _, r0⟩ := trodAll_cons hA
    obtain ⟨v1, vs1, d1, ds1, p1, q1, _, rfl, _, _, r1⟩ := trodAll_cons r0
    obtain ⟨v2, vs2, d2, ds2, p2, q2, _, rfl, _, _, r2⟩ := trodAll_cons r1
    obtain ⟨v3, vs3, d3, ds3, p3, q3, _, rfl, _, _, r3⟩ := trodAll_cons r2
    obtain ⟨v4, vs4, d4, ds4, p4, q4, _, rfl, _, _, r4⟩ := trodAll_cons r3
    obtain ⟨_, rfl, _⟩ := trodAll_nil r4
    refine law_post (bT := Try.f3.resultTypes.getD 0 0) (by kernel_rfl) (by kernel_rfl) (by kernel_rfl) rfl (by kernel_rfl) hW' (fun _ => ⟨rfl, rfl, rfl⟩) ?_
    rw [e2]
    exact call x1 x2 x3 x4 x5 W ts ps g1 g3 (by rw [g1.1]; exact g2) (by rw [g3.1]; exact g4)
  · cases e1

theorem lifted (os : Os) (started : os.Started) (H : Type) (enc : TypeId × Value → H) (F : Stop.Interp) :
    ReturnsInHanded {} Try.checked os 3 .any ((Rows.OpenSpec.upto Rows.dequePlaySpec).pre6 enc Try.prog Try.f3 Rows.dequePlayUptoRow.domain false) (((Rows.OpenSpec.upto Rows.dequePlaySpec).at F).post enc Try.prog Try.f3 false true false false) := by
  refine returnsInHanded_of_cond (C := Try.checked) (s := Rows.OpenSpec.upto Rows.dequePlaySpec) (k := Rows.uptoSmall) rfl own started (by kernel_rfl) Try.func3
    (OpenSpec.witness (enc := enc) (C := Try.checked) (s := Rows.OpenSpec.upto Rows.dequePlaySpec) (k := Rows.uptoSmall) rfl false ⟨#[], #[.int .i64 0, .int .i64 0, .slice none 0 0, .int .i64 0, .slice none 0 0], []⟩ 8 (by kernel_rfl) (by kernel_rfl) (by kernel_rfl)
      (x := ([.lit (.int .i64 0), .lit (.int .i64 0), .nil, .lit (.int .i64 0), .nil], [], [])) (by kernel_rfl) rfl (by kernel_rfl)) ?_
  intro W base args ds gs before hval hW _ hk _
  exact contract H enc W base args ds gs before hval hW hk

theorem over : Rows.dequePlayUptoRow.holds Try.pinned (Rows.OpenSpec.upto Rows.dequePlaySpec) :=
  OpenClaim.holds_of_cond 3 Try.f3 rfl rfl rfl rfl rfl rfl rfl ⟨rfl, rfl, rfl, rfl, rfl⟩ rfl rfl rfl rfl rfl (by kernel_rfl) Try.func3 (by kernel_rfl)
    (of_decide_eq_true (by kernel_rfl)) (by unfold Func.isWrapper; first | (rw [if_pos (by decide +kernel)]; kernel_rfl) | (rw [if_neg (by decide +kernel)]; exact ⟨rfl, rfl⟩))
    (fun os started H enc _ F => lifted os started H enc F)

theorem proved : Rows.DequePlayUptoSaid :=
  over
end Go.Proofs.Ytjkecefbbijajaa.dequePlay

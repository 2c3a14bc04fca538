/-
  What is proved: plunderlaw3.DequeMicro returns true and leaves its arguments as they were, for every input. Condition: what it reads is of bulk at most 1048576.
-/
import Derived.Test.YtppehoailhjdfaaMxXc
import Derived.Test.YtppehoailhjdfaaMxV
import Derived.Test.YtppehoailhjdfaaMb
import Derived.WalkKit
import Derived.ProofKit
import Derived.JoinedCond
namespace Go.Proofs.Ytppehoailhjdfaa.dequeMicro
open Go.ChangeShapes Go.WideShapes Go.ChangeAt Go.RowKit Go.Mx
set_option linter.unusedVariables false
set_option linter.unusedSimpArgs false
set_option maxRecDepth 100000

theorem own : ownKnob Try.prog.godebug = none := by kernel_rfl

theorem wloadJ : WLoadC fun x0 h K => CallT Try.prog 96 [Kd.val (.int .i64) x0] false KWn h K := fun q => ref3_load.br (wload_spec q)
theorem wstoreJ : WStoreC fun x0 x1 h K => CallT Try.prog 58 [Kd.val (.int .i64) x0, Kd.val (.int .i64) x1] false KWn h K := fun q => ref3_store.br (wstore_spec q)
theorem wendJ : WEndC fun x0 x1 h K => CallT Try.prog 65 [Kd.val (.int .i64) x0, Kd.val (.int .i64) x1] false KWn h K := fun q => ref3_end.br (wend_spec q)
theorem wmodJ : WModC fun x0 x1 h K => CallT Try.prog 110 [Kd.val (.int .i64) x0, Kd.val (.int .i64) x1] false (.int .i64) h K := fun a b => ref3_Mod.br (wmod_spec a b)
theorem watJ : WAtC fun x0 x1 x2 h K => CallT Try.prog 98 [Kd.val (.int .i64) x0, Kd.val (.int .i64) x1, Kd.val (.int .i64) x2] false (.int .i64) h K := fun a b => ref3_at.br (wat_spec wmodJ a b)
theorem wlastJ : WLastC fun x0 x1 x2 x3 x4 x5 h K => CallT Try.prog 97 [Kd.val KP2 x0, Kd.val (.int .i64) x1, Kd.val (.int .i64) x2, Kd.val (.int .i64) x3, Kd.val (.int .i64) x4, Kd.val (.int .i64) x5] false KWn h K := fun a b => ref3_last.br (wlast_spec watJ wstoreJ wendJ a b)
theorem wpushJ {base most v : Int} {s : Sl} {h : Heap} {hs : List Int} {Q : Wn → Heap → Prop} (m1 : 1 ≤ most) (m2 : most ≤ 4096) (a : Arr h ki s hs) (hl : hs.length ≤ 1000000000) (hQ : Q (pushR base most v hs) h) : CallT Try.prog 66 [Kd.val KP2 (base, (most, ())), Kd.val (.int .i64) v, Kd.val .sl s] false KWn h Q :=
  ref3_push.br (wpush_spec wloadJ wstoreJ wendJ watJ wlastJ m1 m2 a hl hQ)
theorem wpopJ : WHC popR fun x0 x1 h K => CallT Try.prog 67 [Kd.val KP2 x0, Kd.val .sl x1] false KWn h K := fun a b c => ref3_pop.br (wpop_spec wloadJ wstoreJ wendJ watJ a b c)
theorem wstealJ : WHC stealR fun x0 x1 h K => CallT Try.prog 68 [Kd.val KP2 x0, Kd.val .sl x1] false KWn h K := fun a b c => ref3_steal.br (wsteal_spec wloadJ wendJ watJ a b c)
theorem wlookJ : WHC lookR fun x0 x1 h K => CallT Try.prog 69 [Kd.val KP2 x0, Kd.val .sl x1] false KWn h K := fun a b c => ref3_look.br (wlook_spec wloadJ wendJ a b c)
theorem rnextJ : RNextC fun x0 h K => CallT Try.prog 32 [Kd.val KRo x0] false KWn h K := fun a b c d => ref3_Next.br (rnext_spec (cp := fun x0 x1 x2 h K => CallT Try.prog 66 [Kd.val KP2 x0, Kd.val (.int .i64) x1, Kd.val .sl x2] false KWn h K) wendJ wpushJ wpopJ wstealJ wlookJ a b c d)
theorem mdoJ : MDoC fun x0 x1 h K => CallT Try.prog 55 [Kd.val .ptr x0, Kd.val KWn x1] true (.pair ki (.pair .bool .nil)) h K := fun a b c d e => ref3_Mem_Do.br (mdo_spec a b c d e)
theorem rstep3J : RStepC fun x0 x1 h K => CallT Try.prog 31 [Kd.val .ptr x0, Kd.val KRo x1] false KRo h K := fun a b c d e f g i j k l => ref3_Step.br (rstep_spec rnextJ mdoJ a b c d e f g i j k l)
theorem rans3J : RAnsC fun x0 h K => CallT Try.prog 35 [Kd.val KRo x0] true KP2 h K := fun a b c d => ref3_Answer.br (rans_spec rnextJ a b c d)
abbrev cLd : Value → Int → Heap → (Den KP2 → Heap → Prop) → Prop := fun x0 x1 h K => InvT Try.prog "Load" x0 [Kd.val (.int .i64) x1] true KP2 h K
abbrev cRs : Value → Int → Heap → (Den KP2 → Heap → Prop) → Prop := fun x0 x1 h K => InvT Try.prog "Reserve" x0 [Kd.val (.int .i64) x1] true KP2 h K
abbrev cSt : Value → Int → Int → Heap → (Int → Heap → Prop) → Prop := fun x0 x1 x2 h K => InvT Try.prog "Store" x0 [Kd.val (.int .i64) x1, Kd.val (.int .i64) x2] false (.int .i64) h K
abbrev cCs : Value → Int → Int → Int → Heap → ((Bool × (Int × Unit)) → Heap → Prop) → Prop := fun x0 x1 x2 x3 h K => InvT Try.prog "CAS" x0 [Kd.val (.int .i64) x1, Kd.val (.int .i64) x2, Kd.val (.int .i64) x3] true (.pair .bool (.pair (.int .i64) .nil)) h K

theorem arC (b : Nat) : ArC cLd cRs cSt cCs (NilT Try.prog) (.iface 24 (.pointer (some (ptr b)))) b where
  iface := trivial
  some' := rfl
  nil := fun n e => by
    rcases e with rfl | rfl
    · exact NilT.of (f := 128) (by kernel_rfl) _
    · exact NilT.of (f := 53) (by kernel_rfl) _
  load := fun o hl hE hQ => InvT.of (f := 128) (by kernel_rfl) (cells_Arena_Load.br (load_spec o hl cells_ledger_has.br (fun h => cells_Arena_outside.br h) cells_Arena_note.br hE hQ))
  store := fun o hl hE hQ => InvT.of (f := 53) (by kernel_rfl) (cells_Arena_Store.br (store_spec o hl cells_ledger_has.br (fun h => cells_Arena_outside.br h) cells_Arena_note.br hE hQ))
  cas := fun o hl hE hQ => InvT.of (f := 127) (by kernel_rfl) (cells_Arena_CAS.br (cas_spec o hl cells_ledger_has.br (fun h => cells_Arena_outside.br h) cells_Arena_note.br hE hQ))
  reserve := fun o hl hf hz hC hR hQ => InvT.of (f := 52) (by kernel_rfl) (cells_Arena_Reserve.br (reserve_spec o hl hf hz cells_ledger_refuse.br cells_ledger_take.br cells_Arena_note.br hC hR hQ))

theorem dstepJ {h0 : Heap} {b : Nat} {h : Heap} {s : AS} {S : Nat → Prop} {x : DOp} {Q : Den KOp → Heap → Prop} (hR : RA h0 b s S h) (hl : s.lg.length ≤ 1000000000) (hf : (s.cs.length : Int) ≤ s.sz) (hz : s.sz ≤ 1048576) (ok : x.Ok)
    (hQ : ∀ S' h', RA h0 b (stepD arenaI s x).1 S' h' → Step S S' h h' → Q (stepD arenaI s x).2.den h') : CallT Try.prog 30 [Kd.val .iface (.iface 24 (.pointer (some (ptr b)))), Kd.val KOp x.den] false KOp h Q :=
  deque_Step.br (dstep_spec ((arC b).mem hR hl hf hz) ok deque_Op_over.br deque_Op_access.br deque_Op_pushed.br deque_Op_popped.br deque_Op_stolen.br deque_Op_looked.br deque_place.br deque_Op_next.br hR hQ)
theorem modM : ModM fun x0 x1 h K => CallT Try.prog 19 [Kd.val (.int .i64) x0, Kd.val (.int .i64) x1] false (.int .i64) h K := fun a b c => law3_mod.br (mod3_spec a b c)
theorem arenaM : ArenaM fun x0 x1 h K => CallT Try.prog 20 [Kd.val (.int .i64) x0, Kd.val .sl x1] true (.pair .ptr (.pair .bool .nil)) h K := fun ha h0 h1 hb hQ => law3_arena.br (arena3 (arena_spec ha h0 h1 hb (fun hq => cells_New.br (cnew_spec cells_good.br (fun q => absurd ⟨h0, h1⟩ q) (fun _ => hq))) (fun o a b c d e => cells_Arena_Reserve.br (reserve_spec o a b h1 cells_ledger_refuse.br cells_ledger_take.br cells_Arena_note.br c d e)) (fun o a b c => cells_Arena_Store.br (store_spec o a cells_ledger_has.br (fun h => cells_Arena_outside.br h) cells_Arena_note.br b c)) cells_Arena_Watch.br (fun b c l h1 o => hQ b _ h1 ⟨c, l, rfl, o⟩)))
theorem whoM : WhoM fun x0 x1 h K => CallT Try.prog 29 [Kd.val .ptr x0, Kd.val (.int .i64) x1] true .nil h K := fun R q => by obtain ⟨c, l, rfl, o⟩ := R; exact cells_Arena_Who.br (who_spec o fun h1 o1 s1 => q h1 ⟨c, l, rfl, o1⟩ s1)
theorem newM : NewM fun x0 h K => CallT Try.prog 33 [Kd.val (.int .i64) x0] true (.pair .ptr (.pair (.int .i64) .nil)) h K := fun q => cells_New.br (cnew_spec cells_good.br (fun z => absurd (by decide) z) (fun _ b h1 o => q b _ h1 ⟨_, _, rfl, o⟩))
theorem stepM : StepM 24 fun x0 x1 h K => CallT Try.prog 30 [Kd.val .iface x0, Kd.val KOp x1] false KOp h K := fun a b c d e f => dstepJ a b c d e f
theorem darkM : DarkM fun x0 x1 h K => CallT Try.prog 30 [Kd.val .iface x0, Kd.val KOp x1] false KOp h K := fun q => deque_Step.br (dark_spec deque_Op_over.br q)
theorem answM : AnswM fun x0 h K => CallT Try.prog 34 [Kd.val KOp x0] true KP2 h K := fun q => deque_Answer.br (answer_spec q)
theorem cellsM : OutM ki AS.cs fun x0 h K => CallT Try.prog 14 [Kd.val .ptr x0] false .sl h K := fun R f n q => by obtain ⟨c, l, rfl, o⟩ := R; exact cells_Arena_Cells.br (cells_spec o (by have := f.cs; have := f.sz; omega) q)
theorem logM : OutM KAcc AS.lg fun x0 h K => CallT Try.prog 16 [Kd.val .ptr x0] false .sl h K := fun R f n q => by obtain ⟨c, l, rfl, o⟩ := R; exact cells_Arena_Log.br (log_spec o (by have := f.lg; omega) q)
theorem sameIM : SameM ki fun x0 x1 h K => CallT Try.prog 23 [Kd.val .sl x0, Kd.val .sl x1] false .bool h K := fun a b c q => law3_sameInts.br (sameInts3_spec a b c q)
theorem sameLM : SameM KAcc fun x0 x1 h K => CallT Try.prog 24 [Kd.val .sl x0, Kd.val .sl x1] false .bool h K := fun a b c q => law3_sameLog.br (sameLog3_spec a b c q)
theorem bornM {base most : Int} (hb : I64 base) (hm : I64 most) : BornM base most fun x0 x1 x2 h K => CallT Try.prog 28 [Kd.val KMv x0, Kd.val (.int .i64) x1, Kd.val (.int .i64) x2] true (.pair KOp (.pair KRo .nil)) h K := fun a b c d => law3_born.br (born_spec hb hm (fun q => deque_Push.br (dpush_spec deque_begin.br q)) (fun q => deque_Pop.br (dpop_spec deque_begin.br q)) (fun q => deque_Steal.br (dsteal_spec deque_begin.br q)) (fun q => deque_Look.br (dlook_spec deque_begin.br q)) a b c d)
theorem call (size : Int) (bg : Sl) (base most : Int) (mv : Sl) (W : World) (bs : List Int) (ms : List (Den KMv)) (hb : Arr (view W) ki bg bs) (hm : Arr (view W) KMv mv ms) (b1 : bs.length ≤ 1048576) (b2 : ms.length ≤ 1048576) (r1 : ∀ x ∈ bs, I64 x) (r2 : ∀ x ∈ ms, I64 x.2.2.1) (r3 : I64 base) (r4 : I64 most) :
    CallT Try.prog 5 [Kd.val (.int .i64) size, Kd.val .sl bg, Kd.val (.int .i64) base, Kd.val (.int .i64) most, Kd.val .sl mv] false .bool (view W) fun b h' => b = true ∧ le (view W) h' :=
  law3_DequeMicro.br (micro_spec hb r1 b1 hm b2 r2 r3 modM arenaM (bornM r3 r4) whoM stepM darkM rstep3J rnextJ newM answM rans3J cellsM sameIM logM sameLM fun h' l => ⟨rfl, l⟩)

theorem contract (H : Type) (enc : TypeId × Value → H) (W : World) (base : Nat) (args : Array Value) (ds gs : List (DataW H)) (before : List MemPlace)
    (hval : ∀ (j : Nat) t v, Try.f5.params[j]? = some t → args[j]? = some v → Value.okWide Try.prog W .any base t v)
    (hW : DataW.Whole enc Try.prog Try.f5.params.toList Rows.dequeMicroSpec.vars false W args.toList ds gs before) (hk : Rows.uptoSmall H (ds ++ gs) = true) :
    Calls Try.prog 5 args W fun e W' => ∃ v, e = .returned v ∧ Rows.dequeMicroSpec.post enc Try.prog Try.f5 false true false false W args v W' := by
  have hW' := hW
  obtain ⟨p, q, hA, hV, rfl, hfz, hnd⟩ := hW
  obtain ⟨rfl, rfl⟩ := trodVars_none hV
  rw [List.append_nil] at hk
  have hB : Rows.uptoBulkAll ds ≤ 1048576 := of_decide_eq_true hk
  obtain ⟨es, e1, e2, e3⟩ := args_of (P := Try.prog) (base := base) (m := 4) (B := 1048576) (ts := Try.f5.params.toList) (ks := [.int .i64, .sl, .int .i64, .int .i64, .sl]) (by kernel_rfl) (fun j t v a b => hval j t v (by simpa using a) (by simpa using b)) hA hB
  rcases es with _ | ⟨⟨k1, x1⟩, _ | ⟨⟨k2, x2⟩, _ | ⟨⟨k3, x3⟩, _ | ⟨⟨k4, x4⟩, _ | ⟨⟨k5, x5⟩, _ | ⟨_, _⟩⟩⟩⟩⟩⟩
  · cases e1
  · cases e1
  · cases e1
  · cases e1
  · cases e1
  · simp only [List.map_cons, List.map_nil, List.cons.injEq, and_true] at e1
    obtain ⟨rfl, rfl, rfl, rfl, rfl⟩ := e1
    rw [Try.params5] at e3 hA
    obtain ⟨f1, f2, f3, f4, f5, _⟩ := e3
    obtain ⟨bs, g1, g2, _, _, _, g7⟩ := f2.arr (ke := ki) (by kernel_rfl)
    obtain ⟨ms, g3, g4, _, _, _, g8⟩ := f5.arr (ke := KMv) (by kernel_rfl)
    obtain ⟨v0, vs0, d0, ds0, p0, q0, _, rfl, _, _, r0⟩ := trodAll_cons hA
    obtain ⟨v1, vs1, d1, ds1, p1, q1, _, rfl, _, _, r1⟩ := trodAll_cons r0
    obtain ⟨v2, vs2, d2, ds2, p2, q2, _, rfl, _, _, r2⟩ := trodAll_cons r1
    obtain ⟨v3, vs3, d3, ds3, p3, q3, _, rfl, _, _, r3⟩ := trodAll_cons r2
    obtain ⟨v4, vs4, d4, ds4, p4, q4, _, rfl, _, _, r4⟩ := trodAll_cons r3
    obtain ⟨_, rfl, _⟩ := trodAll_nil r4
    refine law_post (bT := Try.f5.resultTypes.getD 0 0) (by kernel_rfl) (by kernel_rfl) (by kernel_rfl) rfl (by kernel_rfl) hW' (fun _ => ⟨rfl, rfl, rfl⟩) ?_
    rw [e2]
    exact call x1 x2 x3 x4 x5 W bs ms g1 g3 (by rw [g1.1]; exact g2) (by rw [g3.1]; exact g4) (fun x hx => I64.wf (g7 x hx)) (fun x hx => by obtain ⟨fs, e, z⟩ := g8 x hx; have n2 : fs.toList.length = 3 := (fieldN_of e).symm.trans (by kernel_rfl); obtain ⟨t, y⟩ := FieldsOf.three z n2; exact I64.wf y) (I64.wf f3) (I64.wf f4)
  · cases e1

theorem lifted (os : Os) (started : os.Started) (H : Type) (enc : TypeId × Value → H) (F : Stop.Interp) :
    ReturnsInHanded {} Try.checked os 5 .any ((Rows.OpenSpec.upto Rows.dequeMicroSpec).pre6 enc Try.prog Try.f5 Rows.dequeMicroUptoRow.domain false) (((Rows.OpenSpec.upto Rows.dequeMicroSpec).at F).post enc Try.prog Try.f5 false true false false) := by
  refine returnsInHanded_of_cond (C := Try.checked) (s := Rows.OpenSpec.upto Rows.dequeMicroSpec) (k := Rows.uptoSmall) rfl own started (by kernel_rfl) Try.func5
    (OpenSpec.witness (enc := enc) (C := Try.checked) (s := Rows.OpenSpec.upto Rows.dequeMicroSpec) (k := Rows.uptoSmall) rfl false ⟨#[], #[.int .i64 0, .slice none 0 0, .int .i64 0, .int .i64 0, .slice none 0 0], []⟩ 8 (by kernel_rfl) (by kernel_rfl) (by kernel_rfl)
      (x := ([.lit (.int .i64 0), .nil, .lit (.int .i64 0), .lit (.int .i64 0), .nil], [], [])) (by kernel_rfl) rfl (by kernel_rfl)) ?_
  intro W base args ds gs before hval hW _ hk _
  exact contract H enc W base args ds gs before hval hW hk

theorem over : Rows.dequeMicroUptoRow.holds Try.pinned (Rows.OpenSpec.upto Rows.dequeMicroSpec) :=
  OpenClaim.holds_of_cond 5 Try.f5 rfl rfl rfl rfl rfl rfl rfl ⟨rfl, rfl, rfl, rfl, rfl⟩ rfl rfl rfl rfl rfl (by kernel_rfl) Try.func5 (by kernel_rfl)
    (of_decide_eq_true (by kernel_rfl)) (by unfold Func.isWrapper; first | (rw [if_pos (by decide +kernel)]; kernel_rfl) | (rw [if_neg (by decide +kernel)]; exact ⟨rfl, rfl⟩))
    (fun os started H enc _ F => lifted os started H enc F)

theorem proved : Rows.DequeMicroUptoSaid :=
  over
end Go.Proofs.Ytppehoailhjdfaa.dequeMicro

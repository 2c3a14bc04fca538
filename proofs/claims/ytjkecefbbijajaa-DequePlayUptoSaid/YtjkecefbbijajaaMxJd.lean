/-
  deque.Play by its number: the walks of its functions, joined.
-/
import Derived.Test.YtjkecefbbijajaaMxQp
import Derived.Test.YtjkecefbbijajaaMb
set_option linter.unusedVariables false
set_option linter.unusedSimpArgs false
set_option maxRecDepth 100000
namespace Go.Mx
open Go.Proofs

abbrev cLd : Value → Int → Heap → (Den KP2 → Heap → Prop) → Prop := fun x0 x1 h K => InvT Try.prog "Load" x0 [Kd.val (.int .i64) x1] true KP2 h K
abbrev cRs : Value → Int → Heap → (Den KP2 → Heap → Prop) → Prop := fun x0 x1 h K => InvT Try.prog "Reserve" x0 [Kd.val (.int .i64) x1] true KP2 h K
abbrev cSt : Value → Int → Int → Heap → (Int → Heap → Prop) → Prop := fun x0 x1 x2 h K => InvT Try.prog "Store" x0 [Kd.val (.int .i64) x1, Kd.val (.int .i64) x2] false (.int .i64) h K
abbrev cCs : Value → Int → Int → Int → Heap → ((Bool × (Int × Unit)) → Heap → Prop) → Prop := fun x0 x1 x2 x3 h K => InvT Try.prog "CAS" x0 [Kd.val (.int .i64) x1, Kd.val (.int .i64) x2, Kd.val (.int .i64) x3] true (.pair .bool (.pair (.int .i64) .nil)) h K

theorem arC (b : Nat) : ArC cLd cRs cSt cCs (NilT Try.prog) (.iface 54 (.pointer (some (ptr b)))) b where
  iface := trivial
  some' := rfl
  nil := fun n e => by
    rcases e with rfl | rfl
    · exact NilT.of (f := 88) (by kernel_rfl) _
    · exact NilT.of (f := 91) (by kernel_rfl) _
  load := fun o hl hE hQ => InvT.of (f := 88) (by kernel_rfl) (cells_Arena_Load.br (load_spec o hl cells_ledger_has.br (fun h => cells_Arena_outside.br h) cells_Arena_note.br hE hQ))
  store := fun o hl hE hQ => InvT.of (f := 91) (by kernel_rfl) (cells_Arena_Store.br (store_spec o hl cells_ledger_has.br (fun h => cells_Arena_outside.br h) cells_Arena_note.br hE hQ))
  cas := fun o hl hE hQ => InvT.of (f := 87) (by kernel_rfl) (cells_Arena_CAS.br (cas_spec o hl cells_ledger_has.br (fun h => cells_Arena_outside.br h) cells_Arena_note.br hE hQ))
  reserve := fun o hl hf hz hC hR hQ => InvT.of (f := 90) (by kernel_rfl) (cells_Arena_Reserve.br (reserve_spec o hl hf hz cells_ledger_refuse.br cells_ledger_take.br cells_Arena_note.br hC hR hQ))

theorem dstepJ {h0 : Heap} {b : Nat} {h : Heap} {s : AS} {S : Nat → Prop} {x : DOp} {Q : Den KOp → Heap → Prop} (hR : RA h0 b s S h) (hl : s.lg.length ≤ 1000000000) (hf : (s.cs.length : Int) ≤ s.sz) (hz : s.sz ≤ 1048576) (ok : x.Ok)
    (hQ : ∀ S' h', RA h0 b (stepD arenaI s x).1 S' h' → Step S S' h h' → Q (stepD arenaI s x).2.den h') : CallT Try.prog 42 [Kd.val .iface (.iface 54 (.pointer (some (ptr b)))), Kd.val KOp x.den] false KOp h Q :=
  deque_Step.br (dstep_spec ((arC b).mem hR hl hf hz) ok deque_Op_over.br deque_Op_access.br deque_Op_pushed.br deque_Op_popped.br deque_Op_stolen.br deque_Op_looked.br deque_place.br deque_Op_next.br hR hQ)
theorem gstepJ {h0 h : Heap} {g b : Nat} {most : Int} {td ac ca c l : Sl} {p : PS} {N who : Nat} {n : Int} {Q : Unit → Heap → Prop} (o : Gm h0 h g b most td ac ca c l p) (ok : PsOk p N) (hN : N ≤ 1000000 * 4) (hw : who < p.acts.length)
    (hQ : ∀ td' ca' c' l' h', Gm h0 h' g b most td' ac ca' c' l' (p.step most n who) → Step (fpG g b ac ca c l) (fpG g b ac ca' c' l') h h' → Q () h') : CallT Try.prog 27 [Kd.val .ptr (some (ptr g)), Kd.val (.int .i64) n, Kd.val (.int .i64) (who : Int)] true .nil h Q :=
  deque_game_step.br (gstep_spec o ok hN hw deque_game_begin.br (fun q => deque_Steal.br (dsteal_spec deque_begin.br q)) (fun q => deque_Push.br (dpush_spec deque_begin.br q)) (fun q => deque_Pop.br (dpop_spec deque_begin.br q))
    (fun o q => cells_Arena_Who.br (who_spec o q)) (fun hR hl hf hz ok q => dstepJ hR hl hf hz ok q) (fun q => deque_Answer.br (answer_spec q)) hQ)
theorem dplayJ {low most thieves : Int} {td pk : Sl} {h : Heap} {todos : List DTd} {picks : List Int} (ht : Arr h KTd td todos) (hp : Arr h ki pk picks)
    {Q : (Den kapiDequeRun × (Int × Unit)) → Heap → Prop} (hE : judgeE low most todos thieves picks ≠ 0 → Q ((Sl.none, (Sl.none, (Sl.none, ()))), (judgeE low most todos thieves picks, ())) h)
    (hQ : judgeE low most todos thieves picks = 0 → ∀ ca re lg h', PlayR h h' (playOf low most todos thieves picks) ca re lg → Q ((ca, (re, (lg, ()))), (0, ())) h') :
    CallT Try.prog 9 [Kd.val (.int .i64) low, Kd.val (.int .i64) most, Kd.val .sl td, Kd.val (.int .i64) thieves, Kd.val .sl pk] true (.pair kapiDequeRun (.pair (.int .i64) .nil)) h Q :=
  deque_Play.br (dplay_spec ht hp (fun a b q => deque_judged.br (judged_spec a b deque_capsOK.br q)) (fun p q => deque_Cells.br (dcells_spec deque_capsOK.br p q)) (fun p q => cells_New.br (cnew_spec cells_good.br p q))
    (fun {_ _ b _ _ _ _ _ _} o hz hc hs q => deque_New.br (dnew0_spec (arC b) o hz hc hs deque_capsOK.br q)) (fun o q => cells_Arena_Watch.br (watch_spec o q)) (fun a b q => ops_Mod.br (opsMod_spec a b q)) gstepJ
    (fun o r q => deque_game_rest.br (grest_spec o r (fun o n q => cells_Arena_Cells.br (cells_spec o n q)) deque_place.br q)) (fun o n q => cells_Arena_Log.br (log_spec o n q)) hE hQ)
end Go.Mx

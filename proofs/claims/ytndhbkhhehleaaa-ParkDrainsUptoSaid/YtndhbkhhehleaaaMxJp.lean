/-
  park.Play by its number: the walks of its functions, joined.
-/
import Derived.Test.YtndhbkhhehleaaaMxWo
import Derived.Test.YtndhbkhhehleaaaMb
set_option linter.unusedVariables false
set_option linter.unusedSimpArgs false
set_option maxRecDepth 100000
namespace Go.Mx
open Go.Proofs

abbrev cLd : Value → Int → Heap → (Den KP2 → Heap → Prop) → Prop := fun x0 x1 h K => InvT Try.prog "Load" x0 [Kd.val (.int .i64) x1] true KP2 h K
abbrev cRs : Value → Int → Heap → (Den KP2 → Heap → Prop) → Prop := fun x0 x1 h K => InvT Try.prog "Reserve" x0 [Kd.val (.int .i64) x1] true KP2 h K
abbrev cSt : Value → Int → Int → Heap → (Int → Heap → Prop) → Prop := fun x0 x1 x2 h K => InvT Try.prog "Store" x0 [Kd.val (.int .i64) x1, Kd.val (.int .i64) x2] false (.int .i64) h K
abbrev cCs : Value → Int → Int → Int → Heap → ((Bool × (Int × Unit)) → Heap → Prop) → Prop := fun x0 x1 x2 x3 h K => InvT Try.prog "CAS" x0 [Kd.val (.int .i64) x1, Kd.val (.int .i64) x2, Kd.val (.int .i64) x3] true (.pair .bool (.pair (.int .i64) .nil)) h K

theorem arC (b : Nat) : ArC cLd cRs cSt cCs (NilT Try.prog) (.iface 25 (.pointer (some (ptr b)))) b where
  iface := trivial
  some' := rfl
  nil := fun n e => by
    rcases e with rfl | rfl
    · exact NilT.of (f := 104) (by kernel_rfl) _
    · exact NilT.of (f := 17) (by kernel_rfl) _
  load := fun o hl hE hQ => InvT.of (f := 104) (by kernel_rfl) (cells_Arena_Load.br (load_spec o hl cells_ledger_has.br (fun h => cells_Arena_outside.br h) cells_Arena_note.br hE hQ))
  store := fun o hl hE hQ => InvT.of (f := 17) (by kernel_rfl) (cells_Arena_Store.br (store_spec o hl cells_ledger_has.br (fun h => cells_Arena_outside.br h) cells_Arena_note.br hE hQ))
  cas := fun o hl hE hQ => InvT.of (f := 103) (by kernel_rfl) (cells_Arena_CAS.br (cas_spec o hl cells_ledger_has.br (fun h => cells_Arena_outside.br h) cells_Arena_note.br hE hQ))
  reserve := fun o hl hf hz hC hR hQ => InvT.of (f := 29) (by kernel_rfl) (cells_Arena_Reserve.br (reserve_spec o hl hf hz cells_ledger_refuse.br cells_ledger_take.br cells_Arena_note.br hC hR hQ))

theorem dstepJ {h0 : Heap} {b : Nat} {h : Heap} {s : AS} {S : Nat → Prop} {x : DOp} {Q : Den KOp → Heap → Prop} (hR : RA h0 b s S h) (hl : s.lg.length ≤ 1000000000) (hf : (s.cs.length : Int) ≤ s.sz) (hz : s.sz ≤ 1048576) (ok : x.Ok)
    (hQ : ∀ S' h', RA h0 b (stepD arenaI s x).1 S' h' → Step S S' h h' → Q (stepD arenaI s x).2.den h') : CallT Try.prog 63 [Kd.val .iface (.iface 25 (.pointer (some (ptr b)))), Kd.val KOp x.den] false KOp h Q :=
  deque_Step.br (dstep_spec ((arC b).mem hR hl hf hz) ok deque_Op_over.br deque_Op_access.br deque_Op_pushed.br deque_Op_popped.br deque_Op_stolen.br deque_Op_looked.br deque_place.br deque_Op_next.br hR hQ)
abbrev cAd : Value → Int → Int → Heap → (Den KP2 → Heap → Prop) → Prop := fun x0 x1 x2 h K => InvT Try.prog "Add" x0 [Kd.val (.int .i64) x1, Kd.val (.int .i64) x2] true KP2 h K
theorem arP : ArP 25 cLd cSt cCs cAd (NilT Try.prog) where
  nil := fun b n e => by
    rcases e with rfl | rfl | rfl | rfl
    · exact NilT.of (f := 104) (by kernel_rfl) _
    · exact NilT.of (f := 17) (by kernel_rfl) _
    · exact NilT.of (f := 103) (by kernel_rfl) _
    · exact NilT.of (f := 102) (by kernel_rfl) _
  load := fun {_ _ b _ _ _ _ _} R f n hQ => ((arC b).mem R (by have := f.lg; omega) f.cs f.sz).load hQ
  store := fun {_ _ b _ _ _ _ _ _} R f n hQ => ((arC b).mem R (by have := f.lg; omega) f.cs f.sz).store hQ
  cas := fun {_ _ b _ _ _ _ _ _ _} R f n hQ => ((arC b).mem R (by have := f.lg; omega) f.cs f.sz).cas hQ
  add := fun {_ h b s _ _ a d _} R f n hQ => by
    obtain ⟨sz, cs, lg, who, wt⟩ := s
    obtain ⟨c, l, rfl, o⟩ := R
    dsimp only at o
    refine InvT.of (f := 102) (by kernel_rfl) (cells_Arena_Add.br (add_spec o (by have := f.lg; dsimp only at this; omega) cells_ledger_has.br (fun h => cells_Arena_outside.br h) cells_Arena_note.br (fun q => ?_) fun v l' h' hv q o' st => ?_))
    · have e : arenaA ⟨sz, cs, lg, who, wt⟩ (.add a d) = (none, ⟨sz, cs, lg, who, wt⟩) := if_neg q
      rw [e] at hQ
      exact hQ 0 20 _ h (.inr ⟨rfl, by decide⟩) ⟨c, l, rfl, o⟩ (.refl _ _)
    · have e : arenaA ⟨sz, cs, lg, who, wt⟩ (.add a d) = (some (w64 (AS.at' ⟨sz, cs, lg, who, wt⟩ a + d)), AS.log ⟨sz, cs.set a.toNat (w64 (AS.at' ⟨sz, cs, lg, who, wt⟩ a + d)), lg, who, wt⟩ (who, (3, (a, (d, (w64 (AS.at' ⟨sz, cs, lg, who, wt⟩ a + d), (true, ()))))))) := if_pos q
      rw [e, at_of (s := ⟨sz, cs, lg, who, wt⟩) hv] at hQ
      exact hQ _ 0 _ h' (.inl ⟨rfl, rfl⟩) ⟨c, l', rfl, o'⟩ st
theorem casJ : CasP 25 fun x0 x1 h K => FnT Try.prog x0 [Kd.val (.int .i64) x1] true KP2 h K := fun {_ _ _ _ _ _ _ _ _ _ _ _ _} a b c d e f g => FnT.of (f := 67) (by kernel_rfl) (park_state_access_1.br (pcas_spec (T := 25) (fun p q => park_state_flag.br (pflag_spec p q)) arP a b c d e f g))
theorem stepOM : StepM 25 fun x0 x1 h K => CallT Try.prog 63 [Kd.val .iface x0, Kd.val KOp x1] false KOp h K := fun a b c d e f => dstepJ a b c d e f
theorem answM : AnswM fun x0 h K => CallT Try.prog 64 [Kd.val KOp x0] true KP2 h K := fun q => deque_Answer.br (answer_spec q)
theorem overJ : OverP fun x0 x1 x2 h K => CallT Try.prog 43 [Kd.val .ptr x0, Kd.val (.int .i64) x1, Kd.val (.int .i64) x2] true .nil h K := fun a b => park_state_over.br (pover_spec a b)
theorem backJ : BackP fun x0 x1 h K => CallT Try.prog 65 [Kd.val .ptr x0, Kd.val (.int .i64) x1] true .nil h K := fun a b => park_state_back.br (pback_spec a b)
theorem otherJ : OtherP fun x0 h K => CallT Try.prog 69 [Kd.val .ptr x0] false (.int .i64) h K := fun a b c => park_state_other.br (pother_spec a b c)
theorem flagJ : FlagP fun x0 x1 h K => CallT Try.prog 68 [Kd.val .ptr x0, Kd.val (.int .i64) x1] false (.int .i64) h K := fun a b => park_state_flag.br (pflag_spec a b)
theorem wokenJ : WokenP PSt.woken fun x0 x1 h K => CallT Try.prog 47 [Kd.val .ptr x0, Kd.val (.int .i64) x1] true .nil h K := fun a b c => park_state_woken.br (pwoken_spec overJ otherJ a b c)
theorem finishedJ : WokenP PSt.finished fun x0 x1 h K => CallT Try.prog 48 [Kd.val .ptr x0, Kd.val (.int .i64) x1] true .nil h K := fun a b c => park_state_finished.br (pfinished_spec overJ a b c)
theorem aroundJ : AroundP' fun x0 h K => CallT Try.prog 66 [Kd.val KPOp x0] false KPOp h K := fun a b => park_Op_around.br (paround_spec otherJ (fun q => deque_Look.br (dlook_spec deque_begin.br q)) a b)
theorem restedJ : RestedP fun x0 x1 h K => CallT Try.prog 46 [Kd.val KPOp x0, Kd.val (.int .i64) x1] false KPOp h K := fun a b => park_Op_rested.br (prested_spec aroundJ backJ overJ a b)
theorem lookedJ : LookedP 25 fun x0 x1 h K => CallT Try.prog 44 [Kd.val KPOp x0, Kd.val .iface x1] false KPOp h K := fun a b c d e f => park_Op_looked.br (plooked_spec stepOM answM backJ aroundJ overJ a b c d e f)
theorem accessJ : AccessP 25 fun x0 x1 h K => CallT Try.prog 45 [Kd.val .ptr x0, Kd.val .iface x1] true KP2 h K := fun a b c d e f => park_state_access.br (paccess_spec flagJ arP casJ otherJ a b c d e f)
theorem stepPJ : StepPC 25 fun x0 x1 h K => CallT Try.prog 15 [Kd.val .iface x0, Kd.val KPOp x1] false KPOp h K := fun a b c d e => park_Step.br (pstep_spec overJ lookedJ accessJ restedJ wokenJ finishedJ a b c d e)
theorem answPJ : PAnsC fun x0 h K => CallT Try.prog 14 [Kd.val KPOp x0] true KP2 h K := fun a => park_Answer.br (pans_spec a)
theorem parkPJ : PParkC fun x0 h K => CallT Try.prog 18 [Kd.val KPOp x0] false .bool h K := fun a => park_Parked.br (ppark_spec a)
theorem pcellsJ : PCellsC fun x0 h K => CallT Try.prog 30 [Kd.val (.int .i64) x0] false (.int .i64) h K := fun a b => park_Cells.br (pkcells_spec a b)
theorem rightJ : PRightC fun x0 x1 h K => CallT Try.prog 61 [Kd.val KP2 x0, Kd.val (.int .i64) x1] false .bool h K := fun a b => park_Lot_right.br (pright_spec pcellsJ a b)
theorem restJ : PRestC fun x0 x1 x2 h K => CallT Try.prog 34 [Kd.val KP2 x0, Kd.val (.int .i64) x1, Kd.val .sl x2] false KPOp h K := fun a b c => park_Rest.br (prest_spec rightJ a b c)
theorem wakeJ : PBegC RightP (fun b w s => (wakeD b w s).den) fun x0 x1 h K => CallT Try.prog 35 [Kd.val KP2 x0, Kd.val (.int .i64) x1] false KPOp h K := fun a b => park_Wake.br (pwake_spec rightJ a b)
theorem finishJ : PBegC RightP (fun b w s => (finD b w s).den) fun x0 x1 h K => CallT Try.prog 40 [Kd.val KP2 x0, Kd.val (.int .i64) x1] false KPOp h K := fun a b => park_Finish.br (pfinish_spec rightJ a b)
theorem whoM : WhoM fun x0 x1 h K => CallT Try.prog 53 [Kd.val .ptr x0, Kd.val (.int .i64) x1] true .nil h K := fun R q => by obtain ⟨c, l, rfl, o⟩ := R; exact cells_Arena_Who.br (who_spec o fun h1 o1 s1 => q h1 ⟨c, l, rfl, o1⟩ s1)
theorem cellsM : OutM ki AS.cs fun x0 h K => CallT Try.prog 74 [Kd.val .ptr x0] false .sl h K := fun R f n q => by obtain ⟨c, l, rfl, o⟩ := R; exact cells_Arena_Cells.br (cells_spec o (by have := f.cs; have := f.sz; omega) q)
theorem logM : OutM KAcc AS.lg fun x0 h K => CallT Try.prog 13 [Kd.val .ptr x0] false .sl h K := fun R f n q => by obtain ⟨c, l, rfl, o⟩ := R; exact cells_Arena_Log.br (log_spec o (by have := f.lg; omega) q)
theorem watchJ : WatchM fun x0 x1 h K => CallT Try.prog 16 [Kd.val .ptr x0, Kd.val .bool x1] true .nil h K := fun R q => by obtain ⟨c, l, rfl, o⟩ := R; exact cells_Arena_Watch.br (watch_spec o fun h1 o1 s1 => q h1 ⟨c, l, rfl, o1⟩ s1)
theorem newJ : NewA fun x0 h K => CallT Try.prog 28 [Kd.val (.int .i64) x0] true (.pair .ptr (.pair (.int .i64) .nil)) h K := fun a b q => cells_New.br (cnew_spec cells_good.br (fun z => absurd ⟨a, b⟩ z) (fun _ b h1 o => q b _ h1 ⟨_, _, rfl, o⟩))
theorem lotGJ : LotG 25 fun x0 x1 h K => CallT Try.prog 32 [Kd.val .iface x0, Kd.val (.int .i64) x1] true (.pair KP2 (.pair (.int .i64) .nil)) h K := fun a b c d e f => park_New.br (lotG_spec arC (fun _ => NilT.of (f := 29) (by kernel_rfl) _) pcellsJ a b c d e f)
theorem layGJ : LayJ 25 fun x0 x1 x2 h K => CallT Try.prog 33 [Kd.val .iface x0, Kd.val (.int .i64) x1, Kd.val (.int .i64) x2] true (.pair KP2 (.pair (.int .i64) .nil)) h K := fun a b c d e => deque_New.br (dnewG_spec arC deque_capsOK.br a b c d e)
theorem tookJ : TookC fun x0 x1 x2 x3 h K => CallT Try.prog 72 [Kd.val .ptr x0, Kd.val (.int .i64) x1, Kd.val (.int .i64) x2, Kd.val (.int .i64) x3] true .nil h K := fun a b c => park_game_took.br (took_spec a b c)
theorem pushJ : OpP1 fun x0 x1 h K => CallT Try.prog 82 [Kd.val KP2 x0, Kd.val (.int .i64) x1] false KOp h K := fun q => deque_Push.br (dpush_spec deque_begin.br q)
theorem popJ : OpP DOp.pop fun x0 h K => CallT Try.prog 83 [Kd.val KP2 x0] false KOp h K := fun q => deque_Pop.br (dpop_spec deque_begin.br q)
theorem stealJ : OpP DOp.steal fun x0 h K => CallT Try.prog 73 [Kd.val KP2 x0] false KOp h K := fun q => deque_Steal.br (dsteal_spec deque_begin.br q)
theorem beginJ : BeginC fun x0 x1 h K => CallT Try.prog 71 [Kd.val .ptr x0, Kd.val .ptr x1] false .bool h K := fun a b c d e f => park_game_begin.br (pkbegin_spec wakeJ pushJ popJ finishJ a b c d e f)
theorem workJ : WorkC fun x0 x1 h K => CallT Try.prog 54 [Kd.val .ptr x0, Kd.val .ptr x1] true .nil h K := fun a b c d e f g => park_game_worker.br (worker_spec stepPJ answPJ stepOM answM tookJ beginJ a b c d e f g)
theorem sleepJ : SleepC fun x0 x1 x2 h K => CallT Try.prog 55 [Kd.val .ptr x0, Kd.val .ptr x1, Kd.val (.int .i64) x2] true .nil h K := fun a b c d e f g i => park_game_sleeper.br (sleeper_spec stepOM answM tookJ stepPJ answPJ restJ stealJ a b c d e f g i)
theorem modQJ {x n : Int} {h : Heap} {Q : Int → Heap → Prop} (a : 0 < n) (b : n ≤ 1000000000) (q : Q (x % n) h) : CallT Try.prog 52 [Kd.val (.int .i64) x, Kd.val (.int .i64) n] false (.int .i64) h Q := ops_Mod.br (opsMod_spec a b q)
theorem toldJ : ToldC fun x0 h K => CallT Try.prog 56 [Kd.val .ptr x0] true .nil h K := fun a b c d e f g => park_game_told.br (told_park cellsM parkPJ modQJ logM a b c d e f g)
theorem playJ : PlayK fun x0 x1 x2 x3 x4 h K => CallT Try.prog 20 [Kd.val (.int .i64) x0, Kd.val (.int .i64) x1, Kd.val (.int .i64) x2, Kd.val .sl x3, Kd.val .sl x4] true (.pair KRun (.pair (.int .i64) .nil)) h K := playK_of fun ht hp hT hE hQ => park_Play.br (pplay_spec (fun a b q => park_judged.br (pjudged_spec (fun p q => deque_Cells.br (dcells_spec deque_capsOK.br p q)) a b q)) pcellsJ (fun p q => deque_Cells.br (dcells_spec deque_capsOK.br p q)) newJ lotGJ layGJ watchJ modQJ whoM workJ sleepJ toldJ ht hp hT hE hQ)
theorem fair9J {first most sl : Int} {td pk : Sl} {h : Heap} {todos : List DTd} {picks : List Int} {Q : Bool → Heap → Prop} (ht : Arr h KTd td todos) (hp : Arr h ki pk picks) (hT : judgeP first most sl todos picks = 0 → Q true h) (hF : Q false h) : CallT Try.prog 19 [Kd.val (.int .i64) first, Kd.val (.int .i64) most, Kd.val (.int .i64) sl, Kd.val .sl td, Kd.val .sl pk] false .bool h Q := law9_fair.br (fair9_spec ht hp hT hF)
end Go.Mx

/-
  What is proved: plunderlaw9.ParkSteps returns true and leaves its arguments as they were, for every input. Condition: what it reads is of bulk at most 1048576.
-/
import Derived.Test.YtndhbkhhehleaaaMxPu
import Derived.Test.YtndhbkhhehleaaaMxPk
import Derived.Test.YtndhbkhhehleaaaMxV
import Derived.Test.YtndhbkhhehleaaaMb
import Derived.WalkKit
import Derived.ProofKit
import Derived.JoinedCond
namespace Go.Proofs.Ytndhbkhhehleaaa.parkSteps
open Go.ChangeShapes Go.WideShapes Go.ChangeAt Go.RowKit Go.Mx
set_option linter.unusedVariables false
set_option linter.unusedSimpArgs false
set_option maxRecDepth 100000

theorem own : ownKnob Try.prog.godebug = none := by kernel_rfl

abbrev cLd : Value → Int → Heap → (Den KP2 → Heap → Prop) → Prop := fun x0 x1 h K => InvT Try.prog "Load" x0 [Kd.val (.int .i64) x1] true KP2 h K
abbrev cRs : Value → Int → Heap → (Den KP2 → Heap → Prop) → Prop := fun x0 x1 h K => InvT Try.prog "Reserve" x0 [Kd.val (.int .i64) x1] true KP2 h K
abbrev cSt : Value → Int → Int → Heap → (Int → Heap → Prop) → Prop := fun x0 x1 x2 h K => InvT Try.prog "Store" x0 [Kd.val (.int .i64) x1, Kd.val (.int .i64) x2] false (.int .i64) h K
abbrev cCs : Value → Int → Int → Int → Heap → ((Bool × (Int × Unit)) → Heap → Prop) → Prop := fun x0 x1 x2 x3 h K => InvT Try.prog "CAS" x0 [Kd.val (.int .i64) x1, Kd.val (.int .i64) x2, Kd.val (.int .i64) x3] true (.pair .bool (.pair (.int .i64) .nil)) h K

theorem arC (b : Nat) : ArC cLd cRs cSt cCs (NilT Try.prog) (.iface 25 (.pointer (some (ptr b)))) b where
  iface := trivial
  some' := rfl
  nil := fun n e => by
    rcases e with rfl | rfl
    · exact NilT.of (f := 104) (by kernel_rfl) _
    · exact NilT.of (f := 17) (by kernel_rfl) _
  load := fun o hl hE hQ => InvT.of (f := 104) (by kernel_rfl) (cells_Arena_Load.br (load_spec o hl cells_ledger_has.br (fun h => cells_Arena_outside.br h) cells_Arena_note.br hE hQ))
  store := fun o hl hE hQ => InvT.of (f := 17) (by kernel_rfl) (cells_Arena_Store.br (store_spec o hl cells_ledger_has.br (fun h => cells_Arena_outside.br h) cells_Arena_note.br hE hQ))
  cas := fun o hl hE hQ => InvT.of (f := 103) (by kernel_rfl) (cells_Arena_CAS.br (cas_spec o hl cells_ledger_has.br (fun h => cells_Arena_outside.br h) cells_Arena_note.br hE hQ))
  reserve := fun o hl hf hz hC hR hQ => InvT.of (f := 29) (by kernel_rfl) (cells_Arena_Reserve.br (reserve_spec o hl hf hz cells_ledger_refuse.br cells_ledger_take.br cells_Arena_note.br hC hR hQ))

theorem dstepJ {h0 : Heap} {b : Nat} {h : Heap} {s : AS} {S : Nat → Prop} {x : DOp} {Q : Den KOp → Heap → Prop} (hR : RA h0 b s S h) (hl : s.lg.length ≤ 1000000000) (hf : (s.cs.length : Int) ≤ s.sz) (hz : s.sz ≤ 1048576) (ok : x.Ok)
    (hQ : ∀ S' h', RA h0 b (stepD arenaI s x).1 S' h' → Step S S' h h' → Q (stepD arenaI s x).2.den h') : CallT Try.prog 63 [Kd.val .iface (.iface 25 (.pointer (some (ptr b)))), Kd.val KOp x.den] false KOp h Q :=
  deque_Step.br (dstep_spec ((arC b).mem hR hl hf hz) ok deque_Op_over.br deque_Op_access.br deque_Op_pushed.br deque_Op_popped.br deque_Op_stolen.br deque_Op_looked.br deque_place.br deque_Op_next.br hR hQ)
abbrev cAd : Value → Int → Int → Heap → (Den KP2 → Heap → Prop) → Prop := fun x0 x1 x2 h K => InvT Try.prog "Add" x0 [Kd.val (.int .i64) x1, Kd.val (.int .i64) x2] true KP2 h K
theorem arP : ArP 25 cLd cSt cCs cAd (NilT Try.prog) where
  nil := fun b n e => by
    rcases e with rfl | rfl | rfl | rfl
    · exact NilT.of (f := 104) (by kernel_rfl) _
    · exact NilT.of (f := 17) (by kernel_rfl) _
    · exact NilT.of (f := 103) (by kernel_rfl) _
    · exact NilT.of (f := 102) (by kernel_rfl) _
  load := fun {_ _ b _ _ _ _ _} R f n hQ => ((arC b).mem R (by have := f.lg; omega) f.cs f.sz).load hQ
  store := fun {_ _ b _ _ _ _ _ _} R f n hQ => ((arC b).mem R (by have := f.lg; omega) f.cs f.sz).store hQ
  cas := fun {_ _ b _ _ _ _ _ _ _} R f n hQ => ((arC b).mem R (by have := f.lg; omega) f.cs f.sz).cas hQ
  add := fun {_ h b s _ _ a d _} R f n hQ => by
    obtain ⟨sz, cs, lg, who, wt⟩ := s
    obtain ⟨c, l, rfl, o⟩ := R
    dsimp only at o
    refine InvT.of (f := 102) (by kernel_rfl) (cells_Arena_Add.br (add_spec o (by have := f.lg; dsimp only at this; omega) cells_ledger_has.br (fun h => cells_Arena_outside.br h) cells_Arena_note.br (fun q => ?_) fun v l' h' hv q o' st => ?_))
    · have e : arenaA ⟨sz, cs, lg, who, wt⟩ (.add a d) = (none, ⟨sz, cs, lg, who, wt⟩) := if_neg q
      rw [e] at hQ
      exact hQ 0 20 _ h (.inr ⟨rfl, by decide⟩) ⟨c, l, rfl, o⟩ (.refl _ _)
    · have e : arenaA ⟨sz, cs, lg, who, wt⟩ (.add a d) = (some (w64 (AS.at' ⟨sz, cs, lg, who, wt⟩ a + d)), AS.log ⟨sz, cs.set a.toNat (w64 (AS.at' ⟨sz, cs, lg, who, wt⟩ a + d)), lg, who, wt⟩ (who, (3, (a, (d, (w64 (AS.at' ⟨sz, cs, lg, who, wt⟩ a + d), (true, ()))))))) := if_pos q
      rw [e, at_of (s := ⟨sz, cs, lg, who, wt⟩) hv] at hQ
      exact hQ _ 0 _ h' (.inl ⟨rfl, rfl⟩) ⟨c, l', rfl, o'⟩ st
theorem casJ : CasP 25 fun x0 x1 h K => FnT Try.prog x0 [Kd.val (.int .i64) x1] true KP2 h K := fun {_ _ _ _ _ _ _ _ _ _ _ _ _} a b c d e f g => FnT.of (f := 67) (by kernel_rfl) (park_state_access_1.br (pcas_spec (T := 25) (fun p q => park_state_flag.br (pflag_spec p q)) arP a b c d e f g))
theorem stepOM : StepM 25 fun x0 x1 h K => CallT Try.prog 63 [Kd.val .iface x0, Kd.val KOp x1] false KOp h K := fun a b c d e f => dstepJ a b c d e f
theorem answM : AnswM fun x0 h K => CallT Try.prog 64 [Kd.val KOp x0] true KP2 h K := fun q => deque_Answer.br (answer_spec q)
theorem overJ : OverP fun x0 x1 x2 h K => CallT Try.prog 43 [Kd.val .ptr x0, Kd.val (.int .i64) x1, Kd.val (.int .i64) x2] true .nil h K := fun a b => park_state_over.br (pover_spec a b)
theorem backJ : BackP fun x0 x1 h K => CallT Try.prog 65 [Kd.val .ptr x0, Kd.val (.int .i64) x1] true .nil h K := fun a b => park_state_back.br (pback_spec a b)
theorem otherJ : OtherP fun x0 h K => CallT Try.prog 69 [Kd.val .ptr x0] false (.int .i64) h K := fun a b c => park_state_other.br (pother_spec a b c)
theorem flagJ : FlagP fun x0 x1 h K => CallT Try.prog 68 [Kd.val .ptr x0, Kd.val (.int .i64) x1] false (.int .i64) h K := fun a b => park_state_flag.br (pflag_spec a b)
theorem wokenJ : WokenP PSt.woken fun x0 x1 h K => CallT Try.prog 47 [Kd.val .ptr x0, Kd.val (.int .i64) x1] true .nil h K := fun a b c => park_state_woken.br (pwoken_spec overJ otherJ a b c)
theorem finishedJ : WokenP PSt.finished fun x0 x1 h K => CallT Try.prog 48 [Kd.val .ptr x0, Kd.val (.int .i64) x1] true .nil h K := fun a b c => park_state_finished.br (pfinished_spec overJ a b c)
theorem aroundJ : AroundP' fun x0 h K => CallT Try.prog 66 [Kd.val KPOp x0] false KPOp h K := fun a b => park_Op_around.br (paround_spec otherJ (fun q => deque_Look.br (dlook_spec deque_begin.br q)) a b)
theorem restedJ : RestedP fun x0 x1 h K => CallT Try.prog 46 [Kd.val KPOp x0, Kd.val (.int .i64) x1] false KPOp h K := fun a b => park_Op_rested.br (prested_spec aroundJ backJ overJ a b)
theorem lookedJ : LookedP 25 fun x0 x1 h K => CallT Try.prog 44 [Kd.val KPOp x0, Kd.val .iface x1] false KPOp h K := fun a b c d e f => park_Op_looked.br (plooked_spec stepOM answM backJ aroundJ overJ a b c d e f)
theorem accessJ : AccessP 25 fun x0 x1 h K => CallT Try.prog 45 [Kd.val .ptr x0, Kd.val .iface x1] true KP2 h K := fun a b c d e f => park_state_access.br (paccess_spec flagJ arP casJ otherJ a b c d e f)
theorem stepPJ : StepPC 25 fun x0 x1 h K => CallT Try.prog 15 [Kd.val .iface x0, Kd.val KPOp x1] false KPOp h K := fun a b c d e => park_Step.br (pstep_spec overJ lookedJ accessJ restedJ wokenJ finishedJ a b c d e)
theorem darkPJ : DarkPC fun x0 x1 h K => CallT Try.prog 15 [Kd.val .iface x0, Kd.val KPOp x1] false KPOp h K := fun a => park_Step.br (pdark_spec overJ a)
theorem answPJ : PAnsC fun x0 h K => CallT Try.prog 14 [Kd.val KPOp x0] true KP2 h K := fun a => park_Answer.br (pans_spec a)
theorem parkPJ : PParkC fun x0 h K => CallT Try.prog 18 [Kd.val KPOp x0] false .bool h K := fun a => park_Parked.br (ppark_spec a)
theorem pcellsJ : PCellsC fun x0 h K => CallT Try.prog 30 [Kd.val (.int .i64) x0] false (.int .i64) h K := fun a b => park_Cells.br (pkcells_spec a b)
theorem rightJ : PRightC fun x0 x1 h K => CallT Try.prog 61 [Kd.val KP2 x0, Kd.val (.int .i64) x1] false .bool h K := fun a b => park_Lot_right.br (pright_spec pcellsJ a b)
theorem restJ : PRestC fun x0 x1 x2 h K => CallT Try.prog 34 [Kd.val KP2 x0, Kd.val (.int .i64) x1, Kd.val .sl x2] false KPOp h K := fun a b c => park_Rest.br (prest_spec rightJ a b c)
theorem wakeJ : PBegC RightP (fun b w s => (wakeD b w s).den) fun x0 x1 h K => CallT Try.prog 35 [Kd.val KP2 x0, Kd.val (.int .i64) x1] false KPOp h K := fun a b => park_Wake.br (pwake_spec rightJ a b)
theorem finishJ : PBegC RightP (fun b w s => (finD b w s).den) fun x0 x1 h K => CallT Try.prog 40 [Kd.val KP2 x0, Kd.val (.int .i64) x1] false KPOp h K := fun a b => park_Finish.br (pfinish_spec rightJ a b)
theorem peekJ {base w : Int} {h : Heap} {Q : Den KPOp → Heap → Prop} (h1 : 1 ≤ w → w ≤ 64 → Q (peekD base w).den h) (h0 : ¬ (1 ≤ w ∧ w ≤ 64) → Q POp.zero.den h) : CallT Try.prog 38 [Kd.val KP2 (base, (w, ()))] false KPOp h Q := park_Peek.br (ppeek_spec pcellsJ h1 h0)
theorem dead9J : R9DeadC fun  h K => CallT Try.prog 42 [] false KR9 h K := fun a => ref9_Dead.br (r9dead_spec a)
theorem right9J : R9RightC fun x0 h K => CallT Try.prog 62 [Kd.val KP2 x0] false .bool h K := fun a b => ref9_Right.br (r9right_spec a b)
theorem rest9J : R9RestC fun x0 x1 x2 h K => CallT Try.prog 36 [Kd.val KP2 x0, Kd.val (.int .i64) x1, Kd.val .sl x2] false KR9 h K := fun a b c => ref9_Rest.br (r9rest_spec right9J dead9J a b c)
theorem wake9J : R9BegC RightP (r9beg 9) fun x0 x1 h K => CallT Try.prog 37 [Kd.val KP2 x0, Kd.val (.int .i64) x1] false KR9 h K := fun a b => ref9_Wake.br (r9wake_spec right9J dead9J a b)
theorem finish9J : R9BegC RightP (r9beg 13) fun x0 x1 h K => CallT Try.prog 41 [Kd.val KP2 x0, Kd.val (.int .i64) x1] false KR9 h K := fun a b => ref9_Finish.br (r9finish_spec right9J dead9J a b)
theorem peek9J {base w : Int} {h : Heap} {Q : Den KR9 → Heap → Prop} (h1 : 1 ≤ w → w ≤ 64 → Q (r9beg 12 base w 0) h) (h0 : ¬ (1 ≤ w ∧ w ≤ 64) → Q R9.dead.den h) : CallT Try.prog 39 [Kd.val KP2 (base, (w, ()))] false KR9 h Q := ref9_Peek.br (r9peek_spec right9J dead9J h1 h0)
theorem whoM : WhoM fun x0 x1 h K => CallT Try.prog 53 [Kd.val .ptr x0, Kd.val (.int .i64) x1] true .nil h K := fun R q => by obtain ⟨c, l, rfl, o⟩ := R; exact cells_Arena_Who.br (who_spec o fun h1 o1 s1 => q h1 ⟨c, l, rfl, o1⟩ s1)
theorem newM : NewM fun x0 h K => CallT Try.prog 28 [Kd.val (.int .i64) x0] true (.pair .ptr (.pair (.int .i64) .nil)) h K := fun q => cells_New.br (cnew_spec cells_good.br (fun z => absurd (by decide) z) (fun _ b h1 o => q b _ h1 ⟨_, _, rfl, o⟩))
theorem logM : OutM KAcc AS.lg fun x0 h K => CallT Try.prog 13 [Kd.val .ptr x0] false .sl h K := fun R f n q => by obtain ⟨c, l, rfl, o⟩ := R; exact cells_Arena_Log.br (log_spec o (by have := f.lg; omega) q)
theorem modX : ModX fun x0 x1 h K => CallT Try.prog 11 [Kd.val (.int .i64) x0, Kd.val (.int .i64) x1] false (.int .i64) h K := fun a b c => law9_mod.br (modx_spec a b c)
theorem arenaM : ArenaM fun x0 x1 h K => CallT Try.prog 9 [Kd.val (.int .i64) x0, Kd.val .sl x1] true (.pair .ptr (.pair .bool .nil)) h K := fun ha h0 h1 hb hQ => law9_arena.br (arena_spec ha h0 h1 hb (fun hq => cells_New.br (cnew_spec cells_good.br (fun q => absurd ⟨h0, h1⟩ q) (fun _ => hq))) (fun o a b c d e => cells_Arena_Reserve.br (reserve_spec o a b h1 cells_ledger_refuse.br cells_ledger_take.br cells_Arena_note.br c d e)) (fun o a b c => cells_Arena_Store.br (store_spec o a cells_ledger_has.br (fun h => cells_Arena_outside.br h) cells_Arena_note.br b c)) cells_Arena_Watch.br (fun b c l h1 o => hQ b _ h1 ⟨c, l, rfl, o⟩))
theorem watchM : WatchM fun x0 x1 h K => CallT Try.prog 16 [Kd.val .ptr x0, Kd.val .bool x1] true .nil h K := fun R q => by obtain ⟨c, l, rfl, o⟩ := R; exact cells_Arena_Watch.br (watch_spec o fun h1 o1 s1 => q h1 ⟨c, l, rfl, o1⟩ s1)
theorem storeM : StoreM fun x0 x1 x2 h K => CallT Try.prog 17 [Kd.val .ptr x0, Kd.val (.int .i64) x1, Kd.val (.int .i64) x2] false (.int .i64) h K := fun {_ b h s _ n a v _} R f hn hQ => by
  obtain ⟨sz, cs, lg, who, wt⟩ := s
  obtain ⟨c, l, rfl, o⟩ := R
  dsimp only at o
  refine cells_Arena_Store.br (store_spec o (by have := f.lg; dsimp only at this; omega) cells_ledger_has.br (fun h => cells_Arena_outside.br h) cells_Arena_note.br (fun q => ?_) fun l' h' q o' st => ?_)
  · have e : arenaI ⟨sz, cs, lg, who, wt⟩ (.st a v) = (none, ⟨sz, cs, lg, who, wt⟩) := if_neg q
    rw [e] at hQ
    exact hQ 20 _ h ⟨c, l, rfl, o⟩ (.refl _ _)
  · have e : arenaI ⟨sz, cs, lg, who, wt⟩ (.st a v) = (some 0, AS.log ⟨sz, cs.set a.toNat v, lg, who, wt⟩ (who, (1, (a, (v, (0, (true, ()))))))) := if_pos q
    rw [e] at hQ
    exact hQ 0 _ h' ⟨c, l', rfl, o'⟩ st
theorem bornM {base w : Int} {ds : Sl} {dl : List (Den KP2)} (hb : I64 base) (hd : ∀ x ∈ dl, I64 x.1) (hn : dl.length ≤ 1048576) : BornP2 base w ds dl fun x0 x1 x2 x3 h K => CallT Try.prog 12 [Kd.val KMv x0, Kd.val (.int .i64) x1, Kd.val (.int .i64) x2, Kd.val .sl x3] true (.pair KPOp (.pair KR9 .nil)) h K :=
  fun a b c d => law9_born.br (pborn2_spec hb hd hn restJ rest9J wakeJ wake9J peekJ peek9J finishJ finish9J dead9J a b c d)
theorem memAll : MemAll 25 cLd cRs cSt cCs (NilT Try.prog) := fun {_ _ b _ _} R a c d => (arC b).mem R a c d
theorem layJ : LayC 25 fun x0 x1 x2 h K => CallT Try.prog 33 [Kd.val .iface x0, Kd.val (.int .i64) x1, Kd.val (.int .i64) x2] true (.pair KP2 (.pair (.int .i64) .nil)) h K := fun a b c d e => deque_New.br (lay_spec memAll deque_capsOK.br a b c d e)
theorem lotJ : LotC 25 fun x0 x1 h K => CallT Try.prog 32 [Kd.val .iface x0, Kd.val (.int .i64) x1] true (.pair KP2 (.pair (.int .i64) .nil)) h K := fun a b c d e f => park_New.br (lot_spec memAll (fun _ => NilT.of (f := 29) (by kernel_rfl) _) pcellsJ a b c d e f)
theorem newN : NewN fun x0 h K => CallT Try.prog 28 [Kd.val (.int .i64) x0] true (.pair .ptr (.pair (.int .i64) .nil)) h K := fun a b q => cells_New.br (cnew_spec cells_good.br (fun z => absurd ⟨a, b⟩ z) (fun _ b h1 o => q b _ h1 ⟨_, _, rfl, o⟩))
theorem cells11 {h : Heap} {Q : Int → Heap → Prop} (hQ : Q 5 h) : CallT Try.prog 31 [Kd.val (.int .i64) 1, Kd.val (.int .i64) 1] false (.int .i64) h Q := deque_Cells.br (cells11_spec deque_capsOK.br hQ)
theorem aloneJ {p : Nat} {h : Heap} {Q : Bool → Heap → Prop} (p1 : 1 ≤ p) (p2 : p ≤ 8) (hQ : ∀ h', le h h' → Q true h') : CallT Try.prog 10 [Kd.val (.int .i64) (p : Int)] false .bool h Q :=
  law9_alone.br (alone_spec p1 p2 pcellsJ cells11 newN lotJ layJ restJ parkPJ stepPJ wakeJ answPJ hQ)
theorem call (bg : Sl) (base w : Int) (ds : Sl) (kind self : Int) (pk : Sl) (W : World) (bs : List Int) (dl ps : List (Den KP2)) (hb : Arr (view W) ki bg bs) (hd : Arr (view W) KP2 ds dl) (hp : Arr (view W) KP2 pk ps) (b1 : bg.cap ≤ 1048576) (b2 : ps.length ≤ 1048576) (b3 : dl.length ≤ 1048576) (r1 : ∀ x ∈ dl, I64 x.1) (r3 : I64 base) :
    CallT Try.prog 3 [Kd.val .sl bg, Kd.val (.int .i64) base, Kd.val (.int .i64) w, Kd.val .sl ds, Kd.val (.int .i64) kind, Kd.val (.int .i64) self, Kd.val .sl pk] false .bool (view W) fun b h' => b = true ∧ le (view W) h' :=
  law9_ParkSteps.br (parkSteps_spec hb hd hp b2 b1 arenaM modX aloneJ (bornM r3 r1 b3) logM answPJ stepPJ watchM storeM parkPJ fun h' l => ⟨rfl, l⟩)

theorem contract (H : Type) (enc : TypeId × Value → H) (W : World) (base : Nat) (args : Array Value) (ds gs : List (DataW H)) (before : List MemPlace)
    (hval : ∀ (j : Nat) t v, Try.f3.params[j]? = some t → args[j]? = some v → Value.okWide Try.prog W .any base t v)
    (hW : DataW.Whole enc Try.prog Try.f3.params.toList Rows.parkStepsSpec.vars false W args.toList ds gs before) (hk : Rows.uptoSmall H (ds ++ gs) = true) :
    Calls Try.prog 3 args W fun e W' => ∃ v, e = .returned v ∧ Rows.parkStepsSpec.post enc Try.prog Try.f3 false true false false W args v W' := by
  have hW' := hW
  obtain ⟨p, q, hA, hV, rfl, hfz, hnd⟩ := hW
  obtain ⟨rfl, rfl⟩ := trodVars_none hV
  rw [List.append_nil] at hk
  have hB : Rows.uptoBulkAll ds ≤ 1048576 := of_decide_eq_true hk
  obtain ⟨es, e1, e2, e3⟩ := args_of (P := Try.prog) (base := base) (m := 4) (B := 1048576) (ts := Try.f3.params.toList) (ks := [.sl, .int .i64, .int .i64, .sl, .int .i64, .int .i64, .sl]) (by kernel_rfl) (fun j t v a b => hval j t v (by simpa using a) (by simpa using b)) hA hB
  rcases es with _ | ⟨⟨k1, x1⟩, _ | ⟨⟨k2, x2⟩, _ | ⟨⟨k3, x3⟩, _ | ⟨⟨k4, x4⟩, _ | ⟨⟨k5, x5⟩, _ | ⟨⟨k6, x6⟩, _ | ⟨⟨k7, x7⟩, _ | ⟨_, _⟩⟩⟩⟩⟩⟩⟩⟩
  · cases e1
  · cases e1
  · cases e1
  · cases e1
  · cases e1
  · cases e1
  · cases e1
  · simp only [List.map_cons, List.map_nil, List.cons.injEq, and_true] at e1
    obtain ⟨rfl, rfl, rfl, rfl, rfl, rfl, rfl⟩ := e1
    rw [Try.params3] at e3 hA
    obtain ⟨f1, f2, f3, f4, f5, f6, f7, _⟩ := e3
    obtain ⟨bs, g1, g2, _, g8, _⟩ := f1.arr (ke := ki) (by kernel_rfl)
    obtain ⟨dl, g5, g6, _, _, _, g7⟩ := f4.arr (ke := KP2) (by kernel_rfl)
    obtain ⟨ps, g3, g4, _⟩ := f7.arr (ke := KP2) (by kernel_rfl)
    obtain ⟨v0, vs0, d0, ds0, p0, q0, _, rfl, _, _, r0⟩ := trodAll_cons hA
    obtain ⟨v1, vs1, d1, ds1, p1, q1, _, rfl, _, _, r1⟩ := trodAll_cons r0
    obtain ⟨v2, vs2, d2, ds2, p2, q2, _, rfl, _, _, r2⟩ := trodAll_cons r1
    obtain ⟨v3, vs3, d3, ds3, p3, q3, _, rfl, _, _, r3⟩ := trodAll_cons r2
    obtain ⟨v4, vs4, d4, ds4, p4, q4, _, rfl, _, _, r4⟩ := trodAll_cons r3
    obtain ⟨v5, vs5, d5, ds5, p5, q5, _, rfl, _, _, r5⟩ := trodAll_cons r4
    obtain ⟨v6, vs6, d6, ds6, p6, q6, _, rfl, _, _, r6⟩ := trodAll_cons r5
    obtain ⟨_, rfl, _⟩ := trodAll_nil r6
    refine law_post (bT := Try.f3.resultTypes.getD 0 0) (by kernel_rfl) (by kernel_rfl) (by kernel_rfl) rfl (by kernel_rfl) hW' (fun _ => ⟨rfl, rfl, rfl⟩) ?_
    rw [e2]
    exact call x1 x2 x3 x4 x5 x6 x7 W bs dl ps g1 g5 g3 g8 (by rw [g3.1]; exact g4) (by rw [g5.1]; exact g6) (fun x hx => by obtain ⟨fs, e, z⟩ := g7 x hx; have n2 : fs.toList.length = 2 := (fieldN_of e).symm.trans (by kernel_rfl); obtain ⟨t, y⟩ := FieldsOf.first z n2; exact I64.wf y) (I64.wf f2)
  · cases e1

theorem lifted (os : Os) (started : os.Started) (H : Type) (enc : TypeId × Value → H) (F : Stop.Interp) :
    ReturnsInHanded {} Try.checked os 3 .any ((Rows.OpenSpec.upto Rows.parkStepsSpec).pre6 enc Try.prog Try.f3 Rows.parkStepsUptoRow.domain false) (((Rows.OpenSpec.upto Rows.parkStepsSpec).at F).post enc Try.prog Try.f3 false true false false) := by
  refine returnsInHanded_of_cond (C := Try.checked) (s := Rows.OpenSpec.upto Rows.parkStepsSpec) (k := Rows.uptoSmall) rfl own started (by kernel_rfl) Try.func3
    (OpenSpec.witness (enc := enc) (C := Try.checked) (s := Rows.OpenSpec.upto Rows.parkStepsSpec) (k := Rows.uptoSmall) rfl false ⟨#[], #[.slice none 0 0, .int .i64 0, .int .i64 0, .slice none 0 0, .int .i64 0, .int .i64 0, .slice none 0 0], []⟩ 8 (by kernel_rfl) (by kernel_rfl) (by kernel_rfl)
      (x := ([.nil, .lit (.int .i64 0), .lit (.int .i64 0), .nil, .lit (.int .i64 0), .lit (.int .i64 0), .nil], [], [])) (by kernel_rfl) rfl (by kernel_rfl)) ?_
  intro W base args ds gs before hval hW _ hk _
  exact contract H enc W base args ds gs before hval hW hk

theorem over : Rows.parkStepsUptoRow.holds Try.pinned (Rows.OpenSpec.upto Rows.parkStepsSpec) :=
  OpenClaim.holds_of_cond 3 Try.f3 rfl rfl rfl rfl rfl rfl rfl ⟨rfl, rfl, rfl, rfl, rfl⟩ rfl rfl rfl rfl rfl (by kernel_rfl) Try.func3 (by kernel_rfl)
    (of_decide_eq_true (by kernel_rfl)) (by unfold Func.isWrapper; first | (rw [if_pos (by decide +kernel)]; kernel_rfl) | (rw [if_neg (by decide +kernel)]; exact ⟨rfl, rfl⟩))
    (fun os started H enc _ F => lifted os started H enc F)

theorem proved : Rows.ParkStepsUptoSaid :=
  over
end Go.Proofs.Ytndhbkhhehleaaa.parkSteps

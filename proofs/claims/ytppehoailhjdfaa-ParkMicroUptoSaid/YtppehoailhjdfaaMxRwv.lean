/-
  What is proved: plunderlaw9.ParkMicro returns true and leaves its arguments as they were, for every input. Condition: what it reads is of bulk at most 1048576.
-/
import Derived.Test.YtppehoailhjdfaaMxPi
import Derived.Test.YtppehoailhjdfaaMxV
import Derived.Test.YtppehoailhjdfaaMb
import Derived.WalkKit
import Derived.ProofKit
import Derived.JoinedCond
namespace Go.Proofs.Ytppehoailhjdfaa.parkMicro
open Go.ChangeShapes Go.WideShapes Go.ChangeAt Go.RowKit Go.Mx
set_option linter.unusedVariables false
set_option linter.unusedSimpArgs false
set_option maxRecDepth 100000

theorem own : ownKnob Try.prog.godebug = none := by kernel_rfl

abbrev cLd : Value → Int → Heap → (Den KP2 → Heap → Prop) → Prop := fun x0 x1 h K => InvT Try.prog "Load" x0 [Kd.val (.int .i64) x1] true KP2 h K
abbrev cRs : Value → Int → Heap → (Den KP2 → Heap → Prop) → Prop := fun x0 x1 h K => InvT Try.prog "Reserve" x0 [Kd.val (.int .i64) x1] true KP2 h K
abbrev cSt : Value → Int → Int → Heap → (Int → Heap → Prop) → Prop := fun x0 x1 x2 h K => InvT Try.prog "Store" x0 [Kd.val (.int .i64) x1, Kd.val (.int .i64) x2] false (.int .i64) h K
abbrev cCs : Value → Int → Int → Int → Heap → ((Bool × (Int × Unit)) → Heap → Prop) → Prop := fun x0 x1 x2 x3 h K => InvT Try.prog "CAS" x0 [Kd.val (.int .i64) x1, Kd.val (.int .i64) x2, Kd.val (.int .i64) x3] true (.pair .bool (.pair (.int .i64) .nil)) h K

theorem arC (b : Nat) : ArC cLd cRs cSt cCs (NilT Try.prog) (.iface 24 (.pointer (some (ptr b)))) b where
  iface := trivial
  some' := rfl
  nil := fun n e => by
    rcases e with rfl | rfl
    · exact NilT.of (f := 128) (by kernel_rfl) _
    · exact NilT.of (f := 53) (by kernel_rfl) _
  load := fun o hl hE hQ => InvT.of (f := 128) (by kernel_rfl) (cells_Arena_Load.br (load_spec o hl cells_ledger_has.br (fun h => cells_Arena_outside.br h) cells_Arena_note.br hE hQ))
  store := fun o hl hE hQ => InvT.of (f := 53) (by kernel_rfl) (cells_Arena_Store.br (store_spec o hl cells_ledger_has.br (fun h => cells_Arena_outside.br h) cells_Arena_note.br hE hQ))
  cas := fun o hl hE hQ => InvT.of (f := 127) (by kernel_rfl) (cells_Arena_CAS.br (cas_spec o hl cells_ledger_has.br (fun h => cells_Arena_outside.br h) cells_Arena_note.br hE hQ))
  reserve := fun o hl hf hz hC hR hQ => InvT.of (f := 52) (by kernel_rfl) (cells_Arena_Reserve.br (reserve_spec o hl hf hz cells_ledger_refuse.br cells_ledger_take.br cells_Arena_note.br hC hR hQ))

theorem dstepJ {h0 : Heap} {b : Nat} {h : Heap} {s : AS} {S : Nat → Prop} {x : DOp} {Q : Den KOp → Heap → Prop} (hR : RA h0 b s S h) (hl : s.lg.length ≤ 1000000000) (hf : (s.cs.length : Int) ≤ s.sz) (hz : s.sz ≤ 1048576) (ok : x.Ok)
    (hQ : ∀ S' h', RA h0 b (stepD arenaI s x).1 S' h' → Step S S' h h' → Q (stepD arenaI s x).2.den h') : CallT Try.prog 30 [Kd.val .iface (.iface 24 (.pointer (some (ptr b)))), Kd.val KOp x.den] false KOp h Q :=
  deque_Step.br (dstep_spec ((arC b).mem hR hl hf hz) ok deque_Op_over.br deque_Op_access.br deque_Op_pushed.br deque_Op_popped.br deque_Op_stolen.br deque_Op_looked.br deque_place.br deque_Op_next.br hR hQ)
abbrev cAd : Value → Int → Int → Heap → (Den KP2 → Heap → Prop) → Prop := fun x0 x1 x2 h K => InvT Try.prog "Add" x0 [Kd.val (.int .i64) x1, Kd.val (.int .i64) x2] true KP2 h K
theorem arP : ArP 24 cLd cSt cCs cAd (NilT Try.prog) where
  nil := fun b n e => by
    rcases e with rfl | rfl | rfl | rfl
    · exact NilT.of (f := 128) (by kernel_rfl) _
    · exact NilT.of (f := 53) (by kernel_rfl) _
    · exact NilT.of (f := 127) (by kernel_rfl) _
    · exact NilT.of (f := 126) (by kernel_rfl) _
  load := fun {_ _ b _ _ _ _ _} R f n hQ => ((arC b).mem R (by have := f.lg; omega) f.cs f.sz).load hQ
  store := fun {_ _ b _ _ _ _ _ _} R f n hQ => ((arC b).mem R (by have := f.lg; omega) f.cs f.sz).store hQ
  cas := fun {_ _ b _ _ _ _ _ _ _} R f n hQ => ((arC b).mem R (by have := f.lg; omega) f.cs f.sz).cas hQ
  add := fun {_ h b s _ _ a d _} R f n hQ => by
    obtain ⟨sz, cs, lg, who, wt⟩ := s
    obtain ⟨c, l, rfl, o⟩ := R
    dsimp only at o
    refine InvT.of (f := 126) (by kernel_rfl) (cells_Arena_Add.br (add_spec o (by have := f.lg; dsimp only at this; omega) cells_ledger_has.br (fun h => cells_Arena_outside.br h) cells_Arena_note.br (fun q => ?_) fun v l' h' hv q o' st => ?_))
    · have e : arenaA ⟨sz, cs, lg, who, wt⟩ (.add a d) = (none, ⟨sz, cs, lg, who, wt⟩) := if_neg q
      rw [e] at hQ
      exact hQ 0 20 _ h (.inr ⟨rfl, by decide⟩) ⟨c, l, rfl, o⟩ (.refl _ _)
    · have e : arenaA ⟨sz, cs, lg, who, wt⟩ (.add a d) = (some (w64 (AS.at' ⟨sz, cs, lg, who, wt⟩ a + d)), AS.log ⟨sz, cs.set a.toNat (w64 (AS.at' ⟨sz, cs, lg, who, wt⟩ a + d)), lg, who, wt⟩ (who, (3, (a, (d, (w64 (AS.at' ⟨sz, cs, lg, who, wt⟩ a + d), (true, ()))))))) := if_pos q
      rw [e, at_of (s := ⟨sz, cs, lg, who, wt⟩) hv] at hQ
      exact hQ _ 0 _ h' (.inl ⟨rfl, rfl⟩) ⟨c, l', rfl, o'⟩ st
theorem casJ : CasP 24 fun x0 x1 h K => FnT Try.prog x0 [Kd.val (.int .i64) x1] true KP2 h K := fun {_ _ _ _ _ _ _ _ _ _ _ _ _} a b c d e f g => FnT.of (f := 103) (by kernel_rfl) (park_state_access_1.br (pcas_spec (T := 24) (fun p q => park_state_flag.br (pflag_spec p q)) arP a b c d e f g))
theorem stepOM : StepM 24 fun x0 x1 h K => CallT Try.prog 30 [Kd.val .iface x0, Kd.val KOp x1] false KOp h K := fun a b c d e f => dstepJ a b c d e f
theorem answM : AnswM fun x0 h K => CallT Try.prog 34 [Kd.val KOp x0] true KP2 h K := fun q => deque_Answer.br (answer_spec q)
theorem overJ : OverP fun x0 x1 x2 h K => CallT Try.prog 80 [Kd.val .ptr x0, Kd.val (.int .i64) x1, Kd.val (.int .i64) x2] true .nil h K := fun a b => park_state_over.br (pover_spec a b)
theorem backJ : BackP fun x0 x1 h K => CallT Try.prog 101 [Kd.val .ptr x0, Kd.val (.int .i64) x1] true .nil h K := fun a b => park_state_back.br (pback_spec a b)
theorem otherJ : OtherP fun x0 h K => CallT Try.prog 105 [Kd.val .ptr x0] false (.int .i64) h K := fun a b c => park_state_other.br (pother_spec a b c)
theorem flagJ : FlagP fun x0 x1 h K => CallT Try.prog 104 [Kd.val .ptr x0, Kd.val (.int .i64) x1] false (.int .i64) h K := fun a b => park_state_flag.br (pflag_spec a b)
theorem wokenJ : WokenP PSt.woken fun x0 x1 h K => CallT Try.prog 84 [Kd.val .ptr x0, Kd.val (.int .i64) x1] true .nil h K := fun a b c => park_state_woken.br (pwoken_spec overJ otherJ a b c)
theorem finishedJ : WokenP PSt.finished fun x0 x1 h K => CallT Try.prog 85 [Kd.val .ptr x0, Kd.val (.int .i64) x1] true .nil h K := fun a b c => park_state_finished.br (pfinished_spec overJ a b c)
theorem aroundJ : AroundP' fun x0 h K => CallT Try.prog 102 [Kd.val KPOp x0] false KPOp h K := fun a b => park_Op_around.br (paround_spec otherJ (fun q => deque_Look.br (dlook_spec deque_begin.br q)) a b)
theorem restedJ : RestedP fun x0 x1 h K => CallT Try.prog 83 [Kd.val KPOp x0, Kd.val (.int .i64) x1] false KPOp h K := fun a b => park_Op_rested.br (prested_spec aroundJ backJ overJ a b)
theorem lookedJ : LookedP 24 fun x0 x1 h K => CallT Try.prog 81 [Kd.val KPOp x0, Kd.val .iface x1] false KPOp h K := fun a b c d e f => park_Op_looked.br (plooked_spec stepOM answM backJ aroundJ overJ a b c d e f)
theorem accessJ : AccessP 24 fun x0 x1 h K => CallT Try.prog 82 [Kd.val .ptr x0, Kd.val .iface x1] true KP2 h K := fun a b c d e f => park_state_access.br (paccess_spec flagJ arP casJ otherJ a b c d e f)
theorem stepPJ : StepPC 24 fun x0 x1 h K => CallT Try.prog 46 [Kd.val .iface x0, Kd.val KPOp x1] false KPOp h K := fun a b c d e => park_Step.br (pstep_spec overJ lookedJ accessJ restedJ wokenJ finishedJ a b c d e)
theorem darkPJ : DarkPC fun x0 x1 h K => CallT Try.prog 46 [Kd.val .iface x0, Kd.val KPOp x1] false KPOp h K := fun a => park_Step.br (pdark_spec overJ a)
theorem answPJ : PAnsC fun x0 h K => CallT Try.prog 49 [Kd.val KPOp x0] true KP2 h K := fun a => park_Answer.br (pans_spec a)
theorem parkPJ : PParkC fun x0 h K => CallT Try.prog 50 [Kd.val KPOp x0] false .bool h K := fun a => park_Parked.br (ppark_spec a)
theorem pcellsJ : PCellsC fun x0 h K => CallT Try.prog 17 [Kd.val (.int .i64) x0] false (.int .i64) h K := fun a b => park_Cells.br (pkcells_spec a b)
theorem rightJ : PRightC fun x0 x1 h K => CallT Try.prog 99 [Kd.val KP2 x0, Kd.val (.int .i64) x1] false .bool h K := fun a b => park_Lot_right.br (pright_spec pcellsJ a b)
theorem restJ : PRestC fun x0 x1 x2 h K => CallT Try.prog 72 [Kd.val KP2 x0, Kd.val (.int .i64) x1, Kd.val .sl x2] false KPOp h K := fun a b c => park_Rest.br (prest_spec rightJ a b c)
theorem wakeJ : PBegC RightP (fun b w s => (wakeD b w s).den) fun x0 x1 h K => CallT Try.prog 74 [Kd.val KP2 x0, Kd.val (.int .i64) x1] false KPOp h K := fun a b => park_Wake.br (pwake_spec rightJ a b)
theorem finishJ : PBegC RightP (fun b w s => (finD b w s).den) fun x0 x1 h K => CallT Try.prog 78 [Kd.val KP2 x0, Kd.val (.int .i64) x1] false KPOp h K := fun a b => park_Finish.br (pfinish_spec rightJ a b)
theorem peekJ {base w : Int} {h : Heap} {Q : Den KPOp → Heap → Prop} (h1 : 1 ≤ w → w ≤ 64 → Q (peekD base w).den h) (h0 : ¬ (1 ≤ w ∧ w ≤ 64) → Q POp.zero.den h) : CallT Try.prog 76 [Kd.val KP2 (base, (w, ()))] false KPOp h Q := park_Peek.br (ppeek_spec pcellsJ h1 h0)
theorem dead9J : R9DeadC fun  h K => CallT Try.prog 44 [] false KR9 h K := fun a => ref9_Dead.br (r9dead_spec a)
theorem to9J : R2C R9.to fun x0 x1 h K => CallT Try.prog 107 [Kd.val KR9 x0, Kd.val (.int .i64) x1] false KR9 h K := fun a => ref9_Op_to.br (r9to_spec a)
theorem end9J : REndC fun x0 x1 x2 h K => CallT Try.prog 87 [Kd.val KR9 x0, Kd.val (.int .i64) x1, Kd.val (.int .i64) x2] false KR9 h K := fun a => ref9_Op_end.br (r9end_spec a)
theorem who9J : RWhoC fun x0 h K => CallT Try.prog 106 [Kd.val KR9 x0] false (.int .i64) h K := fun a b => ref9_Op_who.br (r9who_spec a b)
theorem around9J : RAroundC fun x0 x1 x2 h K => CallT Try.prog 108 [Kd.val KR9 x0, Kd.val (.int .i64) x1, Kd.val KR9 x2] false KR9 h K := fun a => ref9_Op_around.br (r9around_spec a)
theorem rested9J : R2C R9.rested fun x0 x1 h K => CallT Try.prog 88 [Kd.val KR9 x0, Kd.val (.int .i64) x1] false KR9 h K := fun a => ref9_Op_rested.br (r9rested_spec to9J around9J end9J a)
theorem mdoAJ : MDoA fun x0 x1 h K => CallT Try.prog 55 [Kd.val .ptr x0, Kd.val KWn x1] true (.pair ki (.pair .bool .nil)) h K := fun a b c d => ref3_Mem_Do.br (mdoA_spec a b c d)
theorem step9J : RStep9C fun x0 x1 h K => CallT Try.prog 47 [Kd.val .ptr x0, Kd.val KR9 x1] false KR9 h K := fun a b c d e => ref9_Step.br (rstep9_spec (fun x y z => ref9_Op_want.br (r9want_spec who9J x y z)) mdoAJ end9J rested9J (fun x y => ref9_Op_told.br (r9told_spec end9J around9J to9J who9J x y)) a b c d e)
theorem answ9J : R9AnsC fun x0 h K => CallT Try.prog 48 [Kd.val KR9 x0] true KP2 h K := fun a => ref9_Answer.br (r9ans_spec a)
theorem park9J : R9ParkC fun x0 h K => CallT Try.prog 51 [Kd.val KR9 x0] false .bool h K := fun a => ref9_Parked.br (r9park_spec a)
theorem right9J : R9RightC fun x0 h K => CallT Try.prog 100 [Kd.val KP2 x0] false .bool h K := fun a b => ref9_Right.br (r9right_spec a b)
theorem rest9J : R9RestC fun x0 x1 x2 h K => CallT Try.prog 73 [Kd.val KP2 x0, Kd.val (.int .i64) x1, Kd.val .sl x2] false KR9 h K := fun a b c => ref9_Rest.br (r9rest_spec right9J dead9J a b c)
theorem wake9J : R9BegC RightP (r9beg 9) fun x0 x1 h K => CallT Try.prog 75 [Kd.val KP2 x0, Kd.val (.int .i64) x1] false KR9 h K := fun a b => ref9_Wake.br (r9wake_spec right9J dead9J a b)
theorem finish9J : R9BegC RightP (r9beg 13) fun x0 x1 h K => CallT Try.prog 79 [Kd.val KP2 x0, Kd.val (.int .i64) x1] false KR9 h K := fun a b => ref9_Finish.br (r9finish_spec right9J dead9J a b)
theorem peek9J {base w : Int} {h : Heap} {Q : Den KR9 → Heap → Prop} (h1 : 1 ≤ w → w ≤ 64 → Q (r9beg 12 base w 0) h) (h0 : ¬ (1 ≤ w ∧ w ≤ 64) → Q R9.dead.den h) : CallT Try.prog 77 [Kd.val KP2 (base, (w, ()))] false KR9 h Q := ref9_Peek.br (r9peek_spec right9J dead9J h1 h0)
theorem whoM : WhoM fun x0 x1 h K => CallT Try.prog 29 [Kd.val .ptr x0, Kd.val (.int .i64) x1] true .nil h K := fun R q => by obtain ⟨c, l, rfl, o⟩ := R; exact cells_Arena_Who.br (who_spec o fun h1 o1 s1 => q h1 ⟨c, l, rfl, o1⟩ s1)
theorem newM : NewM fun x0 h K => CallT Try.prog 33 [Kd.val (.int .i64) x0] true (.pair .ptr (.pair (.int .i64) .nil)) h K := fun q => cells_New.br (cnew_spec cells_good.br (fun z => absurd (by decide) z) (fun _ b h1 o => q b _ h1 ⟨_, _, rfl, o⟩))
theorem cellsM : OutM ki AS.cs fun x0 h K => CallT Try.prog 14 [Kd.val .ptr x0] false .sl h K := fun R f n q => by obtain ⟨c, l, rfl, o⟩ := R; exact cells_Arena_Cells.br (cells_spec o (by have := f.cs; have := f.sz; omega) q)
theorem logM : OutM KAcc AS.lg fun x0 h K => CallT Try.prog 16 [Kd.val .ptr x0] false .sl h K := fun R f n q => by obtain ⟨c, l, rfl, o⟩ := R; exact cells_Arena_Log.br (log_spec o (by have := f.lg; omega) q)
theorem modM : ModM fun x0 x1 h K => CallT Try.prog 9 [Kd.val (.int .i64) x0, Kd.val (.int .i64) x1] false (.int .i64) h K := fun a b c => law9_mod.br (mod_spec a b c)
theorem arenaM : ArenaM fun x0 x1 h K => CallT Try.prog 10 [Kd.val (.int .i64) x0, Kd.val .sl x1] true (.pair .ptr (.pair .bool .nil)) h K := fun ha h0 h1 hb hQ => law9_arena.br (arena_spec ha h0 h1 hb (fun hq => cells_New.br (cnew_spec cells_good.br (fun q => absurd ⟨h0, h1⟩ q) (fun _ => hq))) (fun o a b c d e => cells_Arena_Reserve.br (reserve_spec o a b h1 cells_ledger_refuse.br cells_ledger_take.br cells_Arena_note.br c d e)) (fun o a b c => cells_Arena_Store.br (store_spec o a cells_ledger_has.br (fun h => cells_Arena_outside.br h) cells_Arena_note.br b c)) cells_Arena_Watch.br (fun b c l h1 o => hQ b _ h1 ⟨c, l, rfl, o⟩))
theorem sameIM : SameM ki fun x0 x1 h K => CallT Try.prog 13 [Kd.val .sl x0, Kd.val .sl x1] false .bool h K := fun a b c q => law9_sameInts.br (sameInts_spec a b c q)
theorem sameLM : SameM KAcc fun x0 x1 h K => CallT Try.prog 15 [Kd.val .sl x0, Kd.val .sl x1] false .bool h K := fun a b c q => law9_sameLog.br (sameLog_spec a b c q)
theorem bornM {base w : Int} {ds : Sl} {dl : List (Den KP2)} (hb : I64 base) (hd : ∀ x ∈ dl, I64 x.1) (hn : dl.length ≤ 1048576) : BornP base w ds dl fun x0 x1 x2 x3 h K => CallT Try.prog 45 [Kd.val KMv x0, Kd.val (.int .i64) x1, Kd.val (.int .i64) x2, Kd.val .sl x3] true (.pair KPOp (.pair KR9 .nil)) h K :=
  fun a b c d => law9_born.br (pborn_spec hb hd hn restJ rest9J wakeJ wake9J peekJ peek9J finishJ finish9J dead9J a b c d)
theorem call (size : Int) (bg : Sl) (base w : Int) (ds mv : Sl) (W : World) (bs : List Int) (dl : List (Den KP2)) (ms : List (Den KMv)) (hb : Arr (view W) ki bg bs) (hd : Arr (view W) KP2 ds dl) (hm : Arr (view W) KMv mv ms) (b1 : bs.length ≤ 1048576) (b2 : ms.length ≤ 1048576) (b3 : dl.length ≤ 1048576) (r1 : ∀ x ∈ dl, I64 x.1) (r3 : I64 base) :
    CallT Try.prog 8 [Kd.val (.int .i64) size, Kd.val .sl bg, Kd.val (.int .i64) base, Kd.val (.int .i64) w, Kd.val .sl ds, Kd.val .sl mv] false .bool (view W) fun b h' => b = true ∧ le (view W) h' :=
  law9_ParkMicro.br (parkMicro_spec hb b1 hd hm b2 modM arenaM (bornM r3 r1 b3) whoM stepPJ darkPJ step9J dead9J newM answPJ answ9J parkPJ park9J cellsM sameIM logM sameLM fun h' l => ⟨rfl, l⟩)

theorem contract (H : Type) (enc : TypeId × Value → H) (W : World) (base : Nat) (args : Array Value) (ds gs : List (DataW H)) (before : List MemPlace)
    (hval : ∀ (j : Nat) t v, Try.f8.params[j]? = some t → args[j]? = some v → Value.okWide Try.prog W .any base t v)
    (hW : DataW.Whole enc Try.prog Try.f8.params.toList Rows.parkMicroSpec.vars false W args.toList ds gs before) (hk : Rows.uptoSmall H (ds ++ gs) = true) :
    Calls Try.prog 8 args W fun e W' => ∃ v, e = .returned v ∧ Rows.parkMicroSpec.post enc Try.prog Try.f8 false true false false W args v W' := by
  have hW' := hW
  obtain ⟨p, q, hA, hV, rfl, hfz, hnd⟩ := hW
  obtain ⟨rfl, rfl⟩ := trodVars_none hV
  rw [List.append_nil] at hk
  have hB : Rows.uptoBulkAll ds ≤ 1048576 := of_decide_eq_true hk
  obtain ⟨es, e1, e2, e3⟩ := args_of (P := Try.prog) (base := base) (m := 4) (B := 1048576) (ts := Try.f8.params.toList) (ks := [.int .i64, .sl, .int .i64, .int .i64, .sl, .sl]) (by kernel_rfl) (fun j t v a b => hval j t v (by simpa using a) (by simpa using b)) hA hB
  rcases es with _ | ⟨⟨k1, x1⟩, _ | ⟨⟨k2, x2⟩, _ | ⟨⟨k3, x3⟩, _ | ⟨⟨k4, x4⟩, _ | ⟨⟨k5, x5⟩, _ | ⟨⟨k6, x6⟩, _ | ⟨_, _⟩⟩⟩⟩⟩⟩⟩
  · cases e1
  · cases e1
  · cases e1
  · cases e1
  · cases e1
  · cases e1
  · simp only [List.map_cons, List.map_nil, List.cons.injEq, and_true] at e1
    obtain ⟨rfl, rfl, rfl, rfl, rfl, rfl⟩ := e1
    rw [Try.params8] at e3 hA
    obtain ⟨f1, f2, f3, f4, f5, f6, _⟩ := e3
    obtain ⟨bs, g1, g2, _⟩ := f2.arr (ke := ki) (by kernel_rfl)
    obtain ⟨dl, g5, g6, _, _, _, g7⟩ := f5.arr (ke := KP2) (by kernel_rfl)
    obtain ⟨ms, g3, g4, _⟩ := f6.arr (ke := KMv) (by kernel_rfl)
    obtain ⟨v0, vs0, d0, ds0, p0, q0, _, rfl, _, _, r0⟩ := trodAll_cons hA
    obtain ⟨v1, vs1, d1, ds1, p1, q1, _, rfl, _, _, r1⟩ := trodAll_cons r0
    obtain ⟨v2, vs2, d2, ds2, p2, q2, _, rfl, _, _, r2⟩ := trodAll_cons r1
    obtain ⟨v3, vs3, d3, ds3, p3, q3, _, rfl, _, _, r3⟩ := trodAll_cons r2
    obtain ⟨v4, vs4, d4, ds4, p4, q4, _, rfl, _, _, r4⟩ := trodAll_cons r3
    obtain ⟨v5, vs5, d5, ds5, p5, q5, _, rfl, _, _, r5⟩ := trodAll_cons r4
    obtain ⟨_, rfl, _⟩ := trodAll_nil r5
    refine law_post (bT := Try.f8.resultTypes.getD 0 0) (by kernel_rfl) (by kernel_rfl) (by kernel_rfl) rfl (by kernel_rfl) hW' (fun _ => ⟨rfl, rfl, rfl⟩) ?_
    rw [e2]
    exact call x1 x2 x3 x4 x5 x6 W bs dl ms g1 g5 g3 (by rw [g1.1]; exact g2) (by rw [g3.1]; exact g4) (by rw [g5.1]; exact g6) (fun x hx => by obtain ⟨fs, e, z⟩ := g7 x hx; have n2 : fs.toList.length = 2 := (fieldN_of e).symm.trans (by kernel_rfl); obtain ⟨t, y⟩ := FieldsOf.first z n2; exact I64.wf y) (I64.wf f3)
  · cases e1

theorem lifted (os : Os) (started : os.Started) (H : Type) (enc : TypeId × Value → H) (F : Stop.Interp) :
    ReturnsInHanded {} Try.checked os 8 .any ((Rows.OpenSpec.upto Rows.parkMicroSpec).pre6 enc Try.prog Try.f8 Rows.parkMicroUptoRow.domain false) (((Rows.OpenSpec.upto Rows.parkMicroSpec).at F).post enc Try.prog Try.f8 false true false false) := by
  refine returnsInHanded_of_cond (C := Try.checked) (s := Rows.OpenSpec.upto Rows.parkMicroSpec) (k := Rows.uptoSmall) rfl own started (by kernel_rfl) Try.func8
    (OpenSpec.witness (enc := enc) (C := Try.checked) (s := Rows.OpenSpec.upto Rows.parkMicroSpec) (k := Rows.uptoSmall) rfl false ⟨#[], #[.int .i64 0, .slice none 0 0, .int .i64 0, .int .i64 0, .slice none 0 0, .slice none 0 0], []⟩ 8 (by kernel_rfl) (by kernel_rfl) (by kernel_rfl)
      (x := ([.lit (.int .i64 0), .nil, .lit (.int .i64 0), .lit (.int .i64 0), .nil, .nil], [], [])) (by kernel_rfl) rfl (by kernel_rfl)) ?_
  intro W base args ds gs before hval hW _ hk _
  exact contract H enc W base args ds gs before hval hW hk

theorem over : Rows.parkMicroUptoRow.holds Try.pinned (Rows.OpenSpec.upto Rows.parkMicroSpec) :=
  OpenClaim.holds_of_cond 8 Try.f8 rfl rfl rfl rfl rfl rfl rfl ⟨rfl, rfl, rfl, rfl, rfl⟩ rfl rfl rfl rfl rfl (by kernel_rfl) Try.func8 (by kernel_rfl)
    (of_decide_eq_true (by kernel_rfl)) (by unfold Func.isWrapper; first | (rw [if_pos (by decide +kernel)]; kernel_rfl) | (rw [if_neg (by decide +kernel)]; exact ⟨rfl, rfl⟩))
    (fun os started H enc _ F => lifted os started H enc F)

theorem proved : Rows.ParkMicroUptoSaid :=
  over
end Go.Proofs.Ytppehoailhjdfaa.parkMicro
